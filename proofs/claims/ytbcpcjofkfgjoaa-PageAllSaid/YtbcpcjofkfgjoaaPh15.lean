/- Part 15 of what the laws' proofs rest on. No condition. -/
import Derived.Test.YtbcpcjofkfgjoaaProg
import Derived.Test.YtbcpcjofkfgjoaaPh14
set_option linter.all false
section
namespace Go.Proofs.Ytbcpcjofkfgjoaa
open Go.ChangeShapes Go.WideShapes Go.ChangeAt Go.RowKit
section
variable {K : Code → CC → Prop} {ρ : Mp} {h : List AB} {w : World}
theorem In.hz (i : In K ρ h w) : h.map AB.freeze = h := by
 refine List.ext_getElem? fun j => ?_
 rw [List.getElem?_map]
 cases e : h[j]? with
 | none => rfl
 | some B =>
  have := i.frz B (List.mem_of_getElem? e)
  rw [Option.map_some]
  congr 1
  cases B <;> first | rfl | (cases this; done) | (simp only [AB.mut] at this; subst this; rfl)
theorem In.sl {α : Type} {r : Row α} (i : In K ρ h w) (hfl : ∀ x, ∀ a ∈ r.f x, a.fl = true) {v : Value} {l : List α} (hs : Sl w v l.length ((r.cells l).map AV.val)) :
  ∃ x s B, In K (ρ ++ [x]) (h ++ [B]) w ∧ VR (ρ ++ [x]) s v ∧ Rd r (h ++ [B]) s l ∧ Ext ρ (ρ ++ [x]) ∧ s.capOk = true := by
 obtain ⟨hl, x, i', vr⟩ := i.slice hfl hs
 exact ⟨x, _, _, i', vr, Zzg (by rw [List.getElem?_append_right (Nat.le_refl _), Nat.sub_self]; rfl) hl, Ext.push _ _, qhS _ _⟩
theorem RdL.row {α : Type} {r : Row α} {v : Value} {ts : List α} (e : RdL (fun _ cs x => cs = (r.f x).map AV.val) r.sz w v ts) : Sl w v ts.length ((r.cells ts).map AV.val) := by
 obtain ⟨cs, h1, h2, h3⟩ := e
 have hcs : cs = (r.cells ts).map AV.val := by
  apply List.ext_getElem?
  intro k
  by_cases hk : k < ts.length * r.sz
  ·have hi : k / r.sz < ts.length := (Nat.div_lt_iff_lt_mul r.pos).2 hk
   have hj := Nat.mod_lt k r.pos
   have ek : k = k / r.sz * r.sz + k % r.sz := by rw [Nat.mul_comm]; exact (Nat.div_add_mod k r.sz).symm
   have ht : ts[k / r.sz]? = some (ts.getD (k / r.sz) r.d) := by rw [List.getD_eq_getElem?_getD, List.getElem?_eq_getElem hi]; rfl
   have q := h3 _ _ ht
   have q1 : ((cs.drop (k / r.sz * r.sz)).take r.sz)[k % r.sz]? = ((r.f (ts.getD (k / r.sz) r.d)).map AV.val)[k % r.sz]? := by rw [q]
   rw [List.getElem?_take_of_lt hj, List.getElem?_drop, ← ek, List.getElem?_map, ← r.cells_get ts _ _ hi hj, ← ek] at q1
   rw [q1, List.getElem?_map]
  ·rw [List.getElem?_eq_none (by omega), List.getElem?_eq_none (by rw [List.length_map, r.cells_len]; omega)]
 rw [hcs] at h1
 exact h1
end
section
variable {H : Type} {enc : TypeId × Value → H} {w : World} {base : Nat} {held : Bool}
theorem ZI1 {fuel : Nat} {i : Int} {x : DataW H × List MemPlace} (h : DataW.trod enc Try.prog w base (fun _ => true) held fuel 3 [.int .i64 i] = some x) : -9223372036854775808 ≤ i ∧ i ≤ 9223372036854775807 := by
 obtain ⟨n, e, hw⟩ := Xhn Try.underlying3 h
 cases e
 exact J3J hw
end
end Go.Proofs.Ytbcpcjofkfgjoaa
end
section
namespace Go.Proofs.Ytbcpcjofkfgjoaa
section
variable {α : Type} {r : Row α} {h l : List AB}
def mskQ (base c anc : Nat) (past : List Pt) (l : List AB) : List AB := mskL base c anc past [] 0 l
def vis (base c anc : Nat) (past : List Pt) (k : Nat) : Bool := decide (k < c) || past.any (fun p => bit p.k anc && decide (p.lo ≤ base + k) && decide (base + k < p.hi))
theorem Q7Z (base c anc : Nat) (past : List Pt) (k : Nat) : qOk (base + c) 0 0 anc past (base + k) = vis base c anc past k := by
 rw [zwe]
 unfold vis
 have e1 : decide (base + k < base + c) = decide (k < c) := decide_eq_decide.2 (by omega)
 have e2 : decide (base + k < 0) = false := decide_eq_false (by omega)
 rw [e1, e2, Bool.and_false, Bool.or_false]
theorem X1J (base c anc : Nat) (past : List Pt) (l : List AB) (k : Nat) : (mskQ base c anc past l)[k]? = (l[k]?).map fun B => if vis base c anc past k = true then B.freeze else .dead := by
 unfold mskQ
 rw [Xus, Nat.zero_add]
 congr 1
 funext B
 rw [Q7Z]
 simp [Jse]
theorem zJx (base c anc : Nat) (past : List Pt) (l : List AB) : (mskQ base c anc past l).length = l.length := by
 rcases Nat.lt_trichotomy (mskQ base c anc past l).length l.length with q | q | q
 ·have := X1J base c anc past l (mskQ base c anc past l).length
  rw [List.getElem?_eq_none (Nat.le_refl _), List.getElem?_eq_getElem q] at this
  cases this
 ·exact q
 ·have := X1J base c anc past l l.length
  rw [List.getElem?_eq_none (Nat.le_refl _), List.getElem?_eq_getElem q] at this
  cases this
theorem QfV (L : List AB) (k : Nat) : ownC L k = match L[k]? with
  | some (.blk _ _ xs) => some xs
  | _ => none := by rw [← YzI]; rfl
theorem qwF {base c anc : Nat} {past : List Pt} {k : Nat} (hv : vis base c anc past k = true) : ownC (mskQ base c anc past l) k = ownC l k := by
 rw [QfV, QfV, X1J]
 cases l[k]? with
 | none => rfl
 | some B => simp only [Option.map_some, hv, if_true]; cases B <;> rfl
theorem QKx {base c anc : Nat} {past : List Pt} {k : Nat} (hv : vis base c anc past k = true) : bxL (mskQ base c anc past l) k = bxL l k := by
 rw [← JuL, ← JuL]
 unfold bxS
 rw [X1J]
 cases l[k]? with
 | none => rfl
 | some B =>
  simp only [Option.map_some, hv, if_true]
  cases B with
  | blk fl m xs => cases fl <;> (cases xs with | nil => rfl | cons a t => cases t <;> rfl)
  | _ => rfl
theorem QrI (x : List α) : ∀ (L : List AB) (k : Nat), ownR r x L k ↔ ∃ m, L[k]? = some (resB r m x)
 | [], k => by simp [ownR]
 | B :: L, 0 => by simp [ownR]
 | B :: L, k + 1 => by simpa [ownR] using QrI x L k
theorem ztl {base c anc : Nat} {past : List Pt} {k : Nat} (x : List α) (hv : vis base c anc past k = true) (hr : ownR r x l k) : ownR r x (mskQ base c anc past l) k = True := by
 refine eq_true ?_
 rw [QrI] at hr ⊢
 obtain ⟨m, e⟩ := hr
 exact ⟨false, by rw [X1J, e, Option.map_some, if_pos hv, QTV]⟩
theorem zzR (hz : h.map AB.freeze = h) (c anc n : Nat) (past : List Pt) (l : List AB) (hn : n = h.length + l.length) : qUX (seen (h.length + c) anc past n) [] 0 (h ++ l) = h ++ mskQ h.length c anc past l := zyX hz c anc n past [] l hn rfl
theorem QDS (hz : h.map AB.freeze = h) (anc n : Nat) (past : List Pt) (l : List AB) (hn : n = h.length + l.length) : qUX (seen h.length anc past n) [] 0 (h ++ l) = h ++ mskQ h.length 0 anc past l := zyX hz 0 anc n past [] l hn rfl
theorem YNX (hz : h.map AB.freeze = h) (c anc n : Nat) (past : List Pt) (w0 : Nat) (ws : List Nat) (l : List AB) (hn : n = h.length + l.length) (hw : ((w0 :: ws).all fun id => decide (h.length ≤ id)) = true) : qUX (seen (h.length + c) anc past n) (w0 :: ws) 0 (h ++ l) = h ++ mskL h.length c anc past (w0 :: ws) 0 l := zyX hz c anc n past (w0 :: ws) l hn hw
theorem JlM (G x l : List AB) (hG : G.length = l.length) : Zcq [] (h ++ (G ++ x)) 0 (h ++ l) = h ++ (l ++ x) := by
 rw [YzS [] (G ++ x) l rfl]
 congr 1
 refine List.ext_getElem? fun j => ?_
 rw [zHe]
 by_cases hj : j < l.length
 ·rw [if_pos hj, if_neg (by simp), List.getElem?_append_left hj]
 ·rw [if_neg hj, List.getElem?_append_right (by omega), List.getElem?_append_right (by omega), hG]
def qP (anc : Nat) : List Pt → Nat → Bool
 | [], _ => false
 | ⟨k, lo, hi, _, _⟩ :: l, id => if lo ≤ id ∧ id < hi then (if anc / 2 ^ k % 2 = 1 then true else qP anc l id) else qP anc l id
theorem XPZ (anc id : Nat) : qP anc [] id = false := _root_.id rfl
theorem Ytw (anc k lo hi : Nat) (rs ws : List Nat) (l : List Pt) (id : Nat) : qP anc (⟨k, lo, hi, rs, ws⟩ :: l) id = if lo ≤ id ∧ id < hi then (if anc / 2 ^ k % 2 = 1 then true else qP anc l id) else qP anc l id := _root_.id rfl
theorem JOE (anc id : Nat) : ∀ past : List Pt, qP anc past id = past.any fun p => bit p.k anc && decide (p.lo ≤ id) && decide (id < p.hi)
 | [] => rfl
 | ⟨k, lo, hi, rs, ws⟩ :: l => by
  rw [Ytw, List.any_cons, JOE anc id l, qZY]
  by_cases h1 : lo ≤ id <;> by_cases h2 : id < hi <;> by_cases h3 : anc / 2 ^ k % 2 = 1 <;> simp [h1, h2, h3]
theorem Xud (len0 lo hi anc : Nat) (past : List Pt) (id : Nat) : qOk len0 lo hi anc past id = if id < len0 then true else if lo ≤ id ∧ id < hi then true else qP anc past id := by
 rw [zwe, JOE]
 by_cases h1 : id < len0 <;> by_cases h2 : lo ≤ id <;> by_cases h3 : id < hi <;> simp [h1, h2, h3]
theorem Xa8 (base c anc : Nat) (past : List Pt) (k : Nat) : vis base c anc past k = if k < c then true else qP anc past (base + k) := by
 unfold vis
 rw [JOE]
 by_cases h1 : k < c <;> simp [h1]
def sepA (anc lo hi : Nat) : List Pt → Bool
 | [] => true
 | ⟨k, lo', hi', _, _⟩ :: l => if hi' ≤ lo ∨ hi ≤ lo' then sepA anc lo hi l else if anc / 2 ^ k % 2 = 1 then false else sepA anc lo hi l
theorem KP5 (anc lo hi : Nat) : sepA anc lo hi [] = true := _root_.id rfl
theorem ZQT (anc lo hi k lo' hi' : Nat) (rs ws : List Nat) (l : List Pt) : sepA anc lo hi (⟨k, lo', hi', rs, ws⟩ :: l) = if hi' ≤ lo ∨ hi ≤ lo' then sepA anc lo hi l else if anc / 2 ^ k % 2 = 1 then false else sepA anc lo hi l := _root_.id rfl
theorem zrh (anc lo hi : Nat) : ∀ past : List Pt, sepA anc lo hi past = past.all fun p' => !bit p'.k anc || decide (p'.hi ≤ lo) || decide (hi ≤ p'.lo)
 | [] => rfl
 | ⟨k, lo', hi', rs, ws⟩ :: l => by
  rw [ZQT, List.all_cons, zrh anc lo hi l, qZY]
  by_cases h1 : hi' ≤ lo <;> by_cases h2 : hi ≤ lo' <;> by_cases h3 : anc / 2 ^ k % 2 = 1 <;> simp [h1, h2, h3]
def indA (len0 anc : Nat) (past0 : List Pt) (ws0 : List Nat) : List Pt → Bool
 | [] => true
 | ⟨k, lo, hi, rs, ws⟩ :: l => if anc / 2 ^ k % 2 = 1 then indA len0 anc past0 ws0 l else
   if (ws.all fun id => !qOk len0 0 0 anc past0 id) = true then
    if hi ≤ lo ∨ (len0 ≤ lo ∧ sepA anc lo hi past0 = true) then
     if (ws0.all fun id => !Z5f ⟨k, lo, hi, rs, ws⟩ id && !memN id (rs ++ ws)) = true then indA len0 anc past0 ws0 l else false
    else false
   else false
theorem Xer (len0 anc : Nat) (past0 : List Pt) (ws0 : List Nat) : indA len0 anc past0 ws0 [] = true := _root_.id rfl
theorem XZ2 (len0 anc : Nat) (past0 : List Pt) (ws0 : List Nat) (k lo hi : Nat) (rs ws : List Nat) (l : List Pt) : indA len0 anc past0 ws0 (⟨k, lo, hi, rs, ws⟩ :: l) = if anc / 2 ^ k % 2 = 1 then indA len0 anc past0 ws0 l else
      if (ws.all fun id => !qOk len0 0 0 anc past0 id) = true then
        if hi ≤ lo ∨ (len0 ≤ lo ∧ sepA anc lo hi past0 = true) then
          if (ws0.all fun id => !Z5f ⟨k, lo, hi, rs, ws⟩ id && !memN id (rs ++ ws)) = true then indA len0 anc past0 ws0 l else false
        else false
      else false := _root_.id rfl
theorem QZk (len0 anc : Nat) (past0 : List Pt) (ws0 : List Nat) : ∀ past : List Pt, past.all (YYJ len0 anc past0 ws0) = indA len0 anc past0 ws0 past
 | [] => rfl
 | ⟨k, lo, hi, rs, ws⟩ :: l => by
  rw [XZ2, List.all_cons, QZk len0 anc past0 ws0 l, ZCz, zrh, qZY]
  by_cases h1 : anc / 2 ^ k % 2 = 1
  ·simp [h1]
  ·simp only [h1, decide_false, Bool.false_or, if_false]
   generalize (ws.all fun id => !qOk len0 0 0 anc past0 id) = a
   generalize (past0.all fun p' => !bit p'.k anc || decide (p'.hi ≤ lo) || decide (hi ≤ p'.lo)) = b
   generalize (ws0.all fun id => !Z5f ⟨k, lo, hi, rs, ws⟩ id && !memN id (rs ++ ws)) = e
   by_cases h2 : hi ≤ lo <;> by_cases h3 : len0 ≤ lo <;> cases a <;> cases b <;> cases e <;> simp [h2, h3]
def indL (anc : Nat) (rs : List Nat) : List Pt → Bool
 | [] => true
 | ⟨k, lo, hi, rs', ws⟩ :: l => if anc / 2 ^ k % 2 = 1 then indL anc rs l else
   if (rs.all fun id => !Z5f ⟨k, lo, hi, rs', ws⟩ id) = true then indL anc rs l else false
theorem qFN (anc : Nat) (rs : List Nat) : indL anc rs [] = true := _root_.id rfl
theorem qFC (anc : Nat) (rs : List Nat) (k lo hi : Nat) (rs' ws : List Nat) (l : List Pt) : indL anc rs (⟨k, lo, hi, rs', ws⟩ :: l) = if anc / 2 ^ k % 2 = 1 then indL anc rs l else
      if (rs.all fun id => !Z5f ⟨k, lo, hi, rs', ws⟩ id) = true then indL anc rs l else false := _root_.id rfl
theorem Jji (anc : Nat) (rs : List Nat) : ∀ past : List Pt, past.all (YfI anc rs []) = indL anc rs past
 | [] => rfl
 | ⟨k, lo, hi, rs', ws⟩ :: l => by
  rw [qFC, List.all_cons, Jji anc rs l]
  unfold YfI
  rw [qZY, List.append_nil]
  by_cases h1 : anc / 2 ^ k % 2 = 1
  ·simp [h1]
  ·simp only [h1, decide_false, if_false, List.all_nil, Bool.and_true, Bool.false_eq_true]
   generalize (rs.all fun id => !Z5f ⟨k, lo, hi, rs', ws⟩ id) = a
   cases a <;> simp
variable {c : Ctx} {k : List IT} {fr : List AV} {len0 n anc : Nat} {past : List Pt} {d : Option Nat} {ops : List DOp}
theorem ZVc (w0 : Nat) (ws : List Nat) (vs : List AV) (v : AV) (G : List AB) : W c (.dmk (w0 :: ws) vs (some (v, G)) len0 n anc past d ops :: k) fr h = (okL (fun i => decide (i < h.length)) vs = true ∧ HOk h ∧ indA len0 anc past (w0 :: ws) past = true ∧ ((w0 :: ws).all fun id => decide (id < h.length)) = true ∧ h.length ≤ G.length ∧ v.ok (qOk len0 h.length G.length anc past) = true ∧
      ((w0 :: ws).all fun id => (G.getD id .dead).ok (qOk len0 h.length G.length anc past)) = true ∧ ((G.drop h.length).all fun B => B.ok (qOk len0 h.length G.length anc past)) = true ∧
      W c (.drw len0 (n + 1) (⟨n, h.length, G.length, seen len0 anc (Q5R past) h.length, w0 :: ws⟩ :: past) ops :: k) (put fr d v) (Zcq (w0 :: ws) G 0 h)) := by
  rw [← QZk]
  exact YXZ (w0 :: ws) vs v G
theorem QUD (vs : List AV) (v : AV) (c0 anc' : Nat) (past' : List Pt) (x : List AB) : W c (.dmk [] vs (some (v, h ++ (mskQ h.length c0 anc' past' l ++ x))) len0 n anc past d ops :: k) fr (h ++ l) = (okL (fun i => decide (i < h.length + l.length)) vs = true ∧ HOk (h ++ l) ∧ indA len0 anc past [] past = true ∧ v.ok (qOk len0 (h.length + l.length) (h.length + (l.length + x.length)) anc past) = true ∧
      (x.all fun B => B.ok (qOk len0 (h.length + l.length) (h.length + (l.length + x.length)) anc past)) = true ∧
      W c (.drw len0 (n + 1) (⟨n, h.length + l.length, h.length + (l.length + x.length), seen len0 anc (Q5R past) (h.length + l.length), []⟩ :: past) ops :: k) (put fr d v) (h ++ (l ++ x))) := by
  rw [← QZk, YXZ, JlM _ _ _ (zJx _ _ _ _ _)]
  have e1 : (h ++ l).length = h.length + l.length := List.length_append
  have e2 : (h ++ (mskQ h.length c0 anc' past' l ++ x)).length = h.length + (l.length + x.length) := by rw [List.length_append, List.length_append, zJx]
  have e3 : (h ++ (mskQ h.length c0 anc' past' l ++ x)).drop (h ++ l).length = x := by
    rw [e1, QDn, List.drop_append_of_le_length (by rw [zJx]; exact Nat.le_refl _), List.drop_eq_nil_of_le (by rw [zJx]; exact Nat.le_refl _), List.nil_append]
  rw [e3, e2, e1]
  have e4 : (h.length + l.length ≤ h.length + (l.length + x.length)) = True := eq_true (by omega)
  simp only [List.all_nil, e4, true_and]
theorem KqJ (vs : List AV) (v : AV) (c0 anc' : Nat) (past' : List Pt) : W c (.dmk [] vs (some (v, h ++ mskQ h.length c0 anc' past' l)) len0 n anc past d ops :: k) fr (h ++ l) = (okL (fun i => decide (i < h.length + l.length)) vs = true ∧ HOk (h ++ l) ∧ indA len0 anc past [] past = true ∧ v.ok (qOk len0 (h.length + l.length) (h.length + l.length) anc past) = true ∧
      W c (.drw len0 (n + 1) (⟨n, h.length + l.length, h.length + l.length, seen len0 anc (Q5R past) (h.length + l.length), []⟩ :: past) ops :: k) (put fr d v) (h ++ l)) := by
  have := QUD (c := c) (k := k) (fr := fr) (len0 := len0) (n := n) (anc := anc) (past := past) (d := d) (ops := ops) (h := h) (l := l) vs v c0 anc' past' []
  simpa only [List.append_nil, List.length_nil, Nat.add_zero, List.all_nil, true_and] using this
theorem QXy (v : AV) (h' : List AB) (x : AV) : W c (.dld (some (v, h')) x len0 n anc past d ops :: k) fr h = ((if indA len0 anc past [] past = true then True else indL anc (idOf x) past = true) ∧ x.ok (qOk len0 0 0 anc past) = true ∧ v.ok (qOk len0 0 0 anc past) = true ∧ W c (.drw len0 (n + 1) (⟨n, 0, 0, idOf x, []⟩ :: past) ops :: k) (put fr d v) h) := by
 rw [← QZk, ← Jji]
 exact za5 v h' x
theorem ZT5 {n : Nat} (h : n ≤ 1000000) : (n ≤ maxLen) = True := eq_true (by unfold maxLen; omega)
theorem Kht {α : Type} (f : α → Bool) : [].all f = true := _root_.id rfl
end
def KED := (And.intro (And.intro (And.intro (And.intro (And.intro (And.intro (And.intro @YhE @JNd) (And.intro @KhH @qBk)) (And.intro (And.intro @Joe @qT3) (And.intro @QXM (And.intro @KVs @J69)))) (And.intro (And.intro (And.intro @QHO @YPM) (And.intro @ZRr (And.intro @Y5q @zks))) (And.intro (And.intro @KMB @JFd) (And.intro @Qdn (And.intro @qWF @QXy))))) (And.intro (And.intro (And.intro (And.intro @Xjo @JKj) (And.intro @Kki @JGU)) (And.intro (And.intro @JPx @XfQ) (And.intro @ZQG (And.intro @ZPl @JzF)))) (And.intro (And.intro (And.intro @XBi @KTK) (And.intro @zwq (And.intro @qsi @zmh))) (And.intro (And.intro @KiC @Jtr) (And.intro @ZWg (And.intro @KyQ @Zwz)))))) (And.intro (And.intro (And.intro (And.intro (And.intro @JJk @X5e) (And.intro @X69 @quW)) (And.intro (And.intro @JRf @ZIO) (And.intro @JAC (And.intro @QaS @JSb)))) (And.intro (And.intro (And.intro @QJe @K1v) (And.intro @YwA (And.intro @J1W @Xuk))) (And.intro (And.intro @JsT @QkC) (And.intro @JWX (And.intro @qt7 @JW6))))) (And.intro (And.intro (And.intro (And.intro @XK0 @qYu) (And.intro @qhT (And.intro @YSs @Jse))) (And.intro (And.intro @JGc @Zxd) (And.intro @XFu (And.intro @JFv @JCD)))) (And.intro (And.intro (And.intro @Jyz @K0o) (And.intro @q3O (And.intro @YCi @KZ1))) (And.intro (And.intro @YF0 @Z0Y) (And.intro @QNo (And.intro @zC5 @XLU))))))) (And.intro (And.intro (And.intro (And.intro (And.intro (And.intro @ok_i @ok_b) (And.intro @ok_s @KPt)) (And.intro (And.intro @QfT @q5a) (And.intro @ok_p (And.intro @ok_y @Q2V)))) (And.intro (And.intro (And.intro @ok_f @Zi9) (And.intro @YWD (And.intro @zcF @Qlf))) (And.intro (And.intro @JLy @Q1u) (And.intro @Zjp (And.intro @zJn @qu6))))) (And.intro (And.intro (And.intro (And.intro @Xxq @XGk) (And.intro @YFz (And.intro @any_cons @JD0))) (And.intro (And.intro @KKU @Zya) (And.intro @Kj8 (And.intro @zOC @QaL)))) (And.intro (And.intro (And.intro @z3H @q1Z) (And.intro @Qq6 (And.intro @Kgl @Tab.ws_nil))) (And.intro (And.intro @Tab.ws_cons @decide_true) (And.intro @decide_false (And.intro @Bool.or_true @Bool.or_false)))))) (And.intro (And.intro (And.intro (And.intro (And.intro @Bool.true_or @Bool.false_or) (And.intro @Bool.not_true @Bool.not_false)) (And.intro (And.intro @XYg @JL8) (And.intro @XhQ (And.intro @zed @Qm5)))) (And.intro (And.intro (And.intro @qZa @zXR) (And.intro @QoR (And.intro @JL7 @XZF))) (And.intro (And.intro @ZVc @QUD) (And.intro @KqJ (And.intro @qwF @QKx))))) (And.intro (And.intro (And.intro (And.intro @ztl @zJx) (And.intro @Xa8 (And.intro @XPZ @Ytw))) (And.intro (And.intro @Xud @KP5) (And.intro @ZQT (And.intro @Xer @XZ2)))) (And.intro (And.intro (And.intro @qFN @qFC) (And.intro @and_self (And.intro @false_and @and_false))) (And.intro (And.intro @or_true @true_or) (And.intro @false_or (And.intro @or_false @ZT5))))))))
end Go.Proofs.Ytbcpcjofkfgjoaa
end
section
namespace Go.Proofs.Ytbcpcjofkfgjoaa
def u8A (b : UInt8) : AV := .i .u8 (b.toNat : Int)
end Go.Proofs.Ytbcpcjofkfgjoaa
end
section
namespace Go.Proofs.Ytbcpcjofkfgjoaa
section
variable {α : Type} {lt : α → α → Prop}
structure Strict (lt : α → α → Prop) : Prop where
 irr : ∀ a, ¬ lt a a
 tr : ∀ {a b c}, lt a b → lt b c → lt a c
theorem Y6a (o : Strict lt) : ∀ {l l' : List α}, l.Pairwise lt → l'.Pairwise lt → (∀ d, d ∈ l ↔ d ∈ l') → l = l'
 | [], [], _, _, _ => rfl
 | [], b :: l', _, _, h => absurd ((h b).2 (.head _)) (by simp)
 | a :: l, [], _, _, h => absurd ((h a).1 (.head _)) (by simp)
 | a :: l, b :: l', h1, h2, h => by
  have r1 := List.pairwise_cons.1 h1
  have r2 := List.pairwise_cons.1 h2
  have e : a = b := by
   rcases List.mem_cons.1 ((h a).1 (.head _)) with q | q
   ·exact q
   ·rcases List.mem_cons.1 ((h b).2 (.head _)) with z | z
    ·exact z.symm
    ·exact absurd (o.tr (r2.1 a q) (r1.1 b z)) (o.irr _)
  subst e
  congr 1
  refine Y6a o r1.2 r2.2 fun d => ⟨fun hd => ?_, fun hd => ?_⟩
  ·rcases List.mem_cons.1 ((h d).1 (.tail _ hd)) with q | q
   ·subst q; exact absurd (r1.1 _ hd) (o.irr _)
   ·exact q
  ·rcases List.mem_cons.1 ((h d).2 (.tail _ hd)) with q | q
   ·subst q; exact absurd (r2.1 _ hd) (o.irr _)
   ·exact q
open Classical in
noncomputable def layG (lt : α → α → Prop) : List α → α → List α
 | [], h => [h]
 | x :: l, h => if lt h x then h :: x :: l else x :: layG lt l h
theorem QaQ : ∀ (l : List α) (h y : α), y ∈ layG lt l h ↔ y = h ∨ y ∈ l
 | [], h, y => by simp [layG]
 | x :: l, h, y => by
  unfold layG
  split
  ·simp
  ·simp only [List.mem_cons, QaQ l h y]
   constructor
   ·rintro (q | q | q)
    ·exact .inr (.inl q)
    ·exact .inl q
    ·exact .inr (.inr q)
   ·rintro (q | q | q)
    ·exact .inr (.inl q)
    ·exact .inl q
    ·exact .inr (.inr q)
theorem JeW : ∀ (l : List α) (h : α), (layG lt l h).length = l.length + 1
 | [], h => rfl
 | x :: l, h => by
  unfold layG
  split
  ·rfl
  ·simp [JeW l h]
theorem zif (o : Strict lt) : ∀ {l : List α} {h : α}, l.Pairwise lt → (∀ x ∈ l, lt x h ∨ lt h x) → (layG lt l h).Pairwise lt
 | [], h, _, _ => List.pairwise_singleton _ _
 | x :: l, h, r, ht => by
  have rc := List.pairwise_cons.1 r
  unfold layG
  split
  ·rename_i q
   refine List.pairwise_cons.2 ⟨fun y hy => ?_, r⟩
   rcases List.mem_cons.1 hy with rfl | hy
   ·exact q
   ·exact o.tr q (rc.1 y hy)
  ·rename_i q
   refine List.pairwise_cons.2 ⟨fun y hy => ?_, zif o rc.2 fun y hy => ht y (.tail _ hy)⟩
   rcases (QaQ l h y).1 hy with rfl | hy
   ·exact (ht x (.head _)).resolve_right q
   ·exact rc.1 y hy
end
def cmpB : List UInt8 → List UInt8 → Int
 | [], [] => 0
 | [], _ :: _ => -1
 | _ :: _, [] => 1
 | a :: l, b :: l' => if a < b then -1 else if b < a then 1 else cmpB l l'
theorem QBL : ∀ l : List UInt8, cmpB l l = 0
 | [] => rfl
 | a :: l => by
  unfold cmpB
  rw [if_neg (UInt8.lt_irrefl a), if_neg (UInt8.lt_irrefl a), QBL l]
theorem Yfk : ∀ {l l' : List UInt8}, cmpB l l' = 0 → l = l'
 | [], [], _ => rfl
 | [], _ :: _, h => by simp [cmpB] at h
 | _ :: _, [], h => by simp [cmpB] at h
 | a :: l, b :: l', h => by
  unfold cmpB at h
  split at h
  ·simp at h
  ·split at h
   ·simp at h
   ·rename_i h1 h2
    rw [Yfk h, UInt8.le_antisymm (UInt8.not_lt.1 h2) (UInt8.not_lt.1 h1)]
theorem ZtX : ∀ (l l' : List UInt8), cmpB l' l = - cmpB l l'
 | [], [] => rfl
 | [], _ :: _ => rfl
 | _ :: _, [] => rfl
 | a :: l, b :: l' => by
  unfold cmpB
  by_cases h1 : a < b
  ·rw [if_pos h1, if_neg (UInt8.lt_asymm h1), if_pos h1]; rfl
  ·by_cases h2 : b < a
   ·rw [if_pos h2, if_neg h1, if_pos h2]
   ·rw [if_neg h1, if_neg h2, if_neg h1, if_neg h2, ZtX l l']
theorem Yod : ∀ (l l' : List UInt8), cmpB l l' = -1 ∨ cmpB l l' = 0 ∨ cmpB l l' = 1
 | [], [] => .inr (.inl rfl)
 | [], _ :: _ => .inl rfl
 | _ :: _, [] => .inr (.inr rfl)
 | a :: l, b :: l' => by
  unfold cmpB
  split
  ·exact .inl rfl
  ·split
   ·exact .inr (.inr rfl)
   ·exact Yod l l'
theorem Zwh : ∀ {a b c : List UInt8}, cmpB a b < 0 → cmpB b c < 0 → cmpB a c < 0
 | [], [], _, h, _ => by simp [cmpB] at h
 | [], _ :: _, [], _, k => by simp [cmpB] at k
 | [], _ :: _, _ :: _, _, _ => by simp [cmpB]
 | _ :: _, [], _, h, _ => by simp [cmpB] at h
 | _ :: _, _ :: _, [], _, k => by simp [cmpB] at k
 | a :: l, b :: l', c :: l'', h, k => by
  unfold cmpB at h k ⊢
  by_cases h1 : a < b
  ·by_cases k1 : b < c
   ·rw [if_pos (UInt8.lt_trans h1 k1)]; omega
   ·rw [if_neg k1] at k
    by_cases k2 : c < b
    ·rw [if_pos k2] at k; omega
    ·have e : b = c := UInt8.le_antisymm (UInt8.not_lt.1 k2) (UInt8.not_lt.1 k1)
     subst e
     rw [if_pos h1]; omega
  ·rw [if_neg h1] at h
   by_cases h2 : b < a
   ·rw [if_pos h2] at h; omega
   ·rw [if_neg h2] at h
    have e : a = b := UInt8.le_antisymm (UInt8.not_lt.1 h2) (UInt8.not_lt.1 h1)
    subst e
    by_cases k1 : a < c
    ·rw [if_pos k1]; omega
    ·rw [if_neg k1] at k ⊢
     by_cases k2 : c < a
     ·rw [if_pos k2] at k; omega
     ·rw [if_neg k2] at k ⊢
      exact Zwh h k
end Go.Proofs.Ytbcpcjofkfgjoaa
end
section
namespace Go.Proofs.Ytbcpcjofkfgjoaa
open Go.Extern
theorem Zwp (l : List UInt8) (i : Nat) : (⟨l.toArray⟩ : ByteArray)[i]! = l.getD i 0 := by
 by_cases h : i < l.length
 ·have h' : i < (⟨l.toArray⟩ : ByteArray).size := by simpa [ByteArray.size] using h
  rw [getElem!_pos _ i h', List.getD_eq_getElem?_getD, List.getElem?_eq_getElem h]
  rfl
 ·have h' : ¬ i < (⟨l.toArray⟩ : ByteArray).size := by simpa [ByteArray.size] using h
  rw [getElem!_neg _ i h', List.getD_eq_getElem?_getD, List.getElem?_eq_none (by omega)]
  rfl
theorem YVB (l : List UInt8) : (⟨l.toArray⟩ : ByteArray).size = l.length := by simp [ByteArray.size]
theorem YSY : ∀ (l m : List UInt8), BytealgCompare.cmp ⟨l.toArray⟩ ⟨m.toArray⟩ = cmpB l m := by
 have key : ∀ (l m : List UInt8), BytealgCompare.cmp ⟨l.toArray⟩ ⟨m.toArray⟩ = match (List.range (min l.length m.length)).find? fun i => l.getD i 0 != m.getD i 0 with
   | some i => if l.getD i 0 < m.getD i 0 then -1 else 1
   | none => if l.length < m.length then -1 else if l.length > m.length then 1 else 0 := fun l m => by
  unfold BytealgCompare.cmp
  simp only [Zwp, YVB]
  rfl
 intro l
 induction l with
 | nil =>
  intro m
  rw [key]
  cases m with
  | nil => rfl
  | cons b m => simp [cmpB]
 | cons a l ih =>
  intro m
  cases m with
  | nil => rw [key]; simp [cmpB]
  | cons b m =>
   have h2 := ih m
   rw [key] at h2 ⊢
   have e : min (a :: l).length (b :: m).length = min l.length m.length + 1 := by simp only [List.length_cons]; omega
   rw [e, List.range_succ_eq_map, List.find?_cons]
   unfold cmpB
   by_cases hab : a = b
   ·subst hab
    have : ((a :: l).getD 0 0 != (a :: m).getD 0 0) = false := by simp
    rw [this, List.find?_map]
    rw [if_neg (UInt8.lt_irrefl a), if_neg (UInt8.lt_irrefl a), ← h2]
    have e2 : ((fun i => (a :: l).getD i 0 != (a :: m).getD i 0) ∘ Nat.succ) = fun i => l.getD i 0 != m.getD i 0 := by funext i; simp
    rw [e2]
    cases (List.range (min l.length m.length)).find? fun i => l.getD i 0 != m.getD i 0 with
    | none => simp
    | some i => simp
   ·have : ((a :: l).getD 0 0 != (b :: m).getD 0 0) = true := by simpa using hab
    rw [this]
    dsimp only
    by_cases h1 : a < b
    ·rw [if_pos h1]; simp [h1]
    ·rw [if_neg h1, if_pos (UInt8.lt_of_le_of_ne (UInt8.not_lt.1 h1) (Ne.symm hab))]
     simp [h1]
theorem ZsL : ∀ l : List UInt8, bytesOf (l.map u8A) = some l
 | [] => rfl
 | a :: l => by
  show (bytesOf (l.map u8A)).map (UInt8.ofNat ((a.toNat : Int)).toNat :: ·) = _
  rw [ZsL l, Int.toNat_natCast, UInt8.ofNat_toNat]
  rfl
end Go.Proofs.Ytbcpcjofkfgjoaa
end
section
namespace Go.Proofs.Ytbcpcjofkfgjoaa
theorem XHZ {fr : List AV} {h : List AB} {P : Program} {p n m k : Nat} {a : AV} {h' : List AB} : (∃ v, resV fr h [RC.t n, RC.t m, RC.t k] = some v ∧ Bt P p [v] h [a] h') = Bt P p [.tu [pl fr n, pl fr m, pl fr k]] h [a] h' := by
 simp only [resV, QKE, YXw, Option.bind_some, Option.map_some, Option.some.injEq, exists_eq_left', YCx]
def strR : Row (List UInt8) := ⟨fun s => [.s s], 1, fun _ => rfl, by decide, [], fun x y e => by simpa using e⟩
theorem zkT (s : List UInt8) : strR.f s = [.s s] := _root_.id rfl
theorem X0K : strR.sz = 1 := _root_.id rfl
theorem ZjM : strR.d = [] := _root_.id rfl
theorem JfK : ∀ x, ∀ a ∈ strR.f x, a.fl = true := fun x a h => by rw [List.mem_singleton.1 h]; rfl
theorem Qz3 (l : List (List UInt8)) : strR.cells l = l.map AV.s := by
 induction l with
 | nil => rfl
 | cons x l ih => simp only [Row.cells, List.flatMap_cons, List.map_cons] at ih ⊢; rw [ih]; rfl
theorem XnW (l : List (List UInt8)) : (strR.cells l).all (wrOk true) = true := by
 rw [Qz3, List.all_eq_true]
 intro a ha
 obtain ⟨x, _, rfl⟩ := List.mem_map.1 ha
 rfl
def ltS (a b : List UInt8) : Prop := cmpB a b < 0
instance (a b : List UInt8) : Decidable (ltS a b) := inferInstanceAs (Decidable (_ < _))
theorem zyr : Strict ltS := ⟨fun a h => by unfold ltS at h; rw [QBL] at h; omega, fun h k => Zwh h k⟩
theorem K0h (a b : List UInt8) : ltS a b ∨ a = b ∨ ltS b a := by
 unfold ltS
 rw [ZtX a b]
 rcases Yod a b with q | q | q
 ·exact .inl (by omega)
 ·exact .inr (.inl (Yfk q))
 ·exact .inr (.inr (by omega))
theorem K3U {a b : List UInt8} (h : ltS a b) : ¬ ltS b a := fun k => zyr.irr a (zyr.tr h k)
theorem XBs : ∀ a b : List UInt8, Op.bytesLess a b = decide (ltS a b)
 | [], [] => rfl
 | [], _ :: _ => rfl
 | _ :: _, [] => rfl
 | a :: x, b :: y => by
  have ih := XBs x y
  unfold ltS at ih ⊢
  simp only [Op.bytesLess, cmpB, ih]
  by_cases h1 : a < b
  ·simp [h1]
  ·by_cases h2 : b < a
   ·have h3 : ¬ a = b := fun q => by subst q; exact h1 h2
    simp [h1, h2, h3]
   ·have h3 : a = b := UInt8.le_antisymm (UInt8.not_lt.1 h2) (UInt8.not_lt.1 h1)
    subst h3
    simp [h1]
    exact decide_eq_decide.2 Iff.rfl
theorem YZm {a b : List UInt8} : ¬ ltS a b ↔ (b = a ∨ ltS b a) := by
 constructor
 ·intro h
  rcases K0h a b with q | q | q
  ·exact absurd q h
  ·exact .inl q.symm
  ·exact .inr q
 ·rintro (q | q) h
  ·subst q; exact zyr.irr _ h
  ·exact K3U q h
theorem Q6J (a b : List UInt8) : (a == b) = decide (a = b) := by
 rw [Bool.eq_iff_iff]
 simp
theorem YLn (a b : List UInt8) : binV .lss (.s a) (.s b) = some (.b (decide (ltS a b))) := by
 show some (AV.b (Op.bytesLess a b)) = _
 rw [XBs]
theorem qWD (a b : List UInt8) : binV .geq (.s a) (.s b) = some (.b (decide (¬ ltS a b))) := by
 show some (AV.b (!(Op.bytesLess a b))) = _
 rw [XBs, decide_not]
theorem q65 (a b : List UInt8) : binV .leq (.s a) (.s b) = some (.b (decide (¬ ltS b a))) := by
 show some (AV.b (Op.bytesLess a b || a == b)) = _
 rw [XBs, Q6J, ← Bool.decide_or]
 congr 2
 rw [decide_eq_decide, YZm]
 exact or_comm
theorem XAf (a b : List UInt8) : binV .neq (.s a) (.s b) = some (.b (decide (¬ a = b))) := by
 show some (AV.b (!(a == b))) = _
 rw [Q6J, decide_not]
theorem Zo3 (a b : List UInt8) : binV .eql (.s a) (.s b) = some (.b (decide (a = b))) := by
 show some (AV.b (a == b)) = _
 rw [Q6J]
section
variable {α : Type}
def bsG (cf : α → α → Int) (dv : α) (l : List α) (d : α) (lo hi : Nat) : Nat :=
 if lo < hi then (if cf (l.getD ((lo + hi) / 2) dv) d < 0 then bsG cf dv l d ((lo + hi) / 2 + 1) hi else bsG cf dv l d lo ((lo + hi) / 2)) else lo
termination_by hi - lo
decreasing_by all_goals omega
theorem Y9u (cf : α → α → Int) (dv : α) (l : List α) (d : α) (lo hi : Nat) (h : lo ≤ hi) : bsG cf dv l d lo hi ≤ hi := by
 fun_induction bsG cf dv l d lo hi with
 | case1 lo hi h1 h2 ih => exact ih (by omega)
 | case2 lo hi h1 h2 ih => exact Nat.le_trans (ih (by omega)) (by omega)
 | case3 lo hi h1 => exact h
theorem YuY (cf : α → α → Int) (dv : α) (l : List α) (d : α) (hm : ∀ i j, i ≤ j → j < l.length → cf (l.getD j dv) d < 0 → cf (l.getD i dv) d < 0) (lo hi : Nat) (h : lo ≤ hi) (hh : hi ≤ l.length)
  (h1 : ∀ i, i < lo → cf (l.getD i dv) d < 0) (h2 : ∀ i, hi ≤ i → i < l.length → ¬ cf (l.getD i dv) d < 0) :
  (∀ i, i < bsG cf dv l d lo hi → cf (l.getD i dv) d < 0) ∧ ∀ i, bsG cf dv l d lo hi ≤ i → i < l.length → ¬ cf (l.getD i dv) d < 0 := by
 fun_induction bsG cf dv l d lo hi with
 | case1 lo hi g1 g2 ih => exact ih (by omega) hh (fun i hi' => hm i _ (by omega) (by omega) g2) h2
 | case2 lo hi g1 g2 ih => exact ih (by omega) (by omega) h1 (fun i hi' hl q => g2 (hm _ i hi' hl q))
 | case3 lo hi g1 =>
  obtain rfl : lo = hi := by omega
  exact ⟨h1, h2⟩
end
end Go.Proofs.Ytbcpcjofkfgjoaa
end
section
namespace Go.Proofs.Ytbcpcjofkfgjoaa
open Go.ChangeShapes Go.WideShapes Go.ChangeAt Go.RowKit
section
variable {H : Type} {enc : TypeId × Value → H} {w : World} {base : Nat} {held : Bool}
theorem Qjh (s : ByteArray) : AV.val (.s s.data.toList) = .string s := by
 show Value.string ⟨s.data.toList.toArray⟩ = _
 rw [Array.toArray_toList]
theorem Jv0 {fuel : Nat} {cs : List Value} {x : DataW H × List MemPlace} (h : DataW.trod enc Try.prog w base (fun _ => true) held fuel 22 cs = some x) : ∃ v, cs = [v] ∧ ∃ xs : List (List UInt8), Sl w v xs.length ((strR.cells xs).map AV.val) := by
 obtain ⟨v, h1, ts, h2⟩ := Zzi (fun _ cs (c : List UInt8) => cs = (strR.f c).map AV.val) Try.underlying22 (size := 1) (by kernel_rfl) (by decide) (fun fuel cs x hx => by
  obtain ⟨s, rfl, _⟩ := KTm Try.underlying9 hx
  exact ⟨s.data.toList, by rw [zkT, List.map_cons, Qjh]; rfl⟩) h
 exact ⟨v, h1, ts, RdL.row (r := strR) h2⟩
end
end Go.Proofs.Ytbcpcjofkfgjoaa
end
section
namespace Go.Proofs.Ytbcpcjofkfgjoaa
section
variable {α : Type}
theorem K5C {P : α → Bool} {dv : α} : ∀ {l : List α} {p : Nat}, (∀ i, i < p → i < l.length → P (l.getD i dv) = false) → (∀ i, p ≤ i → i < l.length → P (l.getD i dv) = true) → l.filter P = l.drop p
 | [], p, _, _ => by simp
 | a :: l, 0, h1, h2 => by
  rw [List.drop_zero, List.filter_eq_self]
  intro x hx
  obtain ⟨i, hi, rfl⟩ := List.mem_iff_getElem.1 hx
  have := h2 i (Nat.zero_le _) hi
  rwa [List.getD_eq_getElem?_getD, List.getElem?_eq_getElem hi] at this
 | a :: l, p + 1, h1, h2 => by
  have h0 := h1 0 (by omega) (by simp)
  simp only [List.getD_cons_zero] at h0
  rw [List.filter_cons, h0, List.drop_succ_cons]
  simp only [Bool.false_eq_true, if_false]
  exact K5C (dv := dv) (fun i hi hl => by have := h1 (i + 1) (by omega) (by simpa using hl); simpa using this) (fun i hi hl => by have := h2 (i + 1) (by omega) (by simpa using hl); simpa using this)
variable {cf : α → α → Int} {dv : α}
theorem K7Y (tr : ∀ a b c, cf a b < 0 → cf b c < 0 → cf a c < 0) {l : List α} (hr : ∀ j, j + 1 < l.length → cf (l.getD j dv) (l.getD (j + 1) dv) < 0) (i : Nat) : ∀ k, i + (k + 1) < l.length → cf (l.getD i dv) (l.getD (i + (k + 1)) dv) < 0
 | 0, h => hr i h
 | k + 1, h => tr _ _ _ (K7Y tr hr i k (by omega)) (by have := hr (i + (k + 1)) (by omega); rwa [show i + (k + 1) + 1 = i + (k + 1 + 1) from by omega] at this)
theorem ZMg (tr : ∀ a b c, cf a b < 0 → cf b c < 0 → cf a c < 0) {l : List α} (hr : ∀ j, j + 1 < l.length → cf (l.getD j dv) (l.getD (j + 1) dv) < 0) {i j : Nat} (h : i < j) (hj : j < l.length) : cf (l.getD i dv) (l.getD j dv) < 0 := by
 have := K7Y tr hr i (j - i - 1) (by omega)
 rwa [show i + (j - i - 1 + 1) = j from by omega] at this
theorem YVR (sw : ∀ a b, cf b a = - cf a b) (tr : ∀ a b c, cf a b < 0 → cf b c < 0 → cf a c < 0) (eq0 : ∀ a b, cf a b = 0 → a = b) {l : List α} (hr : ∀ j, j + 1 < l.length → cf (l.getD j dv) (l.getD (j + 1) dv) < 0) (d : α) :
  l.drop (if bsG cf dv l d 0 l.length < l.length ∧ cf (l.getD (bsG cf dv l d 0 l.length) dv) d = 0 then bsG cf dv l d 0 l.length + 1 else bsG cf dv l d 0 l.length) = l.filter fun x => decide (cf d x < 0) := by
 obtain ⟨k1, k2⟩ := YuY cf dv l d (fun i j hij hj hc => by
  by_cases e : i = j
  ·subst e; exact hc
  ·exact tr _ _ _ (ZMg tr hr (by omega) hj) hc) 0 l.length (Nat.zero_le _) (Nat.le_refl _) (fun i hi => by omega) (fun i h1 h2 => by omega)
 generalize bsG cf dv l d 0 l.length = b at *
 refine (K5C (dv := dv) (fun i hi hl => decide_eq_false ?_) (fun i hi hl => decide_eq_true ?_)).symm
 ·intro hc
  by_cases e : i < b
  ·have h1 := k1 i e
   rw [sw] at hc
   omega
  ·split at hi
   ·rename_i h
    obtain rfl : i = b := by omega
    rw [sw] at hc
    omega
   ·omega
 ·split at hi
  ·rename_i h
   have he := eq0 _ _ h.2
   rw [← he]
   exact ZMg tr hr (by omega) hl
  ·rename_i h
   have h1 := k2 i (by omega) hl
   rw [sw]
   by_cases e0 : cf (l.getD i dv) d = 0
   ·exfalso
    by_cases e : i = b
    ·subst e; exact h ⟨hl, e0⟩
    ·have h2 := k2 b (Nat.le_refl _) (by omega)
     have h3 := ZMg tr hr (show b < i by omega) hl
     rw [eq0 _ _ e0] at h3
     exact h2 h3
   ·omega
end
end Go.Proofs.Ytbcpcjofkfgjoaa
end
section
namespace Go.Proofs.Ytbcpcjofkfgjoaa
noncomputable def layT (c : List (List UInt8)) (x : List UInt8) : List (List UInt8) := if x = [] ∨ x ∈ c then c else layG ltS c x
noncomputable def risL (l : List (List UInt8)) : List (List UInt8) := l.foldl layT []
theorem qf0 {c : List (List UInt8)} (h : c.Pairwise ltS) (x : List UInt8) : (layT c x).Pairwise ltS ∧ (∀ d, d ∈ layT c x ↔ d ∈ c ∨ (d = x ∧ x ≠ [])) := by
 unfold layT
 split
 ·rename_i hx
  refine ⟨h, fun d => ⟨.inl, ?_⟩⟩
  rintro (q | ⟨rfl, q⟩)
  ·exact q
  ·exact hx.resolve_left q
 ·rename_i hx
  refine ⟨zif zyr h fun y hy => ?_, fun d => ?_⟩
  ·rcases K0h y x with q | q | q
   ·exact .inl q
   ·subst q; exact absurd (.inr hy) hx
   ·exact .inr q
  ·rw [QaQ]
   constructor
   ·rintro (q | q)
    ·exact .inr ⟨q, fun w => hx (.inl w)⟩
    ·exact .inl q
   ·rintro (q | ⟨q, _⟩)
    ·exact .inr q
    ·exact .inl q
theorem Xk8 : ∀ (l c : List (List UInt8)), c.Pairwise ltS → (l.foldl layT c).Pairwise ltS ∧ ∀ d, d ∈ l.foldl layT c ↔ d ∈ c ∨ (d ∈ l ∧ d ≠ [])
 | [], c, h => ⟨h, fun d => by simp⟩
 | x :: l, c, h => by
  obtain ⟨h1, h2⟩ := qf0 h x
  obtain ⟨h3, h4⟩ := Xk8 l (layT c x) h1
  refine ⟨h3, fun d => ?_⟩
  show d ∈ l.foldl layT (layT c x) ↔ _
  rw [h4, h2, List.mem_cons]
  constructor
  ·rintro ((q | ⟨rfl, q⟩) | ⟨q1, q2⟩)
   ·exact .inl q
   ·exact .inr ⟨.inl rfl, q⟩
   ·exact .inr ⟨.inr q1, q2⟩
  ·rintro (q | ⟨rfl | q1, q2⟩)
   ·exact .inl (.inl q)
   ·exact .inl (.inr ⟨rfl, q2⟩)
   ·exact .inr ⟨q1, q2⟩
theorem zZR (l : List (List UInt8)) : (risL l).Pairwise ltS ∧ ∀ d, d ∈ risL l ↔ d ∈ l ∧ d ≠ [] := by
 obtain ⟨h1, h2⟩ := Xk8 l [] List.Pairwise.nil
 exact ⟨h1, fun d => by rw [show risL l = l.foldl layT [] from rfl, h2]; simp⟩
def InsT (hs : List (List UInt8)) (k : Nat) (c : List (List UInt8)) : Prop := c.Pairwise ltS ∧ (∀ d, d ∈ c ↔ d ∈ hs.take k ∧ d ≠ []) ∧ c.length ≤ k
theorem InsT.zero (hs : List (List UInt8)) : InsT hs 0 [] := ⟨List.Pairwise.nil, fun d => by simp, Nat.le_refl _⟩
theorem InsT.fin {hs c : List (List UInt8)} (h : InsT hs hs.length c) : c = risL hs := by
 obtain ⟨h1, h2⟩ := zZR hs
 refine Y6a zyr h.1 h1 fun d => ?_
 rw [h.2.1, h2, List.take_length]
theorem Kvg {hs : List (List UInt8)} {k : Nat} (hk : k < hs.length) (d : List UInt8) : d ∈ hs.take (k + 1) ↔ d ∈ hs.take k ∨ d = hs.getD k [] := by
 rw [List.take_succ_eq_append_getElem hk, List.getD_eq_getElem?_getD, List.getElem?_eq_getElem hk, List.mem_append, List.mem_singleton]
 rfl
theorem zYZ {hs : List (List UInt8)} {k : Nat} (hk : k < hs.length) (hne : hs.getD k [] ≠ []) (d : List UInt8) : (d ∈ hs.take (k + 1) ∧ d ≠ []) ↔ (d ∈ hs.take k ∧ d ≠ []) ∨ d = hs.getD k [] := by
 rw [Kvg hk]
 constructor
 ·rintro ⟨q | q, w⟩
  ·exact .inl ⟨q, w⟩
  ·exact .inr q
 ·rintro (⟨q, w⟩ | q)
  ·exact ⟨.inl q, w⟩
  ·exact ⟨.inr q, q ▸ hne⟩
theorem InsT.same {hs : List (List UInt8)} {k : Nat} {c : List (List UInt8)} (h : InsT hs k c) (hk : k < hs.length) (e : hs.getD k [] = [] ∨ hs.getD k [] ∈ c) : InsT hs (k + 1) c :=
 ⟨h.1, fun d => by
  rw [Kvg hk]
  have h2 := h.2.1 d
  constructor
  ·intro q
   obtain ⟨a, b⟩ := h2.1 q
   exact ⟨.inl a, b⟩
  ·rintro ⟨q | rfl, w⟩
   ·exact h2.2 ⟨q, w⟩
   ·exact e.resolve_left w, Nat.le_succ_of_le h.2.2⟩
theorem InsT.lay {hs : List (List UInt8)} {k : Nat} {c : List (List UInt8)} (h : InsT hs k c) (hk : k < hs.length) {i : Nat} (hi : i ≤ c.length) (hl : ∀ j, j < i → ltS (c.getD j ([] : List UInt8)) (hs.getD k [])) (hg : i < c.length → ¬ ltS (c.getD i ([] : List UInt8)) (hs.getD k []) ∧ c.getD i ([] : List UInt8) ≠ (hs.getD k []))
  (hne : hs.getD k [] ≠ []) : InsT hs (k + 1) (c.take i ++ (hs.getD k []) :: c.drop i) := by
 have tm := zYZ hk
 obtain ⟨h1, h2, h3⟩ := h
 generalize (hs.getD k []) = x at *
 have at' : ∀ j, (hj : j < c.length) → c.getD j ([] : List UInt8) = c[j] := fun j hj => by
  rw [List.getD_eq_getElem?_getD, List.getElem?_eq_getElem hj]
  rfl
 have hd : ∀ y ∈ c.drop i, ltS x y := fun y hy => by
  obtain ⟨j, hj, rfl⟩ := List.getElem_of_mem hy
  rw [List.length_drop] at hj
  rw [List.getElem_drop]
  have hi' : i < c.length := by omega
  obtain ⟨g1, g2⟩ := hg hi'
  rw [at' i hi'] at g1 g2
  have hx : ltS x c[i] := by
   rcases K0h c[i] x with q | q | q
   ·exact absurd q g1
   ·exact absurd q g2
   ·exact q
  by_cases j0 : j = 0
  ·subst j0
   exact hx
  ·exact zyr.tr hx (List.pairwise_iff_getElem.1 h1 i (i + j) hi' (by omega) (by omega))
 refine ⟨List.pairwise_append.2 ⟨h1.sublist (List.take_sublist _ _), List.pairwise_cons.2 ⟨hd, h1.sublist (List.drop_sublist _ _)⟩, fun a ha b hb => ?_⟩, fun d => ?_, ?_⟩
 ·obtain ⟨j, hj, rfl⟩ := List.getElem_of_mem ha
  rw [List.length_take] at hj
  rw [List.getElem_take]
  have q := hl j (by omega)
  rw [at' j (by omega)] at q
  rcases List.mem_cons.1 hb with rfl | hb
  ·exact q
  ·exact zyr.tr q (hd b hb)
 ·rw [tm hne, ← h2, List.mem_append, List.mem_cons]
  have e : d ∈ c ↔ d ∈ c.take i ∨ d ∈ c.drop i := by
   rw [← List.mem_append, List.take_append_drop]
  rw [e]
  constructor
  ·rintro (q | rfl | q)
   ·exact .inl (.inl q)
   ·exact .inr rfl
   ·exact .inl (.inr q)
  ·rintro ((q | q) | rfl)
   ·exact .inl q
   ·exact .inr (.inr q)
   ·exact .inr (.inl rfl)
 ·rw [List.length_append, List.length_cons, List.length_take, List.length_drop]
  omega
end Go.Proofs.Ytbcpcjofkfgjoaa
end
