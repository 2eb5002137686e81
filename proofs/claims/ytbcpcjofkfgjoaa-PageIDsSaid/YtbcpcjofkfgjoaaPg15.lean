/- Part 15 of what the laws' proofs rest on. No condition. -/
import Derived.Test.YtbcpcjofkfgjoaaPg14
set_option linter.all false
section
namespace Go.Proofs.Ytbcpcjofkfgjoaa
section
variable {α : Type} {r : Row α} {h l : List AB}
def mskQ (base c anc : Nat) (past : List Pt) (l : List AB) : List AB := mskL base c anc past [] 0 l
def vis (base c anc : Nat) (past : List Pt) (k : Nat) : Bool := decide (k < c) || past.any (fun p => bit p.k anc && decide (p.lo ≤ base + k) && decide (base + k < p.hi))
theorem Q7Z (base c anc : Nat) (past : List Pt) (k : Nat) : qOk (base + c) 0 0 anc past (base + k) = vis base c anc past k := by
 rw [zwe]
 unfold vis
 have e1 : decide (base + k < base + c) = decide (k < c) := decide_eq_decide.2 (by omega)
 have e2 : decide (base + k < 0) = false := decide_eq_false (by omega)
 rw [e1, e2, Bool.and_false, Bool.or_false]
theorem X1J (base c anc : Nat) (past : List Pt) (l : List AB) (k : Nat) : (mskQ base c anc past l)[k]? = (l[k]?).map fun B => if vis base c anc past k = true then B.freeze else .dead := by
 unfold mskQ
 rw [Xus, Nat.zero_add]
 congr 1
 funext B
 rw [Q7Z]
 simp [Jse]
theorem zJx (base c anc : Nat) (past : List Pt) (l : List AB) : (mskQ base c anc past l).length = l.length := by
 rcases Nat.lt_trichotomy (mskQ base c anc past l).length l.length with q | q | q
 ·have := X1J base c anc past l (mskQ base c anc past l).length
  rw [List.getElem?_eq_none (Nat.le_refl _), List.getElem?_eq_getElem q] at this
  cases this
 ·exact q
 ·have := X1J base c anc past l l.length
  rw [List.getElem?_eq_none (Nat.le_refl _), List.getElem?_eq_getElem q] at this
  cases this
theorem QfV (L : List AB) (k : Nat) : ownC L k = match L[k]? with
  | some (.blk _ _ xs) => some xs
  | _ => none := by rw [← YzI]; rfl
theorem qwF {base c anc : Nat} {past : List Pt} {k : Nat} (hv : vis base c anc past k = true) : ownC (mskQ base c anc past l) k = ownC l k := by
 rw [QfV, QfV, X1J]
 cases l[k]? with
 | none => rfl
 | some B => simp only [Option.map_some, hv, if_true]; cases B <;> rfl
theorem QKx {base c anc : Nat} {past : List Pt} {k : Nat} (hv : vis base c anc past k = true) : bxL (mskQ base c anc past l) k = bxL l k := by
 rw [← JuL, ← JuL]
 unfold bxS
 rw [X1J]
 cases l[k]? with
 | none => rfl
 | some B =>
  simp only [Option.map_some, hv, if_true]
  cases B with
  | blk fl m xs => cases fl <;> (cases xs with | nil => rfl | cons a t => cases t <;> rfl)
  | _ => rfl
theorem QrI (x : List α) : ∀ (L : List AB) (k : Nat), ownR r x L k ↔ ∃ m, L[k]? = some (resB r m x)
 | [], k => by simp [ownR]
 | B :: L, 0 => by simp [ownR]
 | B :: L, k + 1 => by simpa [ownR] using QrI x L k
theorem ztl {base c anc : Nat} {past : List Pt} {k : Nat} (x : List α) (hv : vis base c anc past k = true) (hr : ownR r x l k) : ownR r x (mskQ base c anc past l) k = True := by
 refine eq_true ?_
 rw [QrI] at hr ⊢
 obtain ⟨m, e⟩ := hr
 exact ⟨false, by rw [X1J, e, Option.map_some, if_pos hv, QTV]⟩
theorem zzR (hz : h.map AB.freeze = h) (c anc n : Nat) (past : List Pt) (l : List AB) (hn : n = h.length + l.length) : qUX (seen (h.length + c) anc past n) [] 0 (h ++ l) = h ++ mskQ h.length c anc past l := zyX hz c anc n past [] l hn rfl
theorem QDS (hz : h.map AB.freeze = h) (anc n : Nat) (past : List Pt) (l : List AB) (hn : n = h.length + l.length) : qUX (seen h.length anc past n) [] 0 (h ++ l) = h ++ mskQ h.length 0 anc past l := zyX hz 0 anc n past [] l hn rfl
theorem YNX (hz : h.map AB.freeze = h) (c anc n : Nat) (past : List Pt) (w0 : Nat) (ws : List Nat) (l : List AB) (hn : n = h.length + l.length) (hw : ((w0 :: ws).all fun id => decide (h.length ≤ id)) = true) : qUX (seen (h.length + c) anc past n) (w0 :: ws) 0 (h ++ l) = h ++ mskL h.length c anc past (w0 :: ws) 0 l := zyX hz c anc n past (w0 :: ws) l hn hw
theorem JlM (G x l : List AB) (hG : G.length = l.length) : Zcq [] (h ++ (G ++ x)) 0 (h ++ l) = h ++ (l ++ x) := by
 rw [YzS [] (G ++ x) l rfl]
 congr 1
 refine List.ext_getElem? fun j => ?_
 rw [zHe]
 by_cases hj : j < l.length
 ·rw [if_pos hj, if_neg (by simp), List.getElem?_append_left hj]
 ·rw [if_neg hj, List.getElem?_append_right (by omega), List.getElem?_append_right (by omega), hG]
def qP (anc : Nat) : List Pt → Nat → Bool
 | [], _ => false
 | ⟨k, lo, hi, _, _⟩ :: l, id => if lo ≤ id ∧ id < hi then (if anc / 2 ^ k % 2 = 1 then true else qP anc l id) else qP anc l id
theorem XPZ (anc id : Nat) : qP anc [] id = false := _root_.id rfl
theorem Ytw (anc k lo hi : Nat) (rs ws : List Nat) (l : List Pt) (id : Nat) : qP anc (⟨k, lo, hi, rs, ws⟩ :: l) id = if lo ≤ id ∧ id < hi then (if anc / 2 ^ k % 2 = 1 then true else qP anc l id) else qP anc l id := _root_.id rfl
theorem JOE (anc id : Nat) : ∀ past : List Pt, qP anc past id = past.any fun p => bit p.k anc && decide (p.lo ≤ id) && decide (id < p.hi)
 | [] => rfl
 | ⟨k, lo, hi, rs, ws⟩ :: l => by
  rw [Ytw, List.any_cons, JOE anc id l, qZY]
  by_cases h1 : lo ≤ id <;> by_cases h2 : id < hi <;> by_cases h3 : anc / 2 ^ k % 2 = 1 <;> simp [h1, h2, h3]
theorem Xud (len0 lo hi anc : Nat) (past : List Pt) (id : Nat) : qOk len0 lo hi anc past id = if id < len0 then true else if lo ≤ id ∧ id < hi then true else qP anc past id := by
 rw [zwe, JOE]
 by_cases h1 : id < len0 <;> by_cases h2 : lo ≤ id <;> by_cases h3 : id < hi <;> simp [h1, h2, h3]
theorem Xa8 (base c anc : Nat) (past : List Pt) (k : Nat) : vis base c anc past k = if k < c then true else qP anc past (base + k) := by
 unfold vis
 rw [JOE]
 by_cases h1 : k < c <;> simp [h1]
def sepA (anc lo hi : Nat) : List Pt → Bool
 | [] => true
 | ⟨k, lo', hi', _, _⟩ :: l => if hi' ≤ lo ∨ hi ≤ lo' then sepA anc lo hi l else if anc / 2 ^ k % 2 = 1 then false else sepA anc lo hi l
theorem KP5 (anc lo hi : Nat) : sepA anc lo hi [] = true := _root_.id rfl
theorem ZQT (anc lo hi k lo' hi' : Nat) (rs ws : List Nat) (l : List Pt) : sepA anc lo hi (⟨k, lo', hi', rs, ws⟩ :: l) = if hi' ≤ lo ∨ hi ≤ lo' then sepA anc lo hi l else if anc / 2 ^ k % 2 = 1 then false else sepA anc lo hi l := _root_.id rfl
theorem zrh (anc lo hi : Nat) : ∀ past : List Pt, sepA anc lo hi past = past.all fun p' => !bit p'.k anc || decide (p'.hi ≤ lo) || decide (hi ≤ p'.lo)
 | [] => rfl
 | ⟨k, lo', hi', rs, ws⟩ :: l => by
  rw [ZQT, List.all_cons, zrh anc lo hi l, qZY]
  by_cases h1 : hi' ≤ lo <;> by_cases h2 : hi ≤ lo' <;> by_cases h3 : anc / 2 ^ k % 2 = 1 <;> simp [h1, h2, h3]
def indA (len0 anc : Nat) (past0 : List Pt) (ws0 : List Nat) : List Pt → Bool
 | [] => true
 | ⟨k, lo, hi, rs, ws⟩ :: l => if anc / 2 ^ k % 2 = 1 then indA len0 anc past0 ws0 l else
   if (ws.all fun id => !qOk len0 0 0 anc past0 id) = true then
    if hi ≤ lo ∨ (len0 ≤ lo ∧ sepA anc lo hi past0 = true) then
     if (ws0.all fun id => !Z5f ⟨k, lo, hi, rs, ws⟩ id && !memN id (rs ++ ws)) = true then indA len0 anc past0 ws0 l else false
    else false
   else false
theorem Xer (len0 anc : Nat) (past0 : List Pt) (ws0 : List Nat) : indA len0 anc past0 ws0 [] = true := _root_.id rfl
theorem XZ2 (len0 anc : Nat) (past0 : List Pt) (ws0 : List Nat) (k lo hi : Nat) (rs ws : List Nat) (l : List Pt) : indA len0 anc past0 ws0 (⟨k, lo, hi, rs, ws⟩ :: l) = if anc / 2 ^ k % 2 = 1 then indA len0 anc past0 ws0 l else
      if (ws.all fun id => !qOk len0 0 0 anc past0 id) = true then
        if hi ≤ lo ∨ (len0 ≤ lo ∧ sepA anc lo hi past0 = true) then
          if (ws0.all fun id => !Z5f ⟨k, lo, hi, rs, ws⟩ id && !memN id (rs ++ ws)) = true then indA len0 anc past0 ws0 l else false
        else false
      else false := _root_.id rfl
theorem QZk (len0 anc : Nat) (past0 : List Pt) (ws0 : List Nat) : ∀ past : List Pt, past.all (YYJ len0 anc past0 ws0) = indA len0 anc past0 ws0 past
 | [] => rfl
 | ⟨k, lo, hi, rs, ws⟩ :: l => by
  rw [XZ2, List.all_cons, QZk len0 anc past0 ws0 l, ZCz, zrh, qZY]
  by_cases h1 : anc / 2 ^ k % 2 = 1
  ·simp [h1]
  ·simp only [h1, decide_false, Bool.false_or, if_false]
   generalize (ws.all fun id => !qOk len0 0 0 anc past0 id) = a
   generalize (past0.all fun p' => !bit p'.k anc || decide (p'.hi ≤ lo) || decide (hi ≤ p'.lo)) = b
   generalize (ws0.all fun id => !Z5f ⟨k, lo, hi, rs, ws⟩ id && !memN id (rs ++ ws)) = e
   by_cases h2 : hi ≤ lo <;> by_cases h3 : len0 ≤ lo <;> cases a <;> cases b <;> cases e <;> simp [h2, h3]
def indL (anc : Nat) (rs : List Nat) : List Pt → Bool
 | [] => true
 | ⟨k, lo, hi, rs', ws⟩ :: l => if anc / 2 ^ k % 2 = 1 then indL anc rs l else
   if (rs.all fun id => !Z5f ⟨k, lo, hi, rs', ws⟩ id) = true then indL anc rs l else false
theorem qFN (anc : Nat) (rs : List Nat) : indL anc rs [] = true := _root_.id rfl
theorem qFC (anc : Nat) (rs : List Nat) (k lo hi : Nat) (rs' ws : List Nat) (l : List Pt) : indL anc rs (⟨k, lo, hi, rs', ws⟩ :: l) = if anc / 2 ^ k % 2 = 1 then indL anc rs l else
      if (rs.all fun id => !Z5f ⟨k, lo, hi, rs', ws⟩ id) = true then indL anc rs l else false := _root_.id rfl
theorem Jji (anc : Nat) (rs : List Nat) : ∀ past : List Pt, past.all (YfI anc rs []) = indL anc rs past
 | [] => rfl
 | ⟨k, lo, hi, rs', ws⟩ :: l => by
  rw [qFC, List.all_cons, Jji anc rs l]
  unfold YfI
  rw [qZY, List.append_nil]
  by_cases h1 : anc / 2 ^ k % 2 = 1
  ·simp [h1]
  ·simp only [h1, decide_false, if_false, List.all_nil, Bool.and_true, Bool.false_eq_true]
   generalize (rs.all fun id => !Z5f ⟨k, lo, hi, rs', ws⟩ id) = a
   cases a <;> simp
variable {c : Ctx} {k : List IT} {fr : List AV} {len0 n anc : Nat} {past : List Pt} {d : Option Nat} {ops : List DOp}
theorem ZVc (w0 : Nat) (ws : List Nat) (vs : List AV) (v : AV) (G : List AB) : W c (.dmk (w0 :: ws) vs (some (v, G)) len0 n anc past d ops :: k) fr h = (okL (fun i => decide (i < h.length)) vs = true ∧ HOk h ∧ indA len0 anc past (w0 :: ws) past = true ∧ ((w0 :: ws).all fun id => decide (id < h.length)) = true ∧ h.length ≤ G.length ∧ v.ok (qOk len0 h.length G.length anc past) = true ∧
      ((w0 :: ws).all fun id => (G.getD id .dead).ok (qOk len0 h.length G.length anc past)) = true ∧ ((G.drop h.length).all fun B => B.ok (qOk len0 h.length G.length anc past)) = true ∧
      W c (.drw len0 (n + 1) (⟨n, h.length, G.length, seen len0 anc (Q5R past) h.length, w0 :: ws⟩ :: past) ops :: k) (put fr d v) (Zcq (w0 :: ws) G 0 h)) := by
  rw [← QZk]
  exact YXZ (w0 :: ws) vs v G
theorem QUD (vs : List AV) (v : AV) (c0 anc' : Nat) (past' : List Pt) (x : List AB) : W c (.dmk [] vs (some (v, h ++ (mskQ h.length c0 anc' past' l ++ x))) len0 n anc past d ops :: k) fr (h ++ l) = (okL (fun i => decide (i < h.length + l.length)) vs = true ∧ HOk (h ++ l) ∧ indA len0 anc past [] past = true ∧ v.ok (qOk len0 (h.length + l.length) (h.length + (l.length + x.length)) anc past) = true ∧
      (x.all fun B => B.ok (qOk len0 (h.length + l.length) (h.length + (l.length + x.length)) anc past)) = true ∧
      W c (.drw len0 (n + 1) (⟨n, h.length + l.length, h.length + (l.length + x.length), seen len0 anc (Q5R past) (h.length + l.length), []⟩ :: past) ops :: k) (put fr d v) (h ++ (l ++ x))) := by
  rw [← QZk, YXZ, JlM _ _ _ (zJx _ _ _ _ _)]
  have e1 : (h ++ l).length = h.length + l.length := List.length_append
  have e2 : (h ++ (mskQ h.length c0 anc' past' l ++ x)).length = h.length + (l.length + x.length) := by rw [List.length_append, List.length_append, zJx]
  have e3 : (h ++ (mskQ h.length c0 anc' past' l ++ x)).drop (h ++ l).length = x := by
    rw [e1, QDn, List.drop_append_of_le_length (by rw [zJx]; exact Nat.le_refl _), List.drop_eq_nil_of_le (by rw [zJx]; exact Nat.le_refl _), List.nil_append]
  rw [e3, e2, e1]
  have e4 : (h.length + l.length ≤ h.length + (l.length + x.length)) = True := eq_true (by omega)
  simp only [List.all_nil, e4, true_and]
theorem KqJ (vs : List AV) (v : AV) (c0 anc' : Nat) (past' : List Pt) : W c (.dmk [] vs (some (v, h ++ mskQ h.length c0 anc' past' l)) len0 n anc past d ops :: k) fr (h ++ l) = (okL (fun i => decide (i < h.length + l.length)) vs = true ∧ HOk (h ++ l) ∧ indA len0 anc past [] past = true ∧ v.ok (qOk len0 (h.length + l.length) (h.length + l.length) anc past) = true ∧
      W c (.drw len0 (n + 1) (⟨n, h.length + l.length, h.length + l.length, seen len0 anc (Q5R past) (h.length + l.length), []⟩ :: past) ops :: k) (put fr d v) (h ++ l)) := by
  have := QUD (c := c) (k := k) (fr := fr) (len0 := len0) (n := n) (anc := anc) (past := past) (d := d) (ops := ops) (h := h) (l := l) vs v c0 anc' past' []
  simpa only [List.append_nil, List.length_nil, Nat.add_zero, List.all_nil, true_and] using this
theorem QXy (v : AV) (h' : List AB) (x : AV) : W c (.dld (some (v, h')) x len0 n anc past d ops :: k) fr h = ((if indA len0 anc past [] past = true then True else indL anc (idOf x) past = true) ∧ x.ok (qOk len0 0 0 anc past) = true ∧ v.ok (qOk len0 0 0 anc past) = true ∧ W c (.drw len0 (n + 1) (⟨n, 0, 0, idOf x, []⟩ :: past) ops :: k) (put fr d v) h) := by
 rw [← QZk, ← Jji]
 exact za5 v h' x
theorem ZT5 {n : Nat} (h : n ≤ 1000000) : (n ≤ maxLen) = True := eq_true (by unfold maxLen; omega)
end
def KED := (And.intro (And.intro (And.intro (And.intro (And.intro (And.intro (And.intro @YhE @JNd) (And.intro @KhH @qBk)) (And.intro (And.intro @Joe @qT3) (And.intro @QXM (And.intro @KVs @J69)))) (And.intro (And.intro (And.intro @QHO @YPM) (And.intro @ZRr (And.intro @Y5q @zks))) (And.intro (And.intro @KMB @JFd) (And.intro @Qdn (And.intro @qWF @QXy))))) (And.intro (And.intro (And.intro (And.intro @Xjo @JKj) (And.intro @Kki @JGU)) (And.intro (And.intro @JPx @XfQ) (And.intro @ZQG (And.intro @ZPl @JzF)))) (And.intro (And.intro (And.intro @XBi @KTK) (And.intro @zwq (And.intro @qsi @zmh))) (And.intro (And.intro @KiC @Jtr) (And.intro @ZWg (And.intro @KyQ @Zwz)))))) (And.intro (And.intro (And.intro (And.intro (And.intro @JJk @X5e) (And.intro @X69 @quW)) (And.intro (And.intro @JRf @ZIO) (And.intro @JAC (And.intro @QaS @JSb)))) (And.intro (And.intro (And.intro @QJe @K1v) (And.intro @YwA (And.intro @J1W @Xuk))) (And.intro (And.intro @JsT @QkC) (And.intro @JWX (And.intro @qt7 @JW6))))) (And.intro (And.intro (And.intro (And.intro @XK0 @qYu) (And.intro @qhT (And.intro @YSs @Jse))) (And.intro (And.intro @JGc @Zxd) (And.intro @XFu (And.intro @JFv @JCD)))) (And.intro (And.intro (And.intro @Jyz @K0o) (And.intro @q3O (And.intro @YCi @KZ1))) (And.intro (And.intro @YF0 @Z0Y) (And.intro @QNo (And.intro @zC5 @XLU))))))) (And.intro (And.intro (And.intro (And.intro (And.intro (And.intro @ok_i @ok_b) (And.intro @ok_s @KPt)) (And.intro (And.intro @QfT @q5a) (And.intro @ok_p (And.intro @ok_y @Q2V)))) (And.intro (And.intro (And.intro @ok_f @Zi9) (And.intro @YWD (And.intro @zcF @Qlf))) (And.intro (And.intro @JLy @Q1u) (And.intro @Zjp (And.intro @zJn @qu6))))) (And.intro (And.intro (And.intro (And.intro @Xxq @XGk) (And.intro @YFz (And.intro @any_cons @JD0))) (And.intro (And.intro @KKU @Zya) (And.intro @Kj8 (And.intro @zOC @QaL)))) (And.intro (And.intro (And.intro @z3H @q1Z) (And.intro @Qq6 (And.intro @Kgl @Tab.ws_nil))) (And.intro (And.intro @Tab.ws_cons @decide_true) (And.intro @decide_false (And.intro @Bool.or_true @Bool.or_false)))))) (And.intro (And.intro (And.intro (And.intro (And.intro @Bool.true_or @Bool.false_or) (And.intro @Bool.not_true @Bool.not_false)) (And.intro (And.intro @XYg @JL8) (And.intro @XhQ (And.intro @zed @Qm5)))) (And.intro (And.intro (And.intro @qZa @zXR) (And.intro @QoR (And.intro @JL7 @XZF))) (And.intro (And.intro @ZVc @QUD) (And.intro @KqJ (And.intro @qwF @QKx))))) (And.intro (And.intro (And.intro (And.intro @ztl @zJx) (And.intro @Xa8 (And.intro @XPZ @Ytw))) (And.intro (And.intro @Xud @KP5) (And.intro @ZQT (And.intro @Xer @XZ2)))) (And.intro (And.intro (And.intro @qFN @qFC) (And.intro @and_self (And.intro @false_and @and_false))) (And.intro (And.intro @or_true @true_or) (And.intro @false_or (And.intro @or_false @ZT5))))))))
end Go.Proofs.Ytbcpcjofkfgjoaa
end
section
namespace Go.Proofs.Ytbcpcjofkfgjoaa
structure Dg where
 l : List UInt8
 h : l.length = 32
deriving DecidableEq
def u8A (b : UInt8) : AV := .i .u8 (b.toNat : Int)
theorem Q58 {a b : UInt8} (e : u8A a = u8A b) : a = b := by
 unfold u8A at e
 have e2 : (a.toNat : Int) = (b.toNat : Int) := by
  injection e
 exact UInt8.toNat.inj (by omega)
theorem qZl {α β : Type} {f : α → β} (hf : ∀ a b, f a = f b → a = b) : ∀ {l l' : List α}, l.map f = l'.map f → l = l'
 | [], [], _ => rfl
 | [], _ :: _, e => by simp at e
 | _ :: _, [], e => by simp at e
 | a :: l, b :: l', e => by
  simp only [List.map_cons, List.cons.injEq] at e
  rw [hf a b e.1, qZl hf e.2]
theorem Dg.ext {a b : Dg} (e : a.l = b.l) : a = b := by
 cases a; cases b
 cases e
 rfl
def YBZ : Dg := ⟨List.replicate 32 0, by simp⟩
def idR : Row Dg := ⟨fun x => x.l.map u8A, 32, fun x => by rw [List.length_map]; exact x.h, by decide, YBZ, fun x y e => Dg.ext (qZl (fun a b => Q58) e)⟩
abbrev Hd := (Int × Int) × Dg
def Yl8 : Row Hd := ⟨fun x => [.i .i64 x.1.1, .i .i64 x.1.2] ++ idR.f x.2, 34, fun x => by rw [List.length_append, idR.len]; rfl, by decide, ((0, 0), YBZ), fun x y e => by
 simp only [List.cons_append, List.nil_append, List.cons.injEq, AV.i.injEq, true_and] at e
 exact Prod.ext (Prod.ext e.1 e.2.1) (idR.inj _ _ e.2.2)⟩
theorem XrS : idR.sz = 32 := _root_.id rfl
theorem eqcB : ∀ (l l' : List UInt8), l.length = l'.length → ZpV (List.replicate l.length .i) (l.map u8A) (l'.map u8A) = some (decide (l = l'))
 | [], [], _ => by simp [ZpV]
 | [], _ :: _, e => by simp at e
 | _ :: _, [], e => by simp at e
 | a :: l, b :: l', e => by
  simp only [List.length_cons, List.replicate_succ, List.map_cons, ZpV, u8A, Z8f, if_true, Option.bind_some]
  have ih := eqcB l l' (by simpa using e)
  rw [ih, Option.map_some]
  congr 1
  have h1 : ((a.toNat : Int) == (b.toNat : Int)) = decide (a = b) := by
   rw [Bool.eq_iff_iff]
   simp only [beq_iff_eq, decide_eq_true_eq]
   exact ⟨fun q => UInt8.toNat.inj (by omega), fun q => by rw [q]⟩
  rw [h1, Bool.eq_iff_iff]
  simp
theorem Qfd (a b : Dg) : ZpV [.i, .i, .i, .i, .i, .i, .i, .i, .i, .i, .i, .i, .i, .i, .i, .i, .i, .i, .i, .i, .i, .i, .i, .i, .i, .i, .i, .i, .i, .i, .i, .i] (idR.f a) (idR.f b) = some (decide (a = b)) := by
 have := eqcB a.l b.l (a.h.trans b.h.symm)
 rw [a.h] at this
 refine (show ZpV [.i, .i, .i, .i, .i, .i, .i, .i, .i, .i, .i, .i, .i, .i, .i, .i, .i, .i, .i, .i, .i, .i, .i, .i, .i, .i, .i, .i, .i, .i, .i, .i] (idR.f a) (idR.f b) = some (decide (a.l = b.l)) from this).trans ?_
 congr 1
 exact decide_eq_decide.2 ⟨Dg.ext, fun q => by rw [q]⟩
theorem K4Y (q : Nat → Bool) : ∀ l : List UInt8, okL q (l.map u8A) = true
 | [] => by simp [okL]
 | a :: l => by simp [okL, u8A, AV.ok, K4Y q l]
theorem JGP (q : Nat → Bool) (d : Dg) : okL q (idR.f d) = true := K4Y q d.l
theorem Xh4 : ∀ l : List UInt8, (l.map u8A).all (wrOk true) = true
 | [] => rfl
 | a :: l => by rw [List.map_cons, List.all_cons, Xh4 l]; rfl
theorem zAC (d : Dg) : (idR.f d).all (wrOk true) = true := Xh4 d.l
theorem JEH {α : Type} {r : Row α} (h : ∀ d, (r.f d).all (wrOk true) = true) : ∀ l : List α, (r.cells l).all (wrOk true) = true
 | [] => rfl
 | d :: l => by
  have := JEH h l
  simp only [Row.cells, List.flatMap_cons, List.all_append, h d, Bool.true_and] at this ⊢
  exact this
theorem zrf (l : List Dg) : (idR.cells l).all (wrOk true) = true := JEH zAC l
theorem KeS (x : Dg) : ∀ a ∈ idR.f x, a.fl = true := fun a ha => by
 obtain ⟨b, _, rfl⟩ := List.mem_map.1 (show a ∈ x.l.map u8A from ha)
 rfl
end Go.Proofs.Ytbcpcjofkfgjoaa
end
section
namespace Go.Proofs.Ytbcpcjofkfgjoaa
open Go.ChangeShapes Go.WideShapes Go.ChangeAt Go.RowKit
section
variable {H : Type} {enc : TypeId × Value → H} {w : World} {base : Nat} {held : Bool}
theorem q9l {fuel : Nat} {cs : List Value} {x : DataW H × List MemPlace} (h : DataW.trod enc Try.prog w base (fun _ => true) held fuel 52 cs = some x) : ∃ i : Dg, cs = (idR.f i).map AV.val := by
 cases fuel with
 | zero => cases h
 | succ fuel =>
  obtain ⟨hl, he⟩ := J7o Try.underlying52 h
  have hl2 : cs.length = 32 := hl.trans (by kernel_rfl)
  have h1 : Try.prog.cellsOf 5 = 1 := by kernel_rfl
  obtain ⟨d, hd, hdt⟩ := Kid (fun i (c : UInt8) => cs[i]? = some (.int .u8 (c.toNat : Int))) 32 fun i hi => by
   obtain ⟨y, hy⟩ := he i hi
   rw [h1] at hy
   obtain ⟨n, hn, hw⟩ := Xhn Try.underlying5 hy
   refine ⟨UInt8.ofInt n, ?_⟩
   have e : ((cs.drop (i * 1)).take 1)[0]? = some (.int .u8 n) := by rw [hn]; rfl
   rw [List.getElem?_take_of_lt (by omega), List.getElem?_drop, K0j hw] at e
   simpa using e
  refine ⟨⟨d, hd⟩, ?_⟩
  apply List.ext_getElem?
  intro i
  show cs[i]? = ((d.map u8A).map AV.val)[i]?
  rw [List.map_map]
  by_cases hi : i < 32
  ·rw [List.getElem?_map, List.getElem?_eq_getElem (by omega : i < d.length), Option.map_some, hdt i _ (List.getElem?_eq_getElem (by omega : i < d.length))]
   rfl
  ·rw [List.getElem?_eq_none (by omega), List.getElem?_eq_none (by rw [List.length_map]; omega)]
theorem q3g {v : Value} {l : List Value} (e : v.cells.toList = l) (h : l.length ≠ 1) : v = .agg l.toArray := by
 subst e
 cases v <;> first | (simp [Value.cells] at h; done) | (simp [Value.cells])
end
end Go.Proofs.Ytbcpcjofkfgjoaa
end
section
namespace Go.Proofs.Ytbcpcjofkfgjoaa
section
variable {α : Type} {lt : α → α → Prop}
structure Strict (lt : α → α → Prop) : Prop where
 irr : ∀ a, ¬ lt a a
 tr : ∀ {a b c}, lt a b → lt b c → lt a c
end
def cmpB : List UInt8 → List UInt8 → Int
 | [], [] => 0
 | [], _ :: _ => -1
 | _ :: _, [] => 1
 | a :: l, b :: l' => if a < b then -1 else if b < a then 1 else cmpB l l'
theorem QBL : ∀ l : List UInt8, cmpB l l = 0
 | [] => rfl
 | a :: l => by
  unfold cmpB
  rw [if_neg (UInt8.lt_irrefl a), if_neg (UInt8.lt_irrefl a), QBL l]
theorem Yfk : ∀ {l l' : List UInt8}, cmpB l l' = 0 → l = l'
 | [], [], _ => rfl
 | [], _ :: _, h => by simp [cmpB] at h
 | _ :: _, [], h => by simp [cmpB] at h
 | a :: l, b :: l', h => by
  unfold cmpB at h
  split at h
  ·simp at h
  ·split at h
   ·simp at h
   ·rename_i h1 h2
    rw [Yfk h, UInt8.le_antisymm (UInt8.not_lt.1 h2) (UInt8.not_lt.1 h1)]
theorem ZtX : ∀ (l l' : List UInt8), cmpB l' l = - cmpB l l'
 | [], [] => rfl
 | [], _ :: _ => rfl
 | _ :: _, [] => rfl
 | a :: l, b :: l' => by
  unfold cmpB
  by_cases h1 : a < b
  ·rw [if_pos h1, if_neg (UInt8.lt_asymm h1), if_pos h1]; rfl
  ·by_cases h2 : b < a
   ·rw [if_pos h2, if_neg h1, if_pos h2]
   ·rw [if_neg h1, if_neg h2, if_neg h1, if_neg h2, ZtX l l']
theorem Yod : ∀ (l l' : List UInt8), cmpB l l' = -1 ∨ cmpB l l' = 0 ∨ cmpB l l' = 1
 | [], [] => .inr (.inl rfl)
 | [], _ :: _ => .inl rfl
 | _ :: _, [] => .inr (.inr rfl)
 | a :: l, b :: l' => by
  unfold cmpB
  split
  ·exact .inl rfl
  ·split
   ·exact .inr (.inr rfl)
   ·exact Yod l l'
theorem Zwh : ∀ {a b c : List UInt8}, cmpB a b < 0 → cmpB b c < 0 → cmpB a c < 0
 | [], [], _, h, _ => by simp [cmpB] at h
 | [], _ :: _, [], _, k => by simp [cmpB] at k
 | [], _ :: _, _ :: _, _, _ => by simp [cmpB]
 | _ :: _, [], _, h, _ => by simp [cmpB] at h
 | _ :: _, _ :: _, [], _, k => by simp [cmpB] at k
 | a :: l, b :: l', c :: l'', h, k => by
  unfold cmpB at h k ⊢
  by_cases h1 : a < b
  ·by_cases k1 : b < c
   ·rw [if_pos (UInt8.lt_trans h1 k1)]; omega
   ·rw [if_neg k1] at k
    by_cases k2 : c < b
    ·rw [if_pos k2] at k; omega
    ·have e : b = c := UInt8.le_antisymm (UInt8.not_lt.1 k2) (UInt8.not_lt.1 k1)
     subst e
     rw [if_pos h1]; omega
  ·rw [if_neg h1] at h
   by_cases h2 : b < a
   ·rw [if_pos h2] at h; omega
   ·rw [if_neg h2] at h
    have e : a = b := UInt8.le_antisymm (UInt8.not_lt.1 h2) (UInt8.not_lt.1 h1)
    subst e
    by_cases k1 : a < c
    ·rw [if_pos k1]; omega
    ·rw [if_neg k1] at k ⊢
     by_cases k2 : c < a
     ·rw [if_pos k2] at k; omega
     ·rw [if_neg k2] at k ⊢
      exact Zwh h k
def cmpG (a b : Dg) : Int := cmpB a.l b.l
def KVT (a b : Dg) : Prop := cmpG a b < 0
end Go.Proofs.Ytbcpcjofkfgjoaa
end
section
namespace Go.Proofs.Ytbcpcjofkfgjoaa
open Go.Extern
theorem Zwp (l : List UInt8) (i : Nat) : (⟨l.toArray⟩ : ByteArray)[i]! = l.getD i 0 := by
 by_cases h : i < l.length
 ·have h' : i < (⟨l.toArray⟩ : ByteArray).size := by simpa [ByteArray.size] using h
  rw [getElem!_pos _ i h', List.getD_eq_getElem?_getD, List.getElem?_eq_getElem h]
  rfl
 ·have h' : ¬ i < (⟨l.toArray⟩ : ByteArray).size := by simpa [ByteArray.size] using h
  rw [getElem!_neg _ i h', List.getD_eq_getElem?_getD, List.getElem?_eq_none (by omega)]
  rfl
theorem YVB (l : List UInt8) : (⟨l.toArray⟩ : ByteArray).size = l.length := by simp [ByteArray.size]
theorem YSY : ∀ (l m : List UInt8), BytealgCompare.cmp ⟨l.toArray⟩ ⟨m.toArray⟩ = cmpB l m := by
 have key : ∀ (l m : List UInt8), BytealgCompare.cmp ⟨l.toArray⟩ ⟨m.toArray⟩ = match (List.range (min l.length m.length)).find? fun i => l.getD i 0 != m.getD i 0 with
   | some i => if l.getD i 0 < m.getD i 0 then -1 else 1
   | none => if l.length < m.length then -1 else if l.length > m.length then 1 else 0 := fun l m => by
  unfold BytealgCompare.cmp
  simp only [Zwp, YVB]
  rfl
 intro l
 induction l with
 | nil =>
  intro m
  rw [key]
  cases m with
  | nil => rfl
  | cons b m => simp [cmpB]
 | cons a l ih =>
  intro m
  cases m with
  | nil => rw [key]; simp [cmpB]
  | cons b m =>
   have h2 := ih m
   rw [key] at h2 ⊢
   have e : min (a :: l).length (b :: m).length = min l.length m.length + 1 := by simp only [List.length_cons]; omega
   rw [e, List.range_succ_eq_map, List.find?_cons]
   unfold cmpB
   by_cases hab : a = b
   ·subst hab
    have : ((a :: l).getD 0 0 != (a :: m).getD 0 0) = false := by simp
    rw [this, List.find?_map]
    rw [if_neg (UInt8.lt_irrefl a), if_neg (UInt8.lt_irrefl a), ← h2]
    have e2 : ((fun i => (a :: l).getD i 0 != (a :: m).getD i 0) ∘ Nat.succ) = fun i => l.getD i 0 != m.getD i 0 := by funext i; simp
    rw [e2]
    cases (List.range (min l.length m.length)).find? fun i => l.getD i 0 != m.getD i 0 with
    | none => simp
    | some i => simp
   ·have : ((a :: l).getD 0 0 != (b :: m).getD 0 0) = true := by simpa using hab
    rw [this]
    dsimp only
    by_cases h1 : a < b
    ·rw [if_pos h1]; simp [h1]
    ·rw [if_neg h1, if_pos (UInt8.lt_of_le_of_ne (UInt8.not_lt.1 h1) (Ne.symm hab))]
     simp [h1]
theorem ZsL : ∀ l : List UInt8, bytesOf (l.map u8A) = some l
 | [] => rfl
 | a :: l => by
  show (bytesOf (l.map u8A)).map (UInt8.ofNat ((a.toNat : Int)).toNat :: ·) = _
  rw [ZsL l, Int.toNat_natCast, UInt8.ofNat_toNat]
  rfl
end Go.Proofs.Ytbcpcjofkfgjoaa
end
section
namespace Go.Proofs.Ytbcpcjofkfgjoaa
theorem XHZ {fr : List AV} {h : List AB} {P : Program} {p n m k : Nat} {a : AV} {h' : List AB} : (∃ v, resV fr h [RC.t n, RC.t m, RC.t k] = some v ∧ Bt P p [v] h [a] h') = Bt P p [.tu [pl fr n, pl fr m, pl fr k]] h [a] h' := by
 simp only [resV, QKE, YXw, Option.bind_some, Option.map_some, Option.some.injEq, exists_eq_left', YCx]
def strR : Row (List UInt8) := ⟨fun s => [.s s], 1, fun _ => rfl, by decide, [], fun x y e => by simpa using e⟩
theorem zkT (s : List UInt8) : strR.f s = [.s s] := _root_.id rfl
theorem X0K : strR.sz = 1 := _root_.id rfl
theorem ZjM : strR.d = [] := _root_.id rfl
theorem JfK : ∀ x, ∀ a ∈ strR.f x, a.fl = true := fun x a h => by rw [List.mem_singleton.1 h]; rfl
theorem Qz3 (l : List (List UInt8)) : strR.cells l = l.map AV.s := by
 induction l with
 | nil => rfl
 | cons x l ih => simp only [Row.cells, List.flatMap_cons, List.map_cons] at ih ⊢; rw [ih]; rfl
theorem XnW (l : List (List UInt8)) : (strR.cells l).all (wrOk true) = true := by
 rw [Qz3, List.all_eq_true]
 intro a ha
 obtain ⟨x, _, rfl⟩ := List.mem_map.1 ha
 rfl
def ltS (a b : List UInt8) : Prop := cmpB a b < 0
instance (a b : List UInt8) : Decidable (ltS a b) := inferInstanceAs (Decidable (_ < _))
theorem zyr : Strict ltS := ⟨fun a h => by unfold ltS at h; rw [QBL] at h; omega, fun h k => Zwh h k⟩
theorem K0h (a b : List UInt8) : ltS a b ∨ a = b ∨ ltS b a := by
 unfold ltS
 rw [ZtX a b]
 rcases Yod a b with q | q | q
 ·exact .inl (by omega)
 ·exact .inr (.inl (Yfk q))
 ·exact .inr (.inr (by omega))
theorem K3U {a b : List UInt8} (h : ltS a b) : ¬ ltS b a := fun k => zyr.irr a (zyr.tr h k)
theorem XBs : ∀ a b : List UInt8, Op.bytesLess a b = decide (ltS a b)
 | [], [] => rfl
 | [], _ :: _ => rfl
 | _ :: _, [] => rfl
 | a :: x, b :: y => by
  have ih := XBs x y
  unfold ltS at ih ⊢
  simp only [Op.bytesLess, cmpB, ih]
  by_cases h1 : a < b
  ·simp [h1]
  ·by_cases h2 : b < a
   ·have h3 : ¬ a = b := fun q => by subst q; exact h1 h2
    simp [h1, h2, h3]
   ·have h3 : a = b := UInt8.le_antisymm (UInt8.not_lt.1 h2) (UInt8.not_lt.1 h1)
    subst h3
    simp [h1]
    exact decide_eq_decide.2 Iff.rfl
theorem YZm {a b : List UInt8} : ¬ ltS a b ↔ (b = a ∨ ltS b a) := by
 constructor
 ·intro h
  rcases K0h a b with q | q | q
  ·exact absurd q h
  ·exact .inl q.symm
  ·exact .inr q
 ·rintro (q | q) h
  ·subst q; exact zyr.irr _ h
  ·exact K3U q h
theorem Q6J (a b : List UInt8) : (a == b) = decide (a = b) := by
 rw [Bool.eq_iff_iff]
 simp
theorem qWD (a b : List UInt8) : binV .geq (.s a) (.s b) = some (.b (decide (¬ ltS a b))) := by
 show some (AV.b (!(Op.bytesLess a b))) = _
 rw [XBs, decide_not]
theorem q65 (a b : List UInt8) : binV .leq (.s a) (.s b) = some (.b (decide (¬ ltS b a))) := by
 show some (AV.b (Op.bytesLess a b || a == b)) = _
 rw [XBs, Q6J, ← Bool.decide_or]
 congr 2
 rw [decide_eq_decide, YZm]
 exact or_comm
theorem XAf (a b : List UInt8) : binV .neq (.s a) (.s b) = some (.b (decide (¬ a = b))) := by
 show some (AV.b (!(a == b))) = _
 rw [Q6J, decide_not]
theorem Zo3 (a b : List UInt8) : binV .eql (.s a) (.s b) = some (.b (decide (a = b))) := by
 show some (AV.b (a == b)) = _
 rw [Q6J]
section
variable {α : Type}
def bsG (cf : α → α → Int) (dv : α) (l : List α) (d : α) (lo hi : Nat) : Nat :=
 if lo < hi then (if cf (l.getD ((lo + hi) / 2) dv) d < 0 then bsG cf dv l d ((lo + hi) / 2 + 1) hi else bsG cf dv l d lo ((lo + hi) / 2)) else lo
termination_by hi - lo
decreasing_by all_goals omega
theorem Y9u (cf : α → α → Int) (dv : α) (l : List α) (d : α) (lo hi : Nat) (h : lo ≤ hi) : bsG cf dv l d lo hi ≤ hi := by
 fun_induction bsG cf dv l d lo hi with
 | case1 lo hi h1 h2 ih => exact ih (by omega)
 | case2 lo hi h1 h2 ih => exact Nat.le_trans (ih (by omega)) (by omega)
 | case3 lo hi h1 => exact h
theorem YuY (cf : α → α → Int) (dv : α) (l : List α) (d : α) (hm : ∀ i j, i ≤ j → j < l.length → cf (l.getD j dv) d < 0 → cf (l.getD i dv) d < 0) (lo hi : Nat) (h : lo ≤ hi) (hh : hi ≤ l.length)
  (h1 : ∀ i, i < lo → cf (l.getD i dv) d < 0) (h2 : ∀ i, hi ≤ i → i < l.length → ¬ cf (l.getD i dv) d < 0) :
  (∀ i, i < bsG cf dv l d lo hi → cf (l.getD i dv) d < 0) ∧ ∀ i, bsG cf dv l d lo hi ≤ i → i < l.length → ¬ cf (l.getD i dv) d < 0 := by
 fun_induction bsG cf dv l d lo hi with
 | case1 lo hi g1 g2 ih => exact ih (by omega) hh (fun i hi' => hm i _ (by omega) (by omega) g2) h2
 | case2 lo hi g1 g2 ih => exact ih (by omega) (by omega) h1 (fun i hi' hl q => g2 (hm _ i hi' hl q))
 | case3 lo hi g1 =>
  obtain rfl : lo = hi := by omega
  exact ⟨h1, h2⟩
end
end Go.Proofs.Ytbcpcjofkfgjoaa
end
section
namespace Go.Proofs.Ytbcpcjofkfgjoaa
open Go.ChangeShapes Go.WideShapes Go.ChangeAt Go.RowKit
section
variable {H : Type} {enc : TypeId × Value → H} {w : World} {base : Nat} {held : Bool}
theorem Qjh (s : ByteArray) : AV.val (.s s.data.toList) = .string s := by
 show Value.string ⟨s.data.toList.toArray⟩ = _
 rw [Array.toArray_toList]
theorem Jv0 {fuel : Nat} {cs : List Value} {x : DataW H × List MemPlace} (h : DataW.trod enc Try.prog w base (fun _ => true) held fuel 22 cs = some x) : ∃ v, cs = [v] ∧ ∃ xs : List (List UInt8), Sl w v xs.length ((strR.cells xs).map AV.val) := by
 obtain ⟨v, h1, ts, h2⟩ := Zzi (fun _ cs (c : List UInt8) => cs = (strR.f c).map AV.val) Try.underlying22 (size := 1) (by kernel_rfl) (by decide) (fun fuel cs x hx => by
  obtain ⟨s, rfl, _⟩ := KTm Try.underlying9 hx
  exact ⟨s.data.toList, by rw [zkT, List.map_cons, Qjh]; rfl⟩) h
 exact ⟨v, h1, ts, RdL.row (r := strR) h2⟩
theorem qiO {fuel : Nat} {cs : List Value} {x : DataW H × List MemPlace} (h : DataW.trod enc Try.prog w base (fun _ => true) held fuel 50 cs = some x) : ∃ v, cs = [v] ∧ ∃ xs : List Dg, Sl w v xs.length ((idR.cells xs).map AV.val) := by
 obtain ⟨v, h1, ts, h2⟩ := Zzi (fun _ cs (c : Dg) => cs = (idR.f c).map AV.val) Try.underlying50 (size := 32) (by kernel_rfl) (by decide) (fun fuel cs x hx => q9l hx) h
 exact ⟨v, h1, ts, RdL.row (r := idR) h2⟩
theorem Yqo {fuel : Nat} {s : ByteArray} {x : DataW H × List MemPlace} (h : DataW.trod enc Try.prog w base (fun _ => true) held fuel 9 [.string s] = some x) : s.data.toList.length ≤ maxLen := by
 obtain ⟨s', e, hl⟩ := KTm Try.underlying9 h
 cases e
 rw [Array.length_toList]
 exact hl
end
end Go.Proofs.Ytbcpcjofkfgjoaa
end
