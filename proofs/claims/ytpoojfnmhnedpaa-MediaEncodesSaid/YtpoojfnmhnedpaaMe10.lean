/- Part 10 of what the laws' proofs rest on. No condition. -/
import Derived.WalkLawsBesides
import Derived.Deep.QuietTactic
import Derived.BigQuiet
import Derived.Lib.Hide
import Derived.Deep.WholeRow
import Derived.Test.YtpoojfnmhnedpaaMe9
set_option linter.all false
section
namespace Go.Proofs.Ytpoojfnmhnedpaa
section
variable {α : Type} {r : Row α} {h l : List AB}
def mskQ (base c anc : Nat) (past : List Pt) (l : List AB) : List AB := mskL base c anc past [] 0 l
def vis (base c anc : Nat) (past : List Pt) (k : Nat) : Bool := decide (k < c) || past.any (fun p => bit p.k anc && decide (p.lo ≤ base + k) && decide (base + k < p.hi))
theorem XSi (base c anc : Nat) (past : List Pt) (k : Nat) : qOk (base + c) 0 0 anc past (base + k) = vis base c anc past k := by
 rw [XVi]
 unfold vis
 have e1 : decide (base + k < base + c) = decide (k < c) := decide_eq_decide.2 (by omega)
 have e2 : decide (base + k < 0) = false := decide_eq_false (by omega)
 rw [e1, e2, Bool.and_false, Bool.or_false]
theorem XFT (base c anc : Nat) (past : List Pt) (l : List AB) (k : Nat) : (mskQ base c anc past l)[k]? = (l[k]?).map fun B => if vis base c anc past k = true then B.freeze else .dead := by
 unfold mskQ
 rw [quf, Nat.zero_add]
 congr 1
 funext B
 rw [XSi]
 simp [qdK]
theorem z1a (base c anc : Nat) (past : List Pt) (l : List AB) : (mskQ base c anc past l).length = l.length := by
 rcases Nat.lt_trichotomy (mskQ base c anc past l).length l.length with q | q | q
 ·have := XFT base c anc past l (mskQ base c anc past l).length
  rw [List.getElem?_eq_none (Nat.le_refl _), List.getElem?_eq_getElem q] at this
  cases this
 ·exact q
 ·have := XFT base c anc past l l.length
  rw [List.getElem?_eq_none (Nat.le_refl _), List.getElem?_eq_getElem q] at this
  cases this
theorem Qs4 (L : List AB) (k : Nat) : ownC L k = match L[k]? with
  | some (.blk _ _ xs) => some xs
  | _ => none := by rw [← YGz]; rfl
theorem Zwa {base c anc : Nat} {past : List Pt} {k : Nat} (hv : vis base c anc past k = true) : ownC (mskQ base c anc past l) k = ownC l k := by
 rw [Qs4, Qs4, XFT]
 cases l[k]? with
 | none => rfl
 | some B => simp only [Option.map_some, hv, if_true]; cases B <;> rfl
theorem Q7a {base c anc : Nat} {past : List Pt} {k : Nat} (hv : vis base c anc past k = true) : bxL (mskQ base c anc past l) k = bxL l k := by
 rw [← qQT, ← qQT]
 unfold bxS
 rw [XFT]
 cases l[k]? with
 | none => rfl
 | some B =>
  simp only [Option.map_some, hv, if_true]
  cases B with
  | blk fl m xs => cases fl <;> (cases xs with | nil => rfl | cons a t => cases t <;> rfl)
  | _ => rfl
theorem JKZ (x : List α) : ∀ (L : List AB) (k : Nat), ownR r x L k ↔ ∃ m, L[k]? = some (resB r m x)
 | [], k => by simp [ownR]
 | B :: L, 0 => by simp [ownR]
 | B :: L, k + 1 => by simpa [ownR] using JKZ x L k
theorem YMZ {base c anc : Nat} {past : List Pt} {k : Nat} (x : List α) (hv : vis base c anc past k = true) (hr : ownR r x l k) : ownR r x (mskQ base c anc past l) k = True := by
 refine eq_true ?_
 rw [JKZ] at hr ⊢
 obtain ⟨m, e⟩ := hr
 exact ⟨false, by rw [XFT, e, Option.map_some, if_pos hv, qo8]⟩
theorem ZqV (hz : h.map AB.freeze = h) (c anc n : Nat) (past : List Pt) (l : List AB) (hn : n = h.length + l.length) : YiL (seen (h.length + c) anc past n) [] 0 (h ++ l) = h ++ mskQ h.length c anc past l := z1q hz c anc n past [] l hn rfl
theorem zhe (hz : h.map AB.freeze = h) (anc n : Nat) (past : List Pt) (l : List AB) (hn : n = h.length + l.length) : YiL (seen h.length anc past n) [] 0 (h ++ l) = h ++ mskQ h.length 0 anc past l := z1q hz 0 anc n past [] l hn rfl
theorem qwE (hz : h.map AB.freeze = h) (c anc n : Nat) (past : List Pt) (w0 : Nat) (ws : List Nat) (l : List AB) (hn : n = h.length + l.length) (hw : ((w0 :: ws).all fun id => decide (h.length ≤ id)) = true) : YiL (seen (h.length + c) anc past n) (w0 :: ws) 0 (h ++ l) = h ++ mskL h.length c anc past (w0 :: ws) 0 l := z1q hz c anc n past (w0 :: ws) l hn hw
theorem zsz (G x l : List AB) (hG : G.length = l.length) : KJX [] (h ++ (G ++ x)) 0 (h ++ l) = h ++ (l ++ x) := by
 rw [zSR [] (G ++ x) l rfl]
 congr 1
 refine List.ext_getElem? fun j => ?_
 rw [qR4]
 by_cases hj : j < l.length
 ·rw [if_pos hj, if_neg (by simp), List.getElem?_append_left hj]
 ·rw [if_neg hj, List.getElem?_append_right (by omega), List.getElem?_append_right (by omega), hG]
def qP (anc : Nat) : List Pt → Nat → Bool
 | [], _ => false
 | ⟨k, lo, hi, _, _⟩ :: l, id => if lo ≤ id ∧ id < hi then (if anc / 2 ^ k % 2 = 1 then true else qP anc l id) else qP anc l id
theorem X6p (anc id : Nat) : qP anc [] id = false := _root_.id rfl
theorem Kvq (anc k lo hi : Nat) (rs ws : List Nat) (l : List Pt) (id : Nat) : qP anc (⟨k, lo, hi, rs, ws⟩ :: l) id = if lo ≤ id ∧ id < hi then (if anc / 2 ^ k % 2 = 1 then true else qP anc l id) else qP anc l id := _root_.id rfl
theorem Xey (anc id : Nat) : ∀ past : List Pt, qP anc past id = past.any fun p => bit p.k anc && decide (p.lo ≤ id) && decide (id < p.hi)
 | [] => rfl
 | ⟨k, lo, hi, rs, ws⟩ :: l => by
  rw [Kvq, List.any_cons, Xey anc id l, XPZ]
  by_cases h1 : lo ≤ id <;> by_cases h2 : id < hi <;> by_cases h3 : anc / 2 ^ k % 2 = 1 <;> simp [h1, h2, h3]
theorem zzk (len0 lo hi anc : Nat) (past : List Pt) (id : Nat) : qOk len0 lo hi anc past id = if id < len0 then true else if lo ≤ id ∧ id < hi then true else qP anc past id := by
 rw [XVi, Xey]
 by_cases h1 : id < len0 <;> by_cases h2 : lo ≤ id <;> by_cases h3 : id < hi <;> simp [h1, h2, h3]
theorem Yvm (base c anc : Nat) (past : List Pt) (k : Nat) : vis base c anc past k = if k < c then true else qP anc past (base + k) := by
 unfold vis
 rw [Xey]
 by_cases h1 : k < c <;> simp [h1]
def sepA (anc lo hi : Nat) : List Pt → Bool
 | [] => true
 | ⟨k, lo', hi', _, _⟩ :: l => if hi' ≤ lo ∨ hi ≤ lo' then sepA anc lo hi l else if anc / 2 ^ k % 2 = 1 then false else sepA anc lo hi l
theorem KT8 (anc lo hi : Nat) : sepA anc lo hi [] = true := _root_.id rfl
theorem YxQ (anc lo hi k lo' hi' : Nat) (rs ws : List Nat) (l : List Pt) : sepA anc lo hi (⟨k, lo', hi', rs, ws⟩ :: l) = if hi' ≤ lo ∨ hi ≤ lo' then sepA anc lo hi l else if anc / 2 ^ k % 2 = 1 then false else sepA anc lo hi l := _root_.id rfl
theorem YKl (anc lo hi : Nat) : ∀ past : List Pt, sepA anc lo hi past = past.all fun p' => !bit p'.k anc || decide (p'.hi ≤ lo) || decide (hi ≤ p'.lo)
 | [] => rfl
 | ⟨k, lo', hi', rs, ws⟩ :: l => by
  rw [YxQ, List.all_cons, YKl anc lo hi l, XPZ]
  by_cases h1 : hi' ≤ lo <;> by_cases h2 : hi ≤ lo' <;> by_cases h3 : anc / 2 ^ k % 2 = 1 <;> simp [h1, h2, h3]
def indA (len0 anc : Nat) (past0 : List Pt) (ws0 : List Nat) : List Pt → Bool
 | [] => true
 | ⟨k, lo, hi, rs, ws⟩ :: l => if anc / 2 ^ k % 2 = 1 then indA len0 anc past0 ws0 l else
   if (ws.all fun id => !qOk len0 0 0 anc past0 id) = true then
    if hi ≤ lo ∨ (len0 ≤ lo ∧ sepA anc lo hi past0 = true) then
     if (ws0.all fun id => !YtJ ⟨k, lo, hi, rs, ws⟩ id && !memN id (rs ++ ws)) = true then indA len0 anc past0 ws0 l else false
    else false
   else false
theorem Qzz (len0 anc : Nat) (past0 : List Pt) (ws0 : List Nat) : indA len0 anc past0 ws0 [] = true := _root_.id rfl
theorem JYA (len0 anc : Nat) (past0 : List Pt) (ws0 : List Nat) (k lo hi : Nat) (rs ws : List Nat) (l : List Pt) : indA len0 anc past0 ws0 (⟨k, lo, hi, rs, ws⟩ :: l) = if anc / 2 ^ k % 2 = 1 then indA len0 anc past0 ws0 l else
      if (ws.all fun id => !qOk len0 0 0 anc past0 id) = true then
        if hi ≤ lo ∨ (len0 ≤ lo ∧ sepA anc lo hi past0 = true) then
          if (ws0.all fun id => !YtJ ⟨k, lo, hi, rs, ws⟩ id && !memN id (rs ++ ws)) = true then indA len0 anc past0 ws0 l else false
        else false
      else false := _root_.id rfl
theorem Q5r (len0 anc : Nat) (past0 : List Pt) (ws0 : List Nat) : ∀ past : List Pt, past.all (qX9 len0 anc past0 ws0) = indA len0 anc past0 ws0 past
 | [] => rfl
 | ⟨k, lo, hi, rs, ws⟩ :: l => by
  rw [JYA, List.all_cons, Q5r len0 anc past0 ws0 l, Qv2, YKl, XPZ]
  by_cases h1 : anc / 2 ^ k % 2 = 1
  ·simp [h1]
  ·simp only [h1, decide_false, Bool.false_or, if_false]
   generalize (ws.all fun id => !qOk len0 0 0 anc past0 id) = a
   generalize (past0.all fun p' => !bit p'.k anc || decide (p'.hi ≤ lo) || decide (hi ≤ p'.lo)) = b
   generalize (ws0.all fun id => !YtJ ⟨k, lo, hi, rs, ws⟩ id && !memN id (rs ++ ws)) = e
   by_cases h2 : hi ≤ lo <;> by_cases h3 : len0 ≤ lo <;> cases a <;> cases b <;> cases e <;> simp [h2, h3]
def indL (anc : Nat) (rs : List Nat) : List Pt → Bool
 | [] => true
 | ⟨k, lo, hi, rs', ws⟩ :: l => if anc / 2 ^ k % 2 = 1 then indL anc rs l else
   if (rs.all fun id => !YtJ ⟨k, lo, hi, rs', ws⟩ id) = true then indL anc rs l else false
theorem YjS (anc : Nat) (rs : List Nat) : indL anc rs [] = true := _root_.id rfl
theorem Qhb (anc : Nat) (rs : List Nat) (k lo hi : Nat) (rs' ws : List Nat) (l : List Pt) : indL anc rs (⟨k, lo, hi, rs', ws⟩ :: l) = if anc / 2 ^ k % 2 = 1 then indL anc rs l else
      if (rs.all fun id => !YtJ ⟨k, lo, hi, rs', ws⟩ id) = true then indL anc rs l else false := _root_.id rfl
theorem qL4 (anc : Nat) (rs : List Nat) : ∀ past : List Pt, past.all (Qp8 anc rs []) = indL anc rs past
 | [] => rfl
 | ⟨k, lo, hi, rs', ws⟩ :: l => by
  rw [Qhb, List.all_cons, qL4 anc rs l]
  unfold Qp8
  rw [XPZ, List.append_nil]
  by_cases h1 : anc / 2 ^ k % 2 = 1
  ·simp [h1]
  ·simp only [h1, decide_false, if_false, List.all_nil, Bool.and_true, Bool.false_eq_true]
   generalize (rs.all fun id => !YtJ ⟨k, lo, hi, rs', ws⟩ id) = a
   cases a <;> simp
variable {c : Ctx} {k : List IT} {fr : List AV} {len0 n anc : Nat} {past : List Pt} {d : Option Nat} {ops : List DOp}
theorem qUf (w0 : Nat) (ws : List Nat) (vs : List AV) (v : AV) (G : List AB) : W c (.dmk (w0 :: ws) vs (some (v, G)) len0 n anc past d ops :: k) fr h = (okL (fun i => decide (i < h.length)) vs = true ∧ HOk h ∧ indA len0 anc past (w0 :: ws) past = true ∧ ((w0 :: ws).all fun id => decide (id < h.length)) = true ∧ h.length ≤ G.length ∧ v.ok (qOk len0 h.length G.length anc past) = true ∧
      ((w0 :: ws).all fun id => (G.getD id .dead).ok (qOk len0 h.length G.length anc past)) = true ∧ ((G.drop h.length).all fun B => B.ok (qOk len0 h.length G.length anc past)) = true ∧
      W c (.drw len0 (n + 1) (⟨n, h.length, G.length, seen len0 anc (Yc4 past) h.length, w0 :: ws⟩ :: past) ops :: k) (put fr d v) (KJX (w0 :: ws) G 0 h)) := by
  rw [← Q5r]
  exact KAR (w0 :: ws) vs v G
theorem QkW (vs : List AV) (v : AV) (c0 anc' : Nat) (past' : List Pt) (x : List AB) : W c (.dmk [] vs (some (v, h ++ (mskQ h.length c0 anc' past' l ++ x))) len0 n anc past d ops :: k) fr (h ++ l) = (okL (fun i => decide (i < h.length + l.length)) vs = true ∧ HOk (h ++ l) ∧ indA len0 anc past [] past = true ∧ v.ok (qOk len0 (h.length + l.length) (h.length + (l.length + x.length)) anc past) = true ∧
      (x.all fun B => B.ok (qOk len0 (h.length + l.length) (h.length + (l.length + x.length)) anc past)) = true ∧
      W c (.drw len0 (n + 1) (⟨n, h.length + l.length, h.length + (l.length + x.length), seen len0 anc (Yc4 past) (h.length + l.length), []⟩ :: past) ops :: k) (put fr d v) (h ++ (l ++ x))) := by
  rw [← Q5r, KAR, zsz _ _ _ (z1a _ _ _ _ _)]
  have e1 : (h ++ l).length = h.length + l.length := List.length_append
  have e2 : (h ++ (mskQ h.length c0 anc' past' l ++ x)).length = h.length + (l.length + x.length) := by rw [List.length_append, List.length_append, z1a]
  have e3 : (h ++ (mskQ h.length c0 anc' past' l ++ x)).drop (h ++ l).length = x := by
    rw [e1, YXS, List.drop_append_of_le_length (by rw [z1a]; exact Nat.le_refl _), List.drop_eq_nil_of_le (by rw [z1a]; exact Nat.le_refl _), List.nil_append]
  rw [e3, e2, e1]
  have e4 : (h.length + l.length ≤ h.length + (l.length + x.length)) = True := eq_true (by omega)
  simp only [List.all_nil, e4, true_and]
theorem QUk (vs : List AV) (v : AV) (c0 anc' : Nat) (past' : List Pt) : W c (.dmk [] vs (some (v, h ++ mskQ h.length c0 anc' past' l)) len0 n anc past d ops :: k) fr (h ++ l) = (okL (fun i => decide (i < h.length + l.length)) vs = true ∧ HOk (h ++ l) ∧ indA len0 anc past [] past = true ∧ v.ok (qOk len0 (h.length + l.length) (h.length + l.length) anc past) = true ∧
      W c (.drw len0 (n + 1) (⟨n, h.length + l.length, h.length + l.length, seen len0 anc (Yc4 past) (h.length + l.length), []⟩ :: past) ops :: k) (put fr d v) (h ++ l)) := by
  have := QkW (c := c) (k := k) (fr := fr) (len0 := len0) (n := n) (anc := anc) (past := past) (d := d) (ops := ops) (h := h) (l := l) vs v c0 anc' past' []
  simpa only [List.append_nil, List.length_nil, Nat.add_zero, List.all_nil, true_and] using this
theorem qm5 (v : AV) (h' : List AB) (x : AV) : W c (.dld (some (v, h')) x len0 n anc past d ops :: k) fr h = ((if indA len0 anc past [] past = true then True else indL anc (idOf x) past = true) ∧ x.ok (qOk len0 0 0 anc past) = true ∧ v.ok (qOk len0 0 0 anc past) = true ∧ W c (.drw len0 (n + 1) (⟨n, 0, 0, idOf x, []⟩ :: past) ops :: k) (put fr d v) h) := by
 rw [← Q5r, ← qL4]
 exact XWm v h' x
theorem q7b {n : Nat} (h : n ≤ 1000000) : (n ≤ maxLen) = True := eq_true (by unfold maxLen; omega)
end
def qur := (And.intro (And.intro (And.intro (And.intro (And.intro (And.intro (And.intro @X9C @Jgd) (And.intro @q4J @QvB)) (And.intro (And.intro @zOj @zxQ) (And.intro @XVf (And.intro @zFK @ZCh)))) (And.intro (And.intro (And.intro @QGz @Z0Y) (And.intro @qaU (And.intro @zQZ @YF2))) (And.intro (And.intro @Zl4 @Ynz) (And.intro @YYI (And.intro @ZVj @qm5))))) (And.intro (And.intro (And.intro (And.intro @qkI @K9z) (And.intro @qfn @QWG)) (And.intro (And.intro @q83 @JiQ) (And.intro @Y5T (And.intro @ZnU @K8Z)))) (And.intro (And.intro (And.intro @zb7 @JQP) (And.intro @JPW (And.intro @zGH @Y8X))) (And.intro (And.intro @zX8 @Ykr) (And.intro @zj9 (And.intro @qD0 @zFb)))))) (And.intro (And.intro (And.intro (And.intro (And.intro @QFO @Zbk) (And.intro @zcq @KLp)) (And.intro (And.intro @JM5 @qvc) (And.intro @Zgk (And.intro @qbv @KFT)))) (And.intro (And.intro (And.intro @KUf @Ya6) (And.intro @qIb (And.intro @Q24 @zr0))) (And.intro (And.intro @KI7 @XBn) (And.intro @zia (And.intro @Yml @zGp))))) (And.intro (And.intro (And.intro (And.intro @YSE @Z7s) (And.intro @JwP (And.intro @qg4 @qdK))) (And.intro (And.intro @z3b @YAm) (And.intro @JYe (And.intro @Jif @YR9)))) (And.intro (And.intro (And.intro @Kdz @XuL) (And.intro @X6r (And.intro @Xqo @Jp4))) (And.intro (And.intro @Ynw @XyD) (And.intro @JUt (And.intro @QXX @Xd0))))))) (And.intro (And.intro (And.intro (And.intro (And.intro (And.intro @ok_i @ok_b) (And.intro @ok_s @Khg)) (And.intro (And.intro @KOY @QDh) (And.intro @ok_p (And.intro @ok_y @Zig)))) (And.intro (And.intro (And.intro @ok_f @YwG) (And.intro @zEo (And.intro @Kt4 @Z3W))) (And.intro (And.intro @Z9c @XVh) (And.intro @Yca (And.intro @Qy5 @K47))))) (And.intro (And.intro (And.intro (And.intro @XKW @Zc0) (And.intro @any_nil (And.intro @any_cons @K76))) (And.intro (And.intro @XUv @z0Y) (And.intro @qs5 (And.intro @zFJ @zGt)))) (And.intro (And.intro (And.intro @KPo @KSD) (And.intro @YVp (And.intro @JgM @Tab.ws_nil))) (And.intro (And.intro @Tab.ws_cons @decide_true) (And.intro @decide_false (And.intro @Bool.or_true @Bool.or_false)))))) (And.intro (And.intro (And.intro (And.intro (And.intro @Bool.true_or @Bool.false_or) (And.intro @Bool.not_true @Bool.not_false)) (And.intro (And.intro @zcj @XPo) (And.intro @zjM (And.intro @Kmg @J60)))) (And.intro (And.intro (And.intro @JQs @JcZ) (And.intro @XZS (And.intro @Jzn @JJ1))) (And.intro (And.intro @qUf @QkW) (And.intro @QUk (And.intro @Zwa @Q7a))))) (And.intro (And.intro (And.intro (And.intro @YMZ @z1a) (And.intro @Yvm (And.intro @X6p @Kvq))) (And.intro (And.intro @zzk @KT8) (And.intro @YxQ (And.intro @Qzz @JYA)))) (And.intro (And.intro (And.intro @YjS @Qhb) (And.intro @and_self (And.intro @false_and @and_false))) (And.intro (And.intro @or_true @true_or) (And.intro @false_or (And.intro @or_false @q7b))))))))
end Go.Proofs.Ytpoojfnmhnedpaa
end
section
namespace Go.Proofs.Ytpoojfnmhnedpaa
variable {α : Type} {r : Row α} {h : List AB} {s : AV} {l : List α}
def AV.capOk : AV → Bool
 | .sl _ _ n c _ => decide (n ≤ c)
 | _ => true
theorem Jr2 (id : Nat) (l : List α) : (rsl r id l).capOk = true := by
 unfold rsl
 split <;> simp [AV.capOk]
theorem Rd.slc {id off len cap : Nat} {k : Option Nat} (e : Rd r h (.sl id off len cap k) l) (h0 : l.length ≠ 0) : len = l.length ∧ ∃ xs, qhl h id = some xs ∧ off + l.length * r.sz ≤ xs.length ∧ (xs.drop off).take (l.length * r.sz) = r.cells l := by
 have e1 := e.1
 have e2 := e.len
 simp only [lenV, Option.some.injEq] at e2
 obtain rfl : len = l.length := by omega
 simp only [rdS, if_neg h0] at e1
 obtain ⟨xs, h1, e1⟩ := Option.bind_eq_some_iff.1 e1
 split at e1
 ·rename_i h2
  simp only [Option.some.injEq, Prod.mk.injEq, true_and] at e1
  exact ⟨rfl, xs, h1, h2, e1⟩
 ·cases e1
theorem Rd.mk_sl {id off n cap : Nat} {k : Option Nat} {xs : List AV} (h1 : qhl h id = some xs) (hn : n = l.length) (h2 : off + l.length * r.sz ≤ xs.length) (h3 : (xs.drop off).take (l.length * r.sz) = r.cells l) (hm : l.length ≤ maxLen) : Rd r h (.sl id off n cap k) l := by
 subst hn
 refine ⟨?_, hm⟩
 by_cases h0 : l.length = 0
 ·have : l = [] := List.eq_nil_of_length_eq_zero h0
  subst this
  simp only [rdS, List.length_nil, if_true]
  rfl
 ·simp only [rdS, if_neg h0, h1, Option.bind_some, if_pos h2, h3]
theorem Rd.mk0 {id off cap : Nat} {k : Option Nat} (h0 : l.length = 0) : Rd r h (.sl id off 0 cap k) l := by
 have : l = [] := List.eq_nil_of_length_eq_zero h0
 subst this
 exact ⟨by simp only [rdS, if_true]; rfl, Nat.zero_le _⟩
end Go.Proofs.Ytpoojfnmhnedpaa
end
section
namespace Go.Proofs.Ytpoojfnmhnedpaa
open Go.RowKit
structure Kept (S : Nat → Prop) (w w' : World) : Prop where
 os : w'.os = w.os
 tape : w'.tape = w.tape
 output : w'.output = w.output
 size : w.heap.size ≤ w'.heap.size
 block : ∀ k, k < w.heap.size → ¬ S k → w'.heap[k]? = w.heap[k]?
def NoS : Nat → Prop := fun _ => False
theorem Kept.below {S : Nat → Prop} {B : Nat} {a b : World} (h : Kept S a b) (hB : B ≤ a.heap.size) (hs : ∀ k, k < a.heap.size → S k → B ≤ k) : Below B a b :=
 ⟨h.os, h.tape, h.output, h.size, fun k hk => h.block k (by omega) fun e => by have := hs k (by omega) e; omega⟩
def Blk (w : World) (b : Nat) (vs : Array Value) (e : TypeId) : Prop := w.heap[b]? = some (.cells vs e (0, 0))
theorem Blk.cell {w : World} {b : Nat} {vs : Array Value} {e : TypeId} (h : Blk w b vs e) (i : Nat) : w.cell? ⟨b, i, none⟩ = vs[i]? := by
 unfold Blk at h; simp [World.cell?, h]
theorem Blk.at {w : World} {b : Nat} {vs : Array Value} {e : TypeId} (h : Blk w b vs e) (i : Nat) {u : Value} (hu : vs[i]? = some u) : w.cell? ⟨b, i, none⟩ = some u := (h.cell i).trans hu
def Sl (w : World) (v : Value) (n : Nat) (cs : List Value) : Prop :=
 ((∃ a, v = .slice a 0 0) ∧ n = 0 ∧ cs = []) ∨
 ∃ b off cap, v = .slice (some ⟨b, off, none⟩) n cap ∧ n ≤ cap ∧ cap ≤ maxLen ∧ ∀ i u, cs[i]? = some u → w.cell? ⟨b, off + i, none⟩ = some u
theorem Addr.add_none (b o j : Nat) : (⟨b, o, none⟩ : Addr).add j = ⟨b, o + j, none⟩ := by unfold Addr.add; split <;> simp_all
theorem Sl.at {w : World} {v : Value} {n : Nat} {cs : List Value} (h : Sl w v n cs) : ∃ ao cap, v = .slice ao n cap ∧ n ≤ cap ∧ cap ≤ maxLen ∧ ∀ i u, cs[i]? = some u → ∃ b off, ao = some ⟨b, off, none⟩ ∧ w.cell? ⟨b, off + i, none⟩ = some u := by
 rcases h with ⟨⟨a, rfl⟩, rfl, rfl⟩ | ⟨b, off, cap, rfl, h1, h2, h3⟩
 ·exact ⟨a, 0, rfl, Nat.le_refl _, Nat.zero_le _, fun i u hu => by simp at hu⟩
 ·exact ⟨_, cap, rfl, h1, h2, fun i u hu => ⟨b, off, rfl, h3 i u hu⟩⟩
theorem Sl.get {w : World} {ao : Option Addr} {m cap n : Nat} {cs : List Value} (h : Sl w (.slice ao m cap) n cs) {i : Nat} {u : Value} (hu : cs[i]? = some u) : ∃ b off, ao = some ⟨b, off, none⟩ ∧ w.cell? ⟨b, off + i, none⟩ = some u := by
 obtain ⟨ao', cap', h1, _, _, h4⟩ := Sl.at h
 cases h1
 exact h4 i u hu
def RdI (w : World) (v : Value) (xs : List Int) : Prop := Sl w v xs.length (xs.map (Value.int .i64))
theorem RdI.at {w : World} {v : Value} {xs : List Int} (h : RdI w v xs) : ∃ ao cap, v = .slice ao xs.length cap ∧ xs.length ≤ cap ∧ cap ≤ maxLen ∧ ∀ i x, xs[i]? = some x → ∃ b off, ao = some ⟨b, off, none⟩ ∧ w.cell? ⟨b, off + i, none⟩ = some (.int .i64 x) := by
 obtain ⟨ao, cap, h1, h2, h3, h4⟩ := Sl.at h
 exact ⟨ao, cap, h1, h2, h3, fun i x hx => h4 i _ (by simp [hx])⟩
theorem RdI.get {w : World} {ao : Option Addr} {m cap : Nat} {xs : List Int} (h : RdI w (.slice ao m cap) xs) {i : Nat} {x : Int} (hx : xs[i]? = some x) : ∃ b off, ao = some ⟨b, off, none⟩ ∧ w.cell? ⟨b, off + i, none⟩ = some (.int .i64 x) :=
 Sl.get h (by simp [hx])
section
variable {P : Program} (w : World)
end
end Go.Proofs.Ytpoojfnmhnedpaa
end
section
namespace Go.Proofs.Ytpoojfnmhnedpaa
open Go.RowKit
def AV.val : AV → Value
 | .b t => .bool t
 | .i k n => .int k n
 | .s l => .string ⟨l.toArray⟩
 | _ => undef
def AV.fl : AV → Bool
 | .b _ | .i _ _ | .s _ => true
 | _ => false
theorem JRX (ρ : Mp) {a : AV} (h : a.fl = true) : VR ρ a a.val := by
 cases a <;> first | (cases h; done) | skip
 ·exact .b _
 ·exact .i _ _
 ·exact .s _ _ rfl
theorem JAe (ρ : Mp) : ∀ (l : List AV), (∀ a ∈ l, a.fl = true) → VL ρ l (l.map AV.val).toArray
 | [], _ => VL.nil ρ
 | a :: l, h => VL.cons (JRX ρ (h a (.head _))) (JAe ρ l fun b hb => h b (.tail _ hb))
theorem qXx {ρ : Mp} {l : List AV} {cs : Array Value} (h : VL ρ l cs) : VR ρ (.ag l) (.agg cs) := .ag l cs h.1 h.2
structure In (K : Code → CC → Prop) (ρ : Mp) (h : List AB) (w : World) : Prop where
 rel : Rel K ρ h w
 frz : ∀ B ∈ h, B.mut = false
variable {K : Code → CC → Prop} {ρ : Mp} {h : List AB} {w : World}
theorem In.nil (w : World) : In K [] [] w := ⟨⟨rfl, fun i B b o n h => by simp at h, fun i j bi oi bj oj Bi Bj _ h => by simp at h⟩, fun B h => by simp at h⟩
theorem In.push (r : In K ρ h w) {B : AB} {b o n : Nat} (hm : B.mut = false) (hB : BR K (ρ ++ [(b, o, n)]) w b o n B) : In K (ρ ++ [(b, o, n)]) (h ++ [B]) w := by
 have hf : ∀ C ∈ h ++ [B], C.mut = false := fun C hC => by
  rcases List.mem_append.1 hC with q | q
  ·exact r.frz C q
  ·rw [List.mem_singleton.1 q]; exact hm
 refine ⟨⟨by simp [r.rel.len], fun i C b' o' n' h1 h2 => ?_, fun i j bi oi bj oj Bi Bj _ h1 _ _ _ hm' _ => ?_⟩, hf⟩
 ·by_cases hi : i < h.length
  ·rw [List.getElem?_append_left hi] at h1
   rw [List.getElem?_append_left (by rw [r.rel.len]; exact hi)] at h2
   exact (r.rel.blk i C b' o' n' h1 h2).same (Ext.push _ _) fun _ => rfl
  ·have hlt := (List.getElem?_eq_some_iff.1 h1).1
   rw [List.length_append, List.length_singleton] at hlt
   have : i = h.length := by omega
   subst this
   rw [List.getElem?_append_right (Nat.le_refl _), Nat.sub_self] at h1
   rw [List.getElem?_append_right (by rw [r.rel.len]; exact Nat.le_refl _), r.rel.len, Nat.sub_self] at h2
   cases h1
   cases h2
   exact hB
 ·rw [hf Bi (List.mem_of_getElem? h1)] at hm'
  cases hm'
theorem In.slice {α : Type} {r : Row α} (i : In K ρ h w) {v : Value} {l : List α} (hfl : ∀ x, ∀ a ∈ r.f x, a.fl = true) (hs : Sl w v l.length ((r.cells l).map AV.val)) :
  l.length ≤ maxLen ∧ ∃ x, In K (ρ ++ [x]) (h ++ [resB r false l]) w ∧ VR (ρ ++ [x]) (rsl r h.length l) v := by
 have hrl := i.rel.len
 by_cases h0 : l.length = 0
 ·have : l = [] := List.eq_nil_of_length_eq_zero h0
  subst this
  refine ⟨Nat.zero_le _, (0, 0, 0), i.push (by simp [resB, AB.mut]) (by simp [resB, BR]), ?_⟩
  simp only [rsl, List.length_nil, if_true]
  rcases hs with ⟨⟨a, rfl⟩, _, _⟩ | ⟨b, off, cap, rfl, _, hc, _⟩
  ·exact .sz _ _ _ _ (Nat.zero_le _) fun _ => rfl
  ·exact .sz _ _ _ _ hc fun q => by cases q
 ·rcases hs with ⟨_, q, _⟩ | ⟨b, off, cap, rfl, hlc, hc, hcells⟩
  ·exact absurd q h0
  ·have hlen : (r.cells l).length = l.length * r.sz := r.cells_len l
   have hpos : 0 < l.length * r.sz := Nat.mul_pos (by omega) r.pos
   have hall : ∀ a ∈ r.cells l, a.fl = true := fun a ha => by
    obtain ⟨x, _, hx⟩ := List.mem_flatMap.1 ha
    exact hfl x a hx
   have hat : ∀ k (hk : k < (r.cells l).length), w.cell? ⟨b, off + k, none⟩ = some ((r.cells l)[k]).val := fun k hk => hcells k _ (by rw [List.getElem?_map, List.getElem?_eq_getElem hk]; rfl)
   obtain ⟨cs, e, fz, hb⟩ : ∃ cs e fz, w.heap[b]? = some (.cells cs e fz) := by
    have := hat 0 (by omega)
    unfold World.cell? at this
    split at this
    ·rename_i c e fz hb
     exact ⟨c, e, fz, hb⟩
    ·cases this
   have hat' : ∀ k (hk : k < (r.cells l).length), cs[off + k]? = some ((r.cells l)[k]).val := fun k hk => by
    have := hat k hk
    unfold World.cell? at this
    rw [hb] at this
    simpa using this
   refine ⟨by omega, (b, off, off + cap * r.sz), i.push (by simp [resB, h0, AB.mut]) ?_, ?_⟩
   ·simp only [resB, if_neg h0, BR]
    refine ⟨cs, e, fz, hb, (fun q => by cases q), ?_, fun k a c ha hc' => ?_⟩
    ·have := (Array.getElem?_eq_some_iff.1 (hat' ((r.cells l).length - 1) (by omega))).1
     omega
    ·have hk := (List.getElem?_eq_some_iff.1 ha).1
     rw [hat' k hk] at hc'
     have : a = (r.cells l)[k] := (List.getElem?_eq_some_iff.1 ha).2.symm
     subst this
     cases hc'
     exact JRX _ (hall _ (List.getElem_mem hk))
   ·simp only [rsl, if_neg h0]
    exact .sl h.length 0 l.length l.length (some r.sz) b off (off + cap * r.sz) cap (by rw [← hrl, List.getElem?_append_right (Nat.le_refl _), Nat.sub_self]; rfl) (Nat.le_refl _) hlc hc (fun q => by cases q) (fun z hz _ => by cases hz; exact Nat.le_refl _)
theorem q6l {P : Program} {g : Nat} {az : List AV} {vals : Array Value} {h' : List AB} (i : In (KC P) ρ h w) (hv : VL ρ az vals) (e : FnC P g az h (.b true) h') : Calls P g vals w (fun e w' => e = .returned (.bool true) ∧ Kept NoS w w') := by
 refine (e.2 ρ w vals i.rel hv).mono ?_
 rintro e w' ⟨v', ρ', rfl, hva, _, heff⟩
 cases hva
 refine ⟨rfl, heff.os, heff.tape, heff.output.1, heff.size, fun b hb _ => heff.keep b hb fun ⟨j, B, o, h1, h2, _⟩ => ?_⟩
 rw [i.frz B (List.mem_of_getElem? h1)] at h2
 cases h2
end Go.Proofs.Ytpoojfnmhnedpaa
end
section
namespace Go.Proofs.Ytpoojfnmhnedpaa
structure Dg where
 l : List UInt8
 h : l.length = 32
deriving DecidableEq
def u8A (b : UInt8) : AV := .i .u8 (b.toNat : Int)
theorem Qmb {a b : UInt8} (e : u8A a = u8A b) : a = b := by
 unfold u8A at e
 have e2 : (a.toNat : Int) = (b.toNat : Int) := by
  injection e
 exact UInt8.toNat.inj (by omega)
theorem Xy5 {α β : Type} {f : α → β} (hf : ∀ a b, f a = f b → a = b) : ∀ {l l' : List α}, l.map f = l'.map f → l = l'
 | [], [], _ => rfl
 | [], _ :: _, e => by simp at e
 | _ :: _, [], e => by simp at e
 | a :: l, b :: l', e => by
  simp only [List.map_cons, List.cons.injEq] at e
  rw [hf a b e.1, Xy5 hf e.2]
theorem Dg.ext {a b : Dg} (e : a.l = b.l) : a = b := by
 cases a; cases b
 cases e
 rfl
def ZVn : Dg := ⟨List.replicate 32 0, by simp⟩
def idR : Row Dg := ⟨fun x => x.l.map u8A, 32, fun x => by rw [List.length_map]; exact x.h, by decide, ZVn, fun x y e => Dg.ext (Xy5 (fun a b => Qmb) e)⟩
theorem eqcB : ∀ (l l' : List UInt8), l.length = l'.length → K1E (List.replicate l.length .i) (l.map u8A) (l'.map u8A) = some (decide (l = l'))
 | [], [], _ => by simp [K1E]
 | [], _ :: _, e => by simp at e
 | _ :: _, [], e => by simp at e
 | a :: l, b :: l', e => by
  simp only [List.length_cons, List.replicate_succ, List.map_cons, K1E, u8A, JCq, if_true, Option.bind_some]
  have ih := eqcB l l' (by simpa using e)
  rw [ih, Option.map_some]
  congr 1
  have h1 : ((a.toNat : Int) == (b.toNat : Int)) = decide (a = b) := by
   rw [Bool.eq_iff_iff]
   simp only [beq_iff_eq, decide_eq_true_eq]
   exact ⟨fun q => UInt8.toNat.inj (by omega), fun q => by rw [q]⟩
  rw [h1, Bool.eq_iff_iff]
  simp
theorem qYl (q : Nat → Bool) : ∀ l : List UInt8, okL q (l.map u8A) = true
 | [] => by simp [okL]
 | a :: l => by simp [okL, u8A, AV.ok, qYl q l]
theorem YCa : ∀ l : List UInt8, (l.map u8A).all (wrOk true) = true
 | [] => rfl
 | a :: l => by rw [List.map_cons, List.all_cons, YCa l]; rfl
theorem q0H {α : Type} {r : Row α} (h : ∀ d, (r.f d).all (wrOk true) = true) : ∀ l : List α, (r.cells l).all (wrOk true) = true
 | [] => rfl
 | d :: l => by
  have := q0H h l
  simp only [Row.cells, List.flatMap_cons, List.all_append, h d, Bool.true_and] at this ⊢
  exact this
end Go.Proofs.Ytpoojfnmhnedpaa
end
section
namespace Go.Proofs.Ytpoojfnmhnedpaa
set_option maxRecDepth 100000
def JmT : Nat → Int → Nat → Nat
 | 0, _, k => k
 | f + 1, n, k => if 0 < n / 2 ^ (8 * k) then JmT f n (k + 1) else k
def XDt (n : Int) : Nat := if n < 192 then 0 else JmT 7 n 1
theorem Jz7 (n : Int) : ∀ f k, k ≤ JmT f n k ∧ JmT f n k ≤ k + f
 | 0, k => by simp [JmT]
 | f + 1, k => by
  have := Jz7 n f (k + 1)
  unfold JmT
  split <;> omega
theorem KEl (n : Int) : XDt n ≤ 8 := by
 have := Jz7 n 7 1
 unfold XDt
 split <;> omega
def zPu (n : Int) (k i : Nat) : UInt8 := UInt8.ofInt (n / 2 ^ (8 * (k - 1 - i)))
def Jmv (n : Int) : List UInt8 :=
 if XDt n = 0 then [UInt8.ofInt n] else UInt8.ofInt (191 + XDt n) :: (List.range (XDt n)).map (zPu n (XDt n))
theorem q1l (n : Int) : (Jmv n).length ≤ 9 := by
 have := KEl n
 unfold Jmv
 split <;> simp; omega
def I64 (n : Int) : Prop := -9223372036854775808 ≤ n ∧ n ≤ 9223372036854775807
def wput (lim : Int) (bs : List UInt8) (err : Int) (enc : List UInt8) (ok : Bool) : List UInt8 × Int :=
 if err = 0 then (if ok then (if lim < bs.length + enc.length then (bs, 4) else (bs ++ enc, 0)) else (bs, 3)) else (bs, err)
def Xc0 (err : Int) (bs : List UInt8) : List UInt8 := if err = 0 then bs else []
structure RSt where
 pos : Nat
 err : Int
 ea : Int
def RSt.fail (s : RSt) (e a : Int) : RSt := if s.err = 0 then { s with err := e, ea := a } else s
def Xus (l : List UInt8) : Nat := l.foldl (fun n x => n * 256 + x.toNat) 0
theorem QP4 (l : List UInt8) (x : UInt8) : Xus (l ++ [x]) = Xus l * 256 + x.toNat := by simp [Xus, List.foldl_append]
theorem Xt0 : ∀ (l : List UInt8) (a : Nat), l.foldl (fun n x => n * 256 + x.toNat) a < (a + 1) * 256 ^ l.length
 | [], a => by simp
 | x :: l, a => by
  have h := Xt0 l (a * 256 + x.toNat)
  have hx := x.toNat_lt
  have h2 : (a * 256 + x.toNat + 1) * 256 ^ l.length ≤ ((a + 1) * 256) * 256 ^ l.length := Nat.mul_le_mul_right _ (by omega)
  rw [List.foldl_cons, List.length_cons, Nat.pow_succ, Nat.mul_comm (256 ^ l.length) 256, ← Nat.mul_assoc]
  omega
theorem Kop (l : List UInt8) : Xus l < 256 ^ l.length := by
 have := Xt0 l 0
 simpa [Xus] using this
def YjW (bs : List UInt8) (s : RSt) (c : Nat) : Int × RSt :=
 if 199 < c then (0, { s with err := 5, ea := s.pos })
 else if bs.length < s.pos + 1 + (c - 191) then (0, { s with err := 6, ea := s.pos })
 else if c < 192 then (c, { s with pos := s.pos + 1 })
 else
  let n := Xus ((bs.drop (s.pos + 1)).take (c - 191))
  if 9223372036854775808 ≤ n ∨ XDt n ≠ c - 191 then (0, { s with err := 5, ea := s.pos })
  else (n, { s with pos := s.pos + 1 + (c - 191) })
def zdk (bs : List UInt8) (s : RSt) : Int × RSt :=
 if s.err = 0 then
  match bs[s.pos]? with
  | none => (0, { s with err := 6, ea := s.pos })
  | some c => YjW bs s c.toNat
 else (0, s)
def J7K (bs : List UInt8) (s : RSt) (most : Int) : Int × RSt :=
 if s.err = 0 then (if most < (zdk bs s).1 then ((zdk bs s).1, (zdk bs s).2.fail 4 s.pos) else zdk bs s) else (0, s)
def Q47 (bs : List UInt8) (s : RSt) (n : Nat) (a : Int) : List UInt8 × RSt :=
 if s.err = 0 then (if bs.length < s.pos + n then ([], { s with err := 6, ea := a }) else ((bs.drop s.pos).take n, { s with pos := s.pos + n })) else ([], s)
def Jry (s : RSt) : Int := if s.err = 0 then s.pos else 0
theorem Xn9 (bs : List UInt8) (s : RSt) (h : s.err ≠ 0) : zdk bs s = (0, s) := by rw [zdk, if_neg h]
theorem qiP (bs : List UInt8) (s : RSt) : 0 ≤ (zdk bs s).1 ∧ (zdk bs s).1 ≤ 9223372036854775807 := by
 unfold zdk
 split
 ·split
  ·simp
  ·rename_i c _
   have := c.toNat_lt
   unfold YjW
   split
   ·simp
   ·split
    ·simp
    ·split
     ·simp only; omega
     ·dsimp only
      split
      ·simp
      ·simp only; omega
 ·simp
def YVk (bs : List UInt8) (s : RSt) (most : Int) : List UInt8 × RSt := Q47 bs (J7K bs s most).2 (J7K bs s most).1.toNat (Jry s)
theorem ZsF (bs : List UInt8) (s : RSt) (most : Int) : 0 ≤ (J7K bs s most).1 ∧ (J7K bs s most).1 ≤ 9223372036854775807 := by
 have h := qiP bs s
 unfold J7K
 split
 ·split
  ·exact h
  ·exact h
 ·simp
def Ynt (bs : List UInt8) (s : RSt) : Int := if s.err = 0 then (bs.length : Int) - s.pos else 0
def ZkG (bs : List UInt8) (s : RSt) : Int × Int := if s.err = 0 ∧ s.pos < bs.length then (4, s.pos) else (s.err, s.ea)
def rdID (bs : List UInt8) (s : RSt) : List UInt8 × RSt := (if (Q47 bs s 32 (Jry s)).1.length = 32 then (Q47 bs s 32 (Jry s)).1 else List.replicate 32 0, (Q47 bs s 32 (Jry s)).2)
theorem Kez (bs : List UInt8) (s : RSt) (n : Nat) (a : Int) : (Q47 bs s n a).1.length = n ∨ (Q47 bs s n a).1 = [] := by
 unfold Q47
 split
 ·split
  ·exact .inr rfl
  ·left; simp only [List.length_take, List.length_drop]; omega
 ·exact .inr rfl
def Has (bs : List UInt8) (pos : Nat) (l : List UInt8) : Prop := ∃ x, bs.drop pos = l ++ x ∧ pos ≤ bs.length
def XMX (bs : List UInt8) (pos : Nat) (l : List UInt8) : Prop := ∃ x, x ≠ [] ∧ l = bs.drop pos ++ x ∧ pos ≤ bs.length
theorem YJH (x : Int) : ((UInt8.ofInt x).toNat : Int) = x % 256 := by
 simp only [UInt8.ofInt, UInt8.toNat_ofNat']
 omega
theorem qtI (bs : List UInt8) (s : RSt) (n : Nat) (a : Int) (h : s.err ≠ 0) : Q47 bs s n a = ([], s) := by rw [Q47, if_neg h]
theorem JRM (bs : List UInt8) (s : RSt) (most : Int) (h : s.err ≠ 0) : J7K bs s most = (0, s) := by rw [J7K, if_neg h]
def RGood (bs : List UInt8) (s : RSt) : Prop := s.pos ≤ bs.length ∧ (s.err ≠ 0 → 0 ≤ s.ea ∧ s.ea ≤ bs.length)
theorem RGood.fail {bs : List UInt8} {s : RSt} (h : RGood bs s) (e a : Int) (h0 : 0 ≤ a) (h1 : a ≤ bs.length) : RGood bs (s.fail e a) := by
 unfold RSt.fail
 split
 ·exact ⟨h.1, fun _ => ⟨h0, h1⟩⟩
 ·exact h
theorem RGood.num {bs : List UInt8} {s : RSt} (h : RGood bs s) : RGood bs (zdk bs s).2 := by
 have h1 := h.1
 unfold zdk
 split
 ·split
  ·exact ⟨h1, fun _ => by simp; omega⟩
  ·unfold YjW
   split
   ·exact ⟨h1, fun _ => by simp; omega⟩
   split
   ·exact ⟨h1, fun _ => by simp; omega⟩
   split
   ·exact ⟨by simp; omega, fun e => absurd ‹s.err = 0› e⟩
   ·simp only []
    split
    ·exact ⟨h1, fun _ => by simp; omega⟩
    ·exact ⟨by simp; omega, fun e => absurd ‹s.err = 0› e⟩
 ·exact h
theorem RGood.many {bs : List UInt8} {s : RSt} (h : RGood bs s) (most : Int) : RGood bs (J7K bs s most).2 := by
 have h1 := h.1
 unfold J7K
 split
 ·split
  ·exact h.num.fail _ _ (by omega) (by omega)
  ·exact h.num
 ·exact h
structure De where
 media : Int
 id : List UInt8
 size : Int
 plat : List UInt8
deriving instance DecidableEq for De
def deZ : De := ⟨0, List.replicate 32 0, 0, []⟩
def deEq (a b : De) : Bool := (a.media == b.media) && ((a.id == b.id) && ((a.size == b.size) && (a.plat == b.plat)))
theorem qrU (a b : De) : deEq a b = true ↔ a = b := by
 obtain ⟨a1, a2, a3, a4⟩ := a
 obtain ⟨b1, b2, b3, b4⟩ := b
 simp [deEq]
structure DeOk (d : De) : Prop where
 media : I64 d.media
 id : d.id.length = 32
 size : I64 d.size
def Zhy (ds : List De) : Prop := ∀ d ∈ ds, DeOk d
structure Man where
 kind : Int
 title : List UInt8
 config : De
 layers : List De
 subs : List De
structure ManOk (m : Man) : Prop where
 kind : I64 m.kind
 config : DeOk m.config
 layers : Zhy m.layers
 subs : Zhy m.subs
def zHI (m : Man) : Bool := if m.kind = 3 then decide (m.subs.length = 0) else if m.kind = 4 then decide (m.layers.length = 0) && deEq m.config deZ else false
def allD (m : Man) : List De := (if m.kind = 3 then [m.config] else []) ++ m.layers ++ m.subs
def negD (d : De) : Bool := decide (d.media < 0) || decide (d.size < 0)
def wN (lim : Int) (r : List UInt8 × Int) (n : Int) : List UInt8 × Int := wput lim r.1 r.2 (Jmv n) (decide (0 ≤ n))
def wT (lim : Int) (r : List UInt8 × Int) (s : List UInt8) : List UInt8 × Int := wput lim r.1 r.2 (Jmv s.length ++ s) true
def wI (lim : Int) (r : List UInt8 × Int) (d : List UInt8) : List UInt8 × Int := wput lim r.1 r.2 d true
def wD (lim : Int) (r : List UInt8 × Int) (d : De) : List UInt8 × Int := wT lim (wN lim (wI lim (wN lim r d.media) d.id) d.size) d.plat
theorem ZHa (lim : Int) (bs : List UInt8) (err : Int) (enc : List UInt8) (ok : Bool) (h : (bs.length : Int) ≤ lim) : ((wput lim bs err enc ok).1.length : Int) ≤ lim := by
 unfold wput
 split
 ·split
  ·split
   ·exact h
   ·simp only [List.length_append]
    omega
  ·exact h
 ·exact h
def wC (lim : Int) (r : List UInt8 × Int) (m : Man) : List UInt8 × Int := if m.kind = 3 then wD lim r m.config else r
def wDs (lim : Int) (r : List UInt8 × Int) (ds : List De) : List UInt8 × Int := ds.foldl (wD lim) r
def wR (lim : Int) (r : List UInt8 × Int) (ds : List De) : List UInt8 × Int := wDs lim (wN lim r ds.length) ds
theorem XVY (lim : Int) (r : List UInt8 × Int) (ds : List De) {k : Nat} {d : De} (hd : ds[k]? = some d) : wDs lim r (ds.take (k + 1)) = wD lim (wDs lim r (ds.take k)) d := by
 unfold wDs
 rw [List.take_add_one, hd, List.foldl_append]
 rfl
def seqR (lim : Int) (r : List UInt8 × Int) (m : Man) : Nat → List UInt8 × Int
 | 0 => r
 | 1 => wN lim r 77
 | 2 => wN lim (wN lim r 77) m.kind
 | 3 => wT lim (wN lim (wN lim r 77) m.kind) m.title
 | 4 => wC lim (wT lim (wN lim (wN lim r 77) m.kind) m.title) m
 | _ => wR lim (wC lim (wT lim (wN lim (wN lim r 77) m.kind) m.title) m) (m.layers ++ m.subs)
def menc (m : Man) : List UInt8 × Int :=
 if zHI m = true then
  if (allD m).any negD = true then ([], 3)
  else if 16 < m.layers.length ∨ 8 < m.subs.length then ([], 4)
  else (Xc0 (seqR 4096 ([], 0) m 5).2 (seqR 4096 ([], 0) m 5).1, (seqR 4096 ([], 0) m 5).2)
 else ([], 20)
def rdDe (bs : List UInt8) (s : RSt) : De × RSt :=
 let a := zdk bs s
 let b := rdID bs a.2
 let c := zdk bs b.2
 let d := YVk bs c.2 4096
 (⟨a.1, b.1, c.1, d.1⟩, d.2)
theorem YTS (bs : List UInt8) (s : RSt) : (rdID bs s).1.length = 32 := by
 unfold rdID
 split <;> simp_all
def Jkm (bs : List UInt8) (s : RSt) : Nat → List De × RSt
 | 0 => ([], s)
 | n + 1 => ((Jkm bs s n).1 ++ [(rdDe bs (Jkm bs s n).2).1], (rdDe bs (Jkm bs s n).2).2)
theorem KWu (bs : List UInt8) (s : RSt) : ∀ n, (Jkm bs s n).1.length = n
 | 0 => rfl
 | n + 1 => by simp [Jkm, KWu bs s n]
def manZ : Man := ⟨0, [], deZ, [], []⟩
def Z52 (bs : List UInt8) (s : RSt) (sz : Int) : (Man × Int × Int) × RSt :=
 let a := zdk bs s
 if a.1 = 77 then
  let k := zdk bs a.2
  if k.1 = 3 then
   let t := YVk bs k.2 4096
   let c := rdDe bs t.2
   let n := zdk bs c.2
   if 16 < n.1 then ((⟨k.1, t.1, c.1, [], []⟩, 4, sz - Ynt bs c.2), n.2)
   else ((⟨k.1, t.1, c.1, (Jkm bs n.2 n.1.toNat).1, []⟩, 0, 0), (Jkm bs n.2 n.1.toNat).2)
  else if k.1 = 4 then
   let t := YVk bs k.2 4096
   let n := zdk bs t.2
   if 8 < n.1 then ((⟨k.1, t.1, deZ, [], []⟩, 4, sz - Ynt bs t.2), n.2)
   else ((⟨k.1, t.1, deZ, [], (Jkm bs n.2 n.1.toNat).1⟩, 0, 0), (Jkm bs n.2 n.1.toNat).2)
  else ((⟨k.1, [], deZ, [], []⟩, 20, 0), k.2)
 else ((manZ, 20, 0), a.2)
def X3r (bs : List UInt8) (s5 : RSt) (T : List UInt8) (c : De) (N : Nat) (at0 : Int) : (Man × Int × Int) × RSt := if 16 < N then ((⟨3, T, c, [], []⟩, 4, at0), s5) else ((⟨3, T, c, (Jkm bs s5 N).1, []⟩, 0, 0), (Jkm bs s5 N).2)
def YVn (bs : List UInt8) (s5 : RSt) (T : List UInt8) (N : Nat) (at0 : Int) : (Man × Int × Int) × RSt := if 8 < N then ((⟨4, T, deZ, [], []⟩, 4, at0), s5) else ((⟨4, T, deZ, [], (Jkm bs s5 N).1⟩, 0, 0), (Jkm bs s5 N).2)
theorem qyK {bs : List UInt8} {s : RSt} {sz : Int} {s1 s2 s3 s4 s5 : RSt} {T : List UInt8} {c : De} {N : Nat} (e1 : zdk bs s = (77, s1)) (e2 : zdk bs s1 = (3, s2)) (e3 : YVk bs s2 4096 = (T, s3)) (e4 : rdDe bs s3 = (c, s4)) (e5 : zdk bs s4 = ((N : Int), s5)) : Z52 bs s sz = X3r bs s5 T c N (sz - Ynt bs s4) := by
 unfold Z52 X3r
 simp only [e1, e2, e3, e4, e5, Int.toNat_natCast, ↓reduceIte]
 by_cases h16 : 16 < N
 ·rw [if_pos h16, if_pos (by omega : (16 : Int) < (N : Int))]
 ·rw [if_neg h16, if_neg (by omega : ¬ (16 : Int) < (N : Int))]
theorem zHx {bs : List UInt8} {s : RSt} {sz : Int} {s1 s2 s3 s5 : RSt} {T : List UInt8} {N : Nat} (e1 : zdk bs s = (77, s1)) (e2 : zdk bs s1 = (4, s2)) (e3 : YVk bs s2 4096 = (T, s3)) (e5 : zdk bs s3 = ((N : Int), s5)) : Z52 bs s sz = YVn bs s5 T N (sz - Ynt bs s3) := by
 unfold Z52 YVn
 simp only [e1, e2, e3, e5, Int.toNat_natCast, ↓reduceIte, (by decide : ¬ (4 : Int) = 3)]
 by_cases h16 : 8 < N
 ·rw [if_pos h16, if_pos (by omega : (8 : Int) < (N : Int))]
 ·rw [if_neg h16, if_neg (by omega : ¬ (8 : Int) < (N : Int))]
theorem KAo (bs : List UInt8) (s : RSt) : ∃ (N : Nat) (s' : RSt), zdk bs s = ((N : Int), s') := ⟨(zdk bs s).1.toNat, (zdk bs s).2, Prod.ext (Int.toNat_of_nonneg (qiP _ _).1).symm rfl⟩
def qaQ (bs : List UInt8) (s : RSt) : Bool := decide ((ZkG bs s).1 ≠ 0) && decide (Ynt bs s = 0)
def decF (bs : List UInt8) (x : (Man × Int × Int) × RSt) : Int × Int :=
 if qaQ bs x.2 = true then ZkG bs x.2 else if x.1.2 = (0, 0) then ZkG bs x.2 else x.1.2
def mdec (bs : List UInt8) : Man × Int × Int :=
 if 4096 < bs.length then (manZ, 4, 4096) else
 if decF bs (Z52 bs ⟨0, 0, 0⟩ bs.length) = (0, 0) then ((Z52 bs ⟨0, 0, 0⟩ bs.length).1.1, 0, 0) else (manZ, decF bs (Z52 bs ⟨0, 0, 0⟩ bs.length))
end Go.Proofs.Ytpoojfnmhnedpaa
end
section
namespace Go.Proofs.Ytpoojfnmhnedpaa
section
variable {α β γ : Type}
def Rdr (f : List UInt8 → RSt → α × RSt) (e : List UInt8) (v : α) : Prop :=
 (∀ bs s, s.err = 0 → Has bs s.pos e → f bs s = (v, { s with pos := s.pos + e.length })) ∧
 (∀ bs s, s.err = 0 → XMX bs s.pos e → (f bs s).2.err = 6) ∧
 (∀ bs s, s.err ≠ 0 → (f bs s).2 = s)
theorem Rdr.map {f : List UInt8 → RSt → α × RSt} {e : List UInt8} {v : α} (hf : Rdr f e v) (φ : α → β) : Rdr (fun bs s => (φ (f bs s).1, (f bs s).2)) e (φ v) :=
 ⟨fun bs s hs h => by dsimp only; rw [hf.1 bs s hs h], fun bs s hs h => hf.2.1 bs s hs h, fun bs s hs => hf.2.2 bs s hs⟩
structure DeIn (d : De) : Prop where
 m0 : 0 ≤ d.media
 m1 : d.media ≤ 9223372036854775807
 id : d.id.length = 32
 s0 : 0 ≤ d.size
 s1 : d.size ≤ 9223372036854775807
 pl : d.plat.length ≤ 4096
def K8E (d : De) : List UInt8 := Jmv d.media ++ (d.id ++ (Jmv d.size ++ (Jmv d.plat.length ++ d.plat)))
def Kg1 (ds : List De) : List UInt8 := ds.flatMap K8E
def qXN (m : Man) : List UInt8 := Jmv 77 ++ (Jmv m.kind ++ ((Jmv m.title.length ++ m.title) ++ ((if m.kind = 3 then K8E m.config else []) ++ (Jmv (m.layers ++ m.subs).length ++ Kg1 (m.layers ++ m.subs)))))
structure ManIn (m : Man) : Prop where
 kind : zHI m = true
 all : ∀ d ∈ allD m, DeIn d
 lay : m.layers.length ≤ 16
 sub : m.subs.length ≤ 8
 tit : m.title.length ≤ 4096
theorem XM4 {m : Man} (h : zHI m = true) (h3 : ¬ m.kind = 3) : m.kind = 4 ∧ m.layers = [] ∧ m.config = deZ := by
 unfold zHI at h
 rw [if_neg h3] at h
 split at h
 ·rename_i h4
  rw [Bool.and_eq_true, decide_eq_true_eq, qrU] at h
  exact ⟨h4, List.eq_nil_of_length_eq_zero h.1, h.2⟩
 ·cases h
end
end Go.Proofs.Ytpoojfnmhnedpaa
end
section
namespace Go.Proofs.Ytpoojfnmhnedpaa
section
variable {lim : Int} {r : List UInt8 × Int} {t : List UInt8} {m : Man}
def WS (lim : Int) (r : List UInt8 × Int) (t : List UInt8) : Prop := (r = (t, 0) ∧ (t.length : Int) ≤ lim) ∨ (r.2 = 4 ∧ lim < (t.length : Int))
theorem WS.put (h : WS lim r t) (enc : List UInt8) : WS lim (wput lim r.1 r.2 enc true) (t ++ enc) := by
 unfold WS wput
 rw [List.length_append]
 rcases h with ⟨rfl, h⟩ | ⟨h1, h2⟩
 ·dsimp only
  rw [if_pos rfl, if_pos rfl]
  by_cases q : lim < t.length + enc.length
  ·rw [if_pos q]
   exact .inr ⟨rfl, by omega⟩
  ·rw [if_neg q]
   exact .inl ⟨rfl, by omega⟩
 ·rw [h1, if_neg (by decide)]
  exact .inr ⟨rfl, by omega⟩
theorem WS.num (h : WS lim r t) {n : Int} (h0 : 0 ≤ n) : WS lim (wN lim r n) (t ++ Jmv n) := by
 unfold wN
 rw [decide_eq_true h0]
 exact h.put _
theorem WS.txt (h : WS lim r t) (s : List UInt8) : WS lim (wT lim r s) (t ++ (Jmv s.length ++ s)) := h.put _
theorem WS.id (h : WS lim r t) (s : List UInt8) : WS lim (wI lim r s) (t ++ s) := h.put _
theorem WS.de (h : WS lim r t) {d : De} (h0 : 0 ≤ d.media) (h1 : 0 ≤ d.size) : WS lim (wD lim r d) (t ++ K8E d) := by
 have := (((h.num h0).id d.id).num h1).txt d.plat
 unfold wD K8E
 simpa [List.append_assoc] using this
theorem WS.des : ∀ (ds : List De) {r : List UInt8 × Int} {t : List UInt8}, WS lim r t → (∀ d ∈ ds, 0 ≤ d.media ∧ 0 ≤ d.size) → WS lim (wDs lim r ds) (t ++ Kg1 ds)
 | [], _, t, h, _ => by simpa [wDs, Kg1] using h
 | d :: ds, _, t, h, hd => by
  have := WS.des ds (h.de (hd d List.mem_cons_self).1 (hd d List.mem_cons_self).2) fun x hx => hd x (List.mem_cons_of_mem _ hx)
  simpa [wDs, Kg1, List.append_assoc] using this
theorem WS.man (hk : zHI m = true) (hn : (allD m).any negD = false) (hl : 0 ≤ lim) : WS lim (seqR lim ([], 0) m 5) (qXN m) := by
 have pos : ∀ d ∈ allD m, 0 ≤ d.media ∧ 0 ≤ d.size := fun d hd => by
  have := List.any_eq_false.1 hn d hd
  unfold negD at this
  simp at this
  omega
 have w0 : WS lim ([], 0) [] := .inl ⟨rfl, by simpa using hl⟩
 have w1 := w0.num (n := 77) (by decide)
 have k0 : 0 ≤ m.kind := by
  by_cases h3 : m.kind = 3
  ·omega
  ·have := (XM4 hk h3).1
   omega
 have w3 := (w1.num k0).txt m.title
 have w4 : WS lim (wC lim (wT lim (wN lim (wN lim ([], 0) 77) m.kind) m.title) m) (([] ++ Jmv 77 ++ Jmv m.kind ++ (Jmv m.title.length ++ m.title)) ++ (if m.kind = 3 then K8E m.config else [])) := by
  unfold wC
  by_cases h3 : m.kind = 3
  ·rw [if_pos h3, if_pos h3]
   have := pos m.config (by unfold allD; rw [if_pos h3]; simp)
   exact w3.de this.1 this.2
  ·rw [if_neg h3, if_neg h3, List.append_nil]
   exact w3
 have w5 := WS.des (m.layers ++ m.subs) (w4.num (n := ((m.layers ++ m.subs).length : Nat)) (by omega)) fun d hd => pos d (by
  unfold allD
  rcases List.mem_append.1 hd with q | q <;> simp [q])
 unfold seqR wR
 unfold qXN
 simpa [List.append_assoc] using w5
theorem zQ5 (hk : zHI m = true) (hn : (allD m).any negD = false) (h1 : m.layers.length ≤ 16) (h2 : m.subs.length ≤ 8) : menc m = if (qXN m).length ≤ 4096 then (qXN m, 0) else ([], 4) := by
 have w := WS.man (lim := 4096) hk hn (by decide)
 unfold menc
 rw [if_pos hk, if_neg (by rw [hn]; simp), if_neg (by omega)]
 rcases w with ⟨w1, w2⟩ | ⟨w1, w2⟩
 ·rw [w1, if_pos (by omega)]
  unfold Xc0
  rw [if_pos rfl]
 ·rw [if_neg (by omega), w1]
  unfold Xc0
  rw [if_neg (by decide)]
theorem KVH (h : (menc m).2 ≠ 0) : (menc m).1 = [] := by
 unfold menc at h ⊢
 split at h
 ·rename_i hk
  rw [if_pos hk]
  split at h
  ·rename_i hn
   rw [if_pos hn]
  ·rename_i hn
   rw [if_neg hn]
   split at h
   ·rename_i hs
    rw [if_pos hs]
   ·rename_i hs
    rw [if_neg hs]
    dsimp only at h ⊢
    unfold Xc0
    rw [if_neg h]
 ·rename_i hk
  rw [if_neg hk]
theorem X9D (d : De) : d.plat.length ≤ (K8E d).length := by unfold K8E; simp only [List.length_append]; omega
theorem Y3M {ds : List De} {d : De} (h : d ∈ ds) : (K8E d).length ≤ (Kg1 ds).length := by
 induction ds with
 | nil => cases h
 | cons x l ih =>
  have e : Kg1 (x :: l) = K8E x ++ Kg1 l := by simp [Kg1]
  rw [e, List.length_append]
  rcases List.mem_cons.1 h with rfl | q
  ·omega
  ·have := ih q
   omega
theorem KYM (ok : ManOk m) (hk : zHI m = true) (hn : (allD m).any negD = false) (h1 : m.layers.length ≤ 16) (h2 : m.subs.length ≤ 8) (hl : (qXN m).length ≤ 4096) : ManIn m := by
 have l := hl
 unfold qXN at l
 simp only [List.length_append] at l
 have lr : (Kg1 (m.layers ++ m.subs)).length ≤ 4096 := by omega
 refine ⟨hk, fun d hd => ?_, h1, h2, by omega⟩
 have neg := List.any_eq_false.1 hn d hd
 unfold negD at neg
 simp at neg
 have dok : DeOk d ∧ d.plat.length ≤ 4096 := by
  have key : ∀ d ∈ m.layers ++ m.subs, d.plat.length ≤ 4096 := fun d h => Nat.le_trans (X9D d) (Nat.le_trans (Y3M h) lr)
  unfold allD at hd
  rcases List.mem_append.1 hd with hd | hd
  ·rcases List.mem_append.1 hd with hd | hd
   ·by_cases h3 : m.kind = 3
    ·rw [if_pos h3, List.mem_singleton] at hd
     rw [if_pos h3] at l
     subst hd
     exact ⟨ok.config, Nat.le_trans (X9D _) (by omega)⟩
    ·rw [if_neg h3] at hd
     cases hd
   ·exact ⟨ok.layers d hd, key d (List.mem_append.2 (.inl hd))⟩
  ·exact ⟨ok.subs d hd, key d (List.mem_append.2 (.inr hd))⟩
 have i1 := dok.1.media
 have i2 := dok.1.size
 unfold I64 at i1 i2
 exact ⟨by omega, by omega, dok.1.id, by omega, by omega, dok.2⟩
theorem QvQ (ok : ManOk m) (h : (menc m).2 = 0) : ManIn m ∧ menc m = (qXN m, 0) ∧ (qXN m).length ≤ 4096 := by
 have hk : zHI m = true := by
  apply Classical.byContradiction
  intro q
  unfold menc at h
  rw [if_neg q] at h
  cases h
 have hn : (allD m).any negD = false := by
  cases q : (allD m).any negD with
  | false => rfl
  | true =>
   unfold menc at h
   rw [if_pos hk, if_pos q] at h
   cases h
 have hs : ¬ (16 < m.layers.length ∨ 8 < m.subs.length) := fun q => by
  unfold menc at h
  rw [if_pos hk, if_neg (by rw [hn]; simp), if_pos q] at h
  cases h
 have e := zQ5 hk hn (by omega) (by omega)
 by_cases hl : (qXN m).length ≤ 4096
 ·rw [if_pos hl] at e
  exact ⟨KYM ok hk hn (by omega) (by omega) hl, e, hl⟩
 ·rw [e, if_neg hl] at h
  cases h
end
end Go.Proofs.Ytpoojfnmhnedpaa
end
section
namespace Go.Proofs.Ytpoojfnmhnedpaa
section
variable {α β γ : Type}
def Rok (f : List UInt8 → RSt → α × RSt) (enc : α → List UInt8) (P : α → Prop) : Prop :=
 (∀ bs s, s.err = 0 → RGood bs s → (f bs s).2.err = 0 → Has bs s.pos (enc (f bs s).1) ∧ (f bs s).2 = { s with pos := s.pos + (enc (f bs s).1).length } ∧ P (f bs s).1) ∧
 (∀ bs s, s.err ≠ 0 → (f bs s).2 = s) ∧ (∀ bs s, RGood bs s → RGood bs (f bs s).2)
theorem Rok.map {f : List UInt8 → RSt → α × RSt} {ea : α → List UInt8} {P : α → Prop} (F : Rok f ea P) (φ : α → β) {eb : β → List UInt8} {Q : β → Prop} (he : ∀ x, eb (φ x) = ea x) (hQ : ∀ x, P x → Q (φ x)) : Rok (fun bs s => (φ (f bs s).1, (f bs s).2)) eb Q :=
 ⟨fun bs s hs hg h => by
  obtain ⟨a1, a2, a3⟩ := F.1 bs s hs hg h
  dsimp only
  rw [he]
  exact ⟨a1, a2, hQ _ a3⟩, F.2.1, F.2.2⟩
end
end Go.Proofs.Ytpoojfnmhnedpaa
end
section
namespace Go.Proofs.Ytpoojfnmhnedpaa
def XQp : Row UInt8 := ⟨fun b => [u8A b], 1, fun _ => rfl, by decide, 0, fun x y e => Qmb (by simpa using e)⟩
theorem Jp5 (b : UInt8) : XQp.f b = [u8A b] := rfl
theorem ZGD : XQp.sz = 1 := _root_.id rfl
theorem Kbg (l : List UInt8) : XQp.cells l = l.map u8A := by
 induction l with
 | nil => rfl
 | cons x l ih => simp only [Row.cells, List.flatMap_cons, List.map_cons] at ih ⊢; rw [ih]; rfl
structure Dsc where
 media : Int
 id : Dg
 size : Int
 plat : List UInt8
deriving DecidableEq
def zj8 : Dsc := ⟨0, ZVn, 0, []⟩
def deR : Row Dsc := ⟨fun x => .i .i64 x.media :: (idR.f x.id ++ [.i .i64 x.size, .s x.plat]), 35, fun x => by rw [List.length_cons, List.length_append, idR.len]; rfl, by decide, zj8, fun x y e => by
 obtain ⟨a, b, c, d⟩ := x
 obtain ⟨a', b', c', d'⟩ := y
 simp only [List.cons.injEq, AV.i.injEq, true_and] at e
 obtain ⟨rfl, e⟩ := e
 have h := List.append_inj e (by rw [idR.len, idR.len])
 have h1 := idR.inj _ _ h.1
 simp only [List.cons.injEq, AV.i.injEq, AV.s.injEq, true_and, and_true] at h
 rw [h1, h.2.1, h.2.2]⟩
theorem z3j (x : Dsc) : deR.f x = .i .i64 x.media :: (idR.f x.id ++ [.i .i64 x.size, .s x.plat]) := _root_.id rfl
theorem JLP : deR.sz = 35 := _root_.id rfl
theorem YgR : ∀ x, ∀ a ∈ deR.f x, a.fl = true := fun x a h => by
 rw [z3j] at h
 rcases List.mem_cons.1 h with q | q
 ·rw [q]; rfl
 ·rcases List.mem_append.1 q with q | q
  ·obtain ⟨b, _, rfl⟩ := List.mem_map.1 q
   rfl
  ·rcases List.mem_cons.1 q with q | q
   ·rw [q]; rfl
   ·rw [List.mem_singleton.1 q]; rfl
def Dsc.de (x : Dsc) : De := ⟨x.media, x.id.l, x.size, x.plat⟩
theorem Dsc.de_inj {x y : Dsc} (h : x.de = y.de) : x = y := by
 obtain ⟨a, b, c, d⟩ := x
 obtain ⟨a', b', c', d'⟩ := y
 simp only [Dsc.de, De.mk.injEq] at h
 obtain ⟨rfl, h, rfl, rfl⟩ := h
 rw [Dg.ext h]
def dsc (d : De) : Dsc := ⟨d.media, if h : d.id.length = 32 then ⟨d.id, h⟩ else ZVn, d.size, d.plat⟩
theorem z4V {d : De} (h : d.id.length = 32) : (dsc d).de = d := by
 unfold dsc Dsc.de
 dsimp only
 rw [dif_pos h]
def ZVh (k : Int) (t : List UInt8) (c : Dsc) (l s : List Dsc) : Man := ⟨k, t, c.de, l.map Dsc.de, s.map Dsc.de⟩
theorem qwe {k : Int} {t : List UInt8} {c : Dsc} {l s : List Dsc} (hk : I64 k) (hc : I64 c.media ∧ I64 c.size) (hl : ∀ x ∈ l, I64 x.media ∧ I64 x.size) (hs : ∀ x ∈ s, I64 x.media ∧ I64 x.size) : ManOk (ZVh k t c l s) := by
 have key : ∀ m : List Dsc, (∀ x ∈ m, I64 x.media ∧ I64 x.size) → Zhy (m.map Dsc.de) := fun m h d hd => by
  obtain ⟨x, hx, rfl⟩ := List.mem_map.1 hd
  exact ⟨(h x hx).1, x.id.h, (h x hx).2⟩
 exact ⟨hk, ⟨hc.1, c.id.h, hc.2⟩, key l hl, key s hs⟩
end Go.Proofs.Ytpoojfnmhnedpaa
end
section
namespace Go.Proofs.Ytpoojfnmhnedpaa
open Go.RowKit
section
variable {P : Program} {α : Type} {r : Row α}
theorem Bt.less {p : Nat} {fr : List AV} {h : List AB} {i : Nat} {B B' : AB} (hi : h[i]? = some B) (hbr : ∀ ρ w b o n, BR (KC P) ρ w b o n B → BR (KC P) ρ w b o n B') (hm : B'.mut = true → B.mut = true) (hl : B'.live = true → B.live = true) : Bt P p fr h fr (h.set i B') := by
 intro ρ w cs hp rr v
 have hlt := (List.getElem?_eq_some_iff.1 hi).1
 have cls : ∀ (j : Nat) C, (h.set i B')[j]? = some C → ∃ C0, h[j]? = some C0 ∧ (C.mut = true → C0.mut = true) ∧ (C.live = true → C0.live = true) ∧ ∀ ρ w b o n, BR (KC P) ρ w b o n C0 → BR (KC P) ρ w b o n C := fun j C hC => by
  rw [List.getElem?_set] at hC
  split at hC
  ·rename_i hij
   subst hij
   cases hC
   exact ⟨B, hi, hm, hl, hbr⟩
  ·exact ⟨C, hC, fun z => z, fun z => z, fun _ _ _ _ _ z => z⟩
 refine ⟨by rw [List.length_set]; exact hp, ρ, v, ⟨by rw [List.length_set]; exact rr.len, fun j C b o n h1 h2 => ?_, fun j k bj oj bk ok Bj Bk hne h1 h2 h3 h4 g1 g2 => ?_⟩, fun b ⟨j, C, o, h1, h2, h3⟩ => ?_, fun j b ⟨C, o, h1, h2, h3⟩ => ?_, fun _ _ => rfl⟩
 ·obtain ⟨C0, q1, _, _, q4⟩ := cls j C h1
  exact q4 _ _ _ _ _ (rr.blk j C0 b o n q1 h2)
 ·obtain ⟨C0, q1, q2, _, _⟩ := cls j Bj h1
  obtain ⟨C1, z1, _, z3, _⟩ := cls k Bk h2
  exact rr.sep j k bj oj bk ok C0 C1 hne q1 z1 h3 h4 (q2 g1) (z3 g2)
 ·obtain ⟨C0, q1, q2, _, _⟩ := cls j C h1
  exact ⟨j, C0, o, q1, q2 h2, h3⟩
 ·obtain ⟨C0, q1, _, q3, _⟩ := cls j C h1
  exact ⟨j, ⟨C0, o, q1, q3 h2, h3⟩, fun _ => rfl, fun z => z⟩
end
end Go.Proofs.Ytpoojfnmhnedpaa
end
