/- Part 21 of what the laws' proofs rest on. No condition. -/
import Derived.Test.YtebcngelgdpbjaaGreatGp20
set_option linter.all false
section
namespace Go.Proofs.YtebcngelgdpbjaaGreat
section
variable {α : Type} {r : Row α} {h l : List AB}
def mskQ (base c anc : Nat) (past : List Pt) (l : List AB) : List AB := mskL base c anc past [] 0 l
def vis (base c anc : Nat) (past : List Pt) (k : Nat) : Bool := decide (k < c) || past.any (fun p => bit p.k anc && decide (p.lo ≤ base + k) && decide (base + k < p.hi))
theorem JA5 (base c anc : Nat) (past : List Pt) (k : Nat) : qOk (base + c) 0 0 anc past (base + k) = vis base c anc past k := by
 rw [YV0]
 unfold vis
 have e1 : decide (base + k < base + c) = decide (k < c) := decide_eq_decide.2 (by omega)
 have e2 : decide (base + k < 0) = false := decide_eq_false (by omega)
 rw [e1, e2, Bool.and_false, Bool.or_false]
theorem XNU (base c anc : Nat) (past : List Pt) (l : List AB) (k : Nat) : (mskQ base c anc past l)[k]? = (l[k]?).map fun B => if vis base c anc past k = true then B.freeze else .dead := by
 unfold mskQ
 rw [Q69, Nat.zero_add]
 congr 1
 funext B
 rw [JA5]
 simp [ZCV]
theorem qsJ (base c anc : Nat) (past : List Pt) (l : List AB) : (mskQ base c anc past l).length = l.length := by
 rcases Nat.lt_trichotomy (mskQ base c anc past l).length l.length with q | q | q
 ·have := XNU base c anc past l (mskQ base c anc past l).length
  rw [List.getElem?_eq_none (Nat.le_refl _), List.getElem?_eq_getElem q] at this
  cases this
 ·exact q
 ·have := XNU base c anc past l l.length
  rw [List.getElem?_eq_none (Nat.le_refl _), List.getElem?_eq_getElem q] at this
  cases this
theorem qxz (L : List AB) (k : Nat) : ownC L k = match L[k]? with
  | some (.blk _ _ xs) => some xs
  | _ => none := by rw [← XDe]; rfl
theorem qLz {base c anc : Nat} {past : List Pt} {k : Nat} (hv : vis base c anc past k = true) : ownC (mskQ base c anc past l) k = ownC l k := by
 rw [qxz, qxz, XNU]
 cases l[k]? with
 | none => rfl
 | some B => simp only [Option.map_some, hv, if_true]; cases B <;> rfl
theorem z33 {base c anc : Nat} {past : List Pt} {k : Nat} (hv : vis base c anc past k = true) : bxL (mskQ base c anc past l) k = bxL l k := by
 rw [← z8s, ← z8s]
 unfold bxS
 rw [XNU]
 cases l[k]? with
 | none => rfl
 | some B =>
  simp only [Option.map_some, hv, if_true]
  cases B with
  | blk fl m xs => cases fl <;> (cases xs with | nil => rfl | cons a t => cases t <;> rfl)
  | _ => rfl
theorem KI4 (x : List α) : ∀ (L : List AB) (k : Nat), ownR r x L k ↔ ∃ m, L[k]? = some (resB r m x)
 | [], k => by simp [ownR]
 | B :: L, 0 => by simp [ownR]
 | B :: L, k + 1 => by simpa [ownR] using KI4 x L k
theorem zkY {base c anc : Nat} {past : List Pt} {k : Nat} (x : List α) (hv : vis base c anc past k = true) (hr : ownR r x l k) : ownR r x (mskQ base c anc past l) k = True := by
 refine eq_true ?_
 rw [KI4] at hr ⊢
 obtain ⟨m, e⟩ := hr
 exact ⟨false, by rw [XNU, e, Option.map_some, if_pos hv, K96]⟩
theorem QqT (hz : h.map AB.freeze = h) (c anc n : Nat) (past : List Pt) (l : List AB) (hn : n = h.length + l.length) : XWo (seen (h.length + c) anc past n) [] 0 (h ++ l) = h ++ mskQ h.length c anc past l := qDR hz c anc n past [] l hn rfl
theorem qNP (hz : h.map AB.freeze = h) (anc n : Nat) (past : List Pt) (l : List AB) (hn : n = h.length + l.length) : XWo (seen h.length anc past n) [] 0 (h ++ l) = h ++ mskQ h.length 0 anc past l := qDR hz 0 anc n past [] l hn rfl
theorem Ygl (hz : h.map AB.freeze = h) (c anc n : Nat) (past : List Pt) (w0 : Nat) (ws : List Nat) (l : List AB) (hn : n = h.length + l.length) (hw : ((w0 :: ws).all fun id => decide (h.length ≤ id)) = true) : XWo (seen (h.length + c) anc past n) (w0 :: ws) 0 (h ++ l) = h ++ mskL h.length c anc past (w0 :: ws) 0 l := qDR hz c anc n past (w0 :: ws) l hn hw
theorem ZAY (G x l : List AB) (hG : G.length = l.length) : ZWL [] (h ++ (G ++ x)) 0 (h ++ l) = h ++ (l ++ x) := by
 rw [Zzr [] (G ++ x) l rfl]
 congr 1
 refine List.ext_getElem? fun j => ?_
 rw [qEn]
 by_cases hj : j < l.length
 ·rw [if_pos hj, if_neg (by simp), List.getElem?_append_left hj]
 ·rw [if_neg hj, List.getElem?_append_right (by omega), List.getElem?_append_right (by omega), hG]
def qP (anc : Nat) : List Pt → Nat → Bool
 | [], _ => false
 | ⟨k, lo, hi, _, _⟩ :: l, id => if lo ≤ id ∧ id < hi then (if anc / 2 ^ k % 2 = 1 then true else qP anc l id) else qP anc l id
theorem XeH (anc id : Nat) : qP anc [] id = false := _root_.id rfl
theorem Xkm (anc k lo hi : Nat) (rs ws : List Nat) (l : List Pt) (id : Nat) : qP anc (⟨k, lo, hi, rs, ws⟩ :: l) id = if lo ≤ id ∧ id < hi then (if anc / 2 ^ k % 2 = 1 then true else qP anc l id) else qP anc l id := _root_.id rfl
theorem Q2E (anc id : Nat) : ∀ past : List Pt, qP anc past id = past.any fun p => bit p.k anc && decide (p.lo ≤ id) && decide (id < p.hi)
 | [] => rfl
 | ⟨k, lo, hi, rs, ws⟩ :: l => by
  rw [Xkm, List.any_cons, Q2E anc id l, Zdn]
  by_cases h1 : lo ≤ id <;> by_cases h2 : id < hi <;> by_cases h3 : anc / 2 ^ k % 2 = 1 <;> simp [h1, h2, h3]
theorem Yl8 (len0 lo hi anc : Nat) (past : List Pt) (id : Nat) : qOk len0 lo hi anc past id = if id < len0 then true else if lo ≤ id ∧ id < hi then true else qP anc past id := by
 rw [YV0, Q2E]
 by_cases h1 : id < len0 <;> by_cases h2 : lo ≤ id <;> by_cases h3 : id < hi <;> simp [h1, h2, h3]
theorem Q60 (base c anc : Nat) (past : List Pt) (k : Nat) : vis base c anc past k = if k < c then true else qP anc past (base + k) := by
 unfold vis
 rw [Q2E]
 by_cases h1 : k < c <;> simp [h1]
def sepA (anc lo hi : Nat) : List Pt → Bool
 | [] => true
 | ⟨k, lo', hi', _, _⟩ :: l => if hi' ≤ lo ∨ hi ≤ lo' then sepA anc lo hi l else if anc / 2 ^ k % 2 = 1 then false else sepA anc lo hi l
theorem Y3h (anc lo hi : Nat) : sepA anc lo hi [] = true := _root_.id rfl
theorem YbN (anc lo hi k lo' hi' : Nat) (rs ws : List Nat) (l : List Pt) : sepA anc lo hi (⟨k, lo', hi', rs, ws⟩ :: l) = if hi' ≤ lo ∨ hi ≤ lo' then sepA anc lo hi l else if anc / 2 ^ k % 2 = 1 then false else sepA anc lo hi l := _root_.id rfl
theorem zQE (anc lo hi : Nat) : ∀ past : List Pt, sepA anc lo hi past = past.all fun p' => !bit p'.k anc || decide (p'.hi ≤ lo) || decide (hi ≤ p'.lo)
 | [] => rfl
 | ⟨k, lo', hi', rs, ws⟩ :: l => by
  rw [YbN, List.all_cons, zQE anc lo hi l, Zdn]
  by_cases h1 : hi' ≤ lo <;> by_cases h2 : hi ≤ lo' <;> by_cases h3 : anc / 2 ^ k % 2 = 1 <;> simp [h1, h2, h3]
def indA (len0 anc : Nat) (past0 : List Pt) (ws0 : List Nat) : List Pt → Bool
 | [] => true
 | ⟨k, lo, hi, rs, ws⟩ :: l => if anc / 2 ^ k % 2 = 1 then indA len0 anc past0 ws0 l else
   if (ws.all fun id => !qOk len0 0 0 anc past0 id) = true then
    if hi ≤ lo ∨ (len0 ≤ lo ∧ sepA anc lo hi past0 = true) then
     if (ws0.all fun id => !KjY ⟨k, lo, hi, rs, ws⟩ id && !memN id (rs ++ ws)) = true then indA len0 anc past0 ws0 l else false
    else false
   else false
theorem qs5 (len0 anc : Nat) (past0 : List Pt) (ws0 : List Nat) : indA len0 anc past0 ws0 [] = true := _root_.id rfl
theorem Ja2 (len0 anc : Nat) (past0 : List Pt) (ws0 : List Nat) (k lo hi : Nat) (rs ws : List Nat) (l : List Pt) : indA len0 anc past0 ws0 (⟨k, lo, hi, rs, ws⟩ :: l) = if anc / 2 ^ k % 2 = 1 then indA len0 anc past0 ws0 l else
      if (ws.all fun id => !qOk len0 0 0 anc past0 id) = true then
        if hi ≤ lo ∨ (len0 ≤ lo ∧ sepA anc lo hi past0 = true) then
          if (ws0.all fun id => !KjY ⟨k, lo, hi, rs, ws⟩ id && !memN id (rs ++ ws)) = true then indA len0 anc past0 ws0 l else false
        else false
      else false := _root_.id rfl
theorem XS0 (len0 anc : Nat) (past0 : List Pt) (ws0 : List Nat) : ∀ past : List Pt, past.all (z5d len0 anc past0 ws0) = indA len0 anc past0 ws0 past
 | [] => rfl
 | ⟨k, lo, hi, rs, ws⟩ :: l => by
  rw [Ja2, List.all_cons, XS0 len0 anc past0 ws0 l, q00, zQE, Zdn]
  by_cases h1 : anc / 2 ^ k % 2 = 1
  ·simp [h1]
  ·simp only [h1, decide_false, Bool.false_or, if_false]
   generalize (ws.all fun id => !qOk len0 0 0 anc past0 id) = a
   generalize (past0.all fun p' => !bit p'.k anc || decide (p'.hi ≤ lo) || decide (hi ≤ p'.lo)) = b
   generalize (ws0.all fun id => !KjY ⟨k, lo, hi, rs, ws⟩ id && !memN id (rs ++ ws)) = e
   by_cases h2 : hi ≤ lo <;> by_cases h3 : len0 ≤ lo <;> cases a <;> cases b <;> cases e <;> simp [h2, h3]
def indL (anc : Nat) (rs : List Nat) : List Pt → Bool
 | [] => true
 | ⟨k, lo, hi, rs', ws⟩ :: l => if anc / 2 ^ k % 2 = 1 then indL anc rs l else
   if (rs.all fun id => !KjY ⟨k, lo, hi, rs', ws⟩ id) = true then indL anc rs l else false
theorem KKF (anc : Nat) (rs : List Nat) : indL anc rs [] = true := _root_.id rfl
theorem qku (anc : Nat) (rs : List Nat) (k lo hi : Nat) (rs' ws : List Nat) (l : List Pt) : indL anc rs (⟨k, lo, hi, rs', ws⟩ :: l) = if anc / 2 ^ k % 2 = 1 then indL anc rs l else
      if (rs.all fun id => !KjY ⟨k, lo, hi, rs', ws⟩ id) = true then indL anc rs l else false := _root_.id rfl
theorem Z32 (anc : Nat) (rs : List Nat) : ∀ past : List Pt, past.all (K99 anc rs []) = indL anc rs past
 | [] => rfl
 | ⟨k, lo, hi, rs', ws⟩ :: l => by
  rw [qku, List.all_cons, Z32 anc rs l]
  unfold K99
  rw [Zdn, List.append_nil]
  by_cases h1 : anc / 2 ^ k % 2 = 1
  ·simp [h1]
  ·simp only [h1, decide_false, if_false, List.all_nil, Bool.and_true, Bool.false_eq_true]
   generalize (rs.all fun id => !KjY ⟨k, lo, hi, rs', ws⟩ id) = a
   cases a <;> simp
variable {c : Ctx} {k : List IT} {fr : List AV} {len0 n anc : Nat} {past : List Pt} {d : Option Nat} {ops : List DOp}
theorem Zc0 (w0 : Nat) (ws : List Nat) (vs : List AV) (v : AV) (G : List AB) : W c (.dmk (w0 :: ws) vs (some (v, G)) len0 n anc past d ops :: k) fr h = (okL (fun i => decide (i < h.length)) vs = true ∧ HOk h ∧ indA len0 anc past (w0 :: ws) past = true ∧ ((w0 :: ws).all fun id => decide (id < h.length)) = true ∧ h.length ≤ G.length ∧ v.ok (qOk len0 h.length G.length anc past) = true ∧
      ((w0 :: ws).all fun id => (G.getD id .dead).ok (qOk len0 h.length G.length anc past)) = true ∧ ((G.drop h.length).all fun B => B.ok (qOk len0 h.length G.length anc past)) = true ∧
      W c (.drw len0 (n + 1) (⟨n, h.length, G.length, seen len0 anc (JFV past) h.length, w0 :: ws⟩ :: past) ops :: k) (put fr d v) (ZWL (w0 :: ws) G 0 h)) := by
  rw [← XS0]
  exact Zbm (w0 :: ws) vs v G
theorem KGB (vs : List AV) (v : AV) (c0 anc' : Nat) (past' : List Pt) (x : List AB) : W c (.dmk [] vs (some (v, h ++ (mskQ h.length c0 anc' past' l ++ x))) len0 n anc past d ops :: k) fr (h ++ l) = (okL (fun i => decide (i < h.length + l.length)) vs = true ∧ HOk (h ++ l) ∧ indA len0 anc past [] past = true ∧ v.ok (qOk len0 (h.length + l.length) (h.length + (l.length + x.length)) anc past) = true ∧
      (x.all fun B => B.ok (qOk len0 (h.length + l.length) (h.length + (l.length + x.length)) anc past)) = true ∧
      W c (.drw len0 (n + 1) (⟨n, h.length + l.length, h.length + (l.length + x.length), seen len0 anc (JFV past) (h.length + l.length), []⟩ :: past) ops :: k) (put fr d v) (h ++ (l ++ x))) := by
  rw [← XS0, Zbm, ZAY _ _ _ (qsJ _ _ _ _ _)]
  have e1 : (h ++ l).length = h.length + l.length := List.length_append
  have e2 : (h ++ (mskQ h.length c0 anc' past' l ++ x)).length = h.length + (l.length + x.length) := by rw [List.length_append, List.length_append, qsJ]
  have e3 : (h ++ (mskQ h.length c0 anc' past' l ++ x)).drop (h ++ l).length = x := by
    rw [e1, YFs, List.drop_append_of_le_length (by rw [qsJ]; exact Nat.le_refl _), List.drop_eq_nil_of_le (by rw [qsJ]; exact Nat.le_refl _), List.nil_append]
  rw [e3, e2, e1]
  have e4 : (h.length + l.length ≤ h.length + (l.length + x.length)) = True := eq_true (by omega)
  simp only [List.all_nil, e4, true_and]
theorem QkC (vs : List AV) (v : AV) (c0 anc' : Nat) (past' : List Pt) : W c (.dmk [] vs (some (v, h ++ mskQ h.length c0 anc' past' l)) len0 n anc past d ops :: k) fr (h ++ l) = (okL (fun i => decide (i < h.length + l.length)) vs = true ∧ HOk (h ++ l) ∧ indA len0 anc past [] past = true ∧ v.ok (qOk len0 (h.length + l.length) (h.length + l.length) anc past) = true ∧
      W c (.drw len0 (n + 1) (⟨n, h.length + l.length, h.length + l.length, seen len0 anc (JFV past) (h.length + l.length), []⟩ :: past) ops :: k) (put fr d v) (h ++ l)) := by
  have := KGB (c := c) (k := k) (fr := fr) (len0 := len0) (n := n) (anc := anc) (past := past) (d := d) (ops := ops) (h := h) (l := l) vs v c0 anc' past' []
  simpa only [List.append_nil, List.length_nil, Nat.add_zero, List.all_nil, true_and] using this
theorem Zpt (v : AV) (h' : List AB) (x : AV) : W c (.dld (some (v, h')) x len0 n anc past d ops :: k) fr h = ((if indA len0 anc past [] past = true then True else indL anc (idOf x) past = true) ∧ x.ok (qOk len0 0 0 anc past) = true ∧ v.ok (qOk len0 0 0 anc past) = true ∧ W c (.drw len0 (n + 1) (⟨n, 0, 0, idOf x, []⟩ :: past) ops :: k) (put fr d v) h) := by
 rw [← XS0, ← Z32]
 exact QAt v h' x
theorem z9l {n : Nat} (h : n ≤ 1000000) : (n ≤ maxLen) = True := eq_true (by unfold maxLen; omega)
end
def KHD := (And.intro (And.intro (And.intro (And.intro (And.intro (And.intro (And.intro @JnW @XGf) (And.intro @Qja @XfC)) (And.intro (And.intro @Q3L @zBQ) (And.intro @Kgs (And.intro @YYi @YHN)))) (And.intro (And.intro (And.intro @JWl @XvW) (And.intro @zAb (And.intro @XUU @KS9))) (And.intro (And.intro @XL3 @X2y) (And.intro @QOM (And.intro @KYl @Zpt))))) (And.intro (And.intro (And.intro (And.intro @YRc @XKY) (And.intro @J7f @qp6)) (And.intro (And.intro @YqO @zUe) (And.intro @ZjU (And.intro @J64 @KHC)))) (And.intro (And.intro (And.intro @qCY @KrI) (And.intro @JNA (And.intro @zFj @zqu))) (And.intro (And.intro @Jpj @KEM) (And.intro @ZJX (And.intro @qnu @z0m)))))) (And.intro (And.intro (And.intro (And.intro (And.intro @KwM @X9A) (And.intro @K6y @zCb)) (And.intro (And.intro @Zte @JyU) (And.intro @KAg (And.intro @Jtl @QaK)))) (And.intro (And.intro (And.intro @XLN @QP9) (And.intro @ZwL (And.intro @ZMF @Jzc))) (And.intro (And.intro @K9z @XDy) (And.intro @zEI (And.intro @zJy @KTU))))) (And.intro (And.intro (And.intro (And.intro @Z9l @Zmm) (And.intro @Z3D (And.intro @zKD @ZCV))) (And.intro (And.intro @XEq @z8e) (And.intro @Q4L (And.intro @Qm6 @Z3E)))) (And.intro (And.intro (And.intro @QGF @q9f) (And.intro @KfQ (And.intro @qJM @qOD))) (And.intro (And.intro @zRj @XBe) (And.intro @Jvy (And.intro @zPK @X6y))))))) (And.intro (And.intro (And.intro (And.intro (And.intro (And.intro @ok_i @ok_b) (And.intro @ok_s @qn9)) (And.intro (And.intro @Xlp @ZZY) (And.intro @ok_p (And.intro @ok_y @ZM3)))) (And.intro (And.intro (And.intro @ok_f @Y8y) (And.intro @Ztn (And.intro @Xrv @XDA))) (And.intro (And.intro @zNr @KbL) (And.intro @QlK (And.intro @zwZ @zCn))))) (And.intro (And.intro (And.intro (And.intro @zGb @JbL) (And.intro @QG4 (And.intro @any_cons @z1E))) (And.intro (And.intro @zAD @zWD) (And.intro @qaT (And.intro @KbN @Qpq)))) (And.intro (And.intro (And.intro @ZNP @QZP) (And.intro @Z8s (And.intro @JiY @Tab.ws_nil))) (And.intro (And.intro @Tab.ws_cons @decide_true) (And.intro @decide_false (And.intro @Bool.or_true @Bool.or_false)))))) (And.intro (And.intro (And.intro (And.intro (And.intro @Bool.true_or @Bool.false_or) (And.intro @Bool.not_true @Bool.not_false)) (And.intro (And.intro @JsZ @YrQ) (And.intro @zMA (And.intro @Z1h @zfn)))) (And.intro (And.intro (And.intro @JE2 @KKy) (And.intro @Xrp (And.intro @Yv9 @Qqp))) (And.intro (And.intro @Zc0 @KGB) (And.intro @QkC (And.intro @qLz @z33))))) (And.intro (And.intro (And.intro (And.intro @zkY @qsJ) (And.intro @Q60 (And.intro @XeH @Xkm))) (And.intro (And.intro @Yl8 @Y3h) (And.intro @YbN (And.intro @qs5 @Ja2)))) (And.intro (And.intro (And.intro @KKF @qku) (And.intro @and_self (And.intro @false_and @and_false))) (And.intro (And.intro @or_true @true_or) (And.intro @false_or (And.intro @or_false @z9l))))))))
end Go.Proofs.YtebcngelgdpbjaaGreat
end
section
namespace Go.Proofs.YtebcngelgdpbjaaGreat
set_option maxRecDepth 100000
set_option maxHeartbeats 4000000
def JE8 : List AV → List AB → Option (AV × List AB)
 | [.i .i64 a, .i .i64 b], h => if (-9223372036854775808 ≤ a ∧ a ≤ 9223372036854775807) ∧ 0 < b ∧ b ≤ 1000000 then some (.i .i64 (a % b), h) else none
 | _, _ => none
theorem KMS : Spec Tryz.prog 38 JE8 := by
 intro args h v h' e
 unfold JE8 at e
 split at e
 ·rename_i a b
  split at e
  ·rename_i hc
   obtain ⟨ha, hb, hb2⟩ := hc
   cases e
   refine FnAt.c (FnAt.run (by kernel_rfl) (T := ⟨[], []⟩) ⟨trivial, trivial⟩ Tryz.func38 sw38 fun ho hh => ?_)
   unfold w38
   have h0' : (b ≤ 0) = False := eq_false (by omega)
   have e1 : binV .rem (.i .i64 a) (.i .i64 b) = some (.i .i64 (a.tmod b)) := by
    show (if b = 0 then none else some (AV.i .i64 (a.tmod b))) = _
    rw [if_neg (by omega)]
   have t1 : -b < a.tmod b ∧ a.tmod b < b := ⟨Int.lt_tmod_of_pos a (by omega), Int.tmod_lt_of_pos a (by omega)⟩
   have em : a % b = a.tmod b % b := by
    have h1 := Int.mul_tdiv_add_tmod a b
    conv => lhs; rw [← h1]
    exact Int.mul_add_emod_self_left b _ _
   by_cases hn : a.tmod b < 0
   ·have e2 : IntKind.i64.wrap (a.tmod b + b) = a.tmod b + b := ZWm (by unfold In64; omega)
    have e3 : a % b = a.tmod b + b := by rw [em, ← Int.add_emod_right, Int.emod_eq_of_lt (by omega) (by omega)]
    have hn' := eq_true hn
    simp only [QhU, YqB, z16, KHD, Xq6, simprocAttr, CO.tmps, Opd.tmps, optT, Nat.reducePow, Nat.reduceDiv, Nat.reduceMod, h0', e1, e2, hn', e3, decide_true, decide_false, ne_eq, not_false_eq_true, not_true_eq_false, false_implies, forall_const, and_true, true_and]
    exact Bt.drop _ hh rfl rfl
   ·have e3 : a % b = a.tmod b := by rw [em, Int.emod_eq_of_lt (by omega) (by omega)]
    have hn' := eq_false hn
    simp only [QhU, YqB, z16, KHD, Xq6, simprocAttr, CO.tmps, Opd.tmps, optT, Nat.reducePow, Nat.reduceDiv, Nat.reduceMod, h0', e1, hn', e3, decide_true, decide_false, ne_eq, not_false_eq_true, not_true_eq_false, false_implies, forall_const, and_true, true_and]
    exact Bt.drop _ hh rfl rfl
  ·cases e
 ·cases e
end Go.Proofs.YtebcngelgdpbjaaGreat
end
section
namespace Go.Proofs.YtebcngelgdpbjaaGreat
set_option maxRecDepth 100000
structure KeyR (α : Type) where
 ag : Bool
 ks : List CK
 f : α → AV
 dec : DecidableEq α
 eq : ∀ a b, YnD ag ks (f a) (f b) = some (decide (a = b))
section
variable {α : Type} (r : KeyR α)
def kvF : List (α × AV) → List AV
 | [] => []
 | e :: l => r.f e.1 :: e.2 :: kvF l
theorem qIq : ∀ l : List (α × AV), (kvF r l).length = 2 * l.length
 | [] => rfl
 | e :: l => by
  have := qIq l
  simp only [kvF, List.length_cons, this]
  omega
theorem qVj : ∀ l l' : List (α × AV), kvF r (l ++ l') = kvF r l ++ kvF r l'
 | [], _ => rfl
 | e :: l, l' => by simp only [List.cons_append, kvF, qVj l l']
def mpB (m : Bool) (l : List (α × AV)) : AB := .mo m (.map (List.range l.length) l.length) (kvF r l)
def fndM (d : α) : List (α × AV) → Nat → Option (Nat × AV)
 | [], _ => none
 | e :: l, i => letI := r.dec; if d = e.1 then some (i, e.2) else fndM d l (i + 1)
theorem z5x (d : α) : ∀ (l : List (α × AV)) (i : Nat), qWS r.ag r.ks (r.f d) (kvF r l) i = some (fndM r d l i)
 | [], i => rfl
 | e :: l, i => by
  letI := r.dec
  show (YnD r.ag r.ks (r.f d) (r.f e.1)).bind _ = _
  rw [r.eq, Option.bind_some]
  by_cases h : d = e.1
  ·rw [fndM, if_pos h, if_pos (by simpa using h)]
  ·rw [fndM, if_neg h, if_neg (by simpa using h)]
   exact z5x d l (i + 1)
theorem XzS (m : Bool) (l : List (α × AV)) : mapB (some (mpB r m l)) = some (List.range l.length, l.length, kvF r l) := by
 unfold mpB mapB
 simp only [qIq, List.length_range, if_true]
theorem Q92 (l : List (α × AV)) : mapW (some (mpB r true l)) = some (List.range l.length, l.length, kvF r l) := by
 unfold mpB mapW
 simp only [qIq, List.length_range, if_true]
def putM (l : List (α × AV)) (d : α) (v : AV) : List (α × AV) := match fndM r d l 0 with
 | some (i, _) => l.set i (d, v)
 | none => l ++ [(d, v)]
theorem Jp7 {d : α} {v : AV} : ∀ {l : List (α × AV)} {i j : Nat}, fndM r d l i = some (j, v) → i ≤ j ∧ l[j - i]? = some (d, v)
 | [], i, j, h => by cases h
 | e :: l, i, j, h => by
  letI := r.dec
  rw [fndM] at h
  split at h
  ·rename_i hd
   cases h
   exact ⟨Nat.le_refl _, by rw [Nat.sub_self, hd]; rfl⟩
  ·obtain ⟨h1, h2⟩ := Jp7 h
   exact ⟨by omega, by rw [show j - i = (j - (i + 1)) + 1 by omega]; exact h2⟩
theorem zr4 {d : α} : ∀ {l : List (α × AV)} {i : Nat}, fndM r d l i = none ↔ ∀ e ∈ l, e.1 ≠ d
 | [], i => ⟨fun _ e h => by simp at h, fun _ => rfl⟩
 | e :: l, i => by
  letI := r.dec
  rw [fndM]
  split
  ·rename_i hd
   exact ⟨fun h => (by cases h), fun h => absurd hd.symm (h e (List.mem_cons_self ..))⟩
  ·rename_i hd
   rw [zr4]
   exact ⟨fun h x hx => by rcases List.mem_cons.1 hx with rfl | hx; exact fun z => hd z.symm; exact h x hx, fun h x hx => h x (List.mem_cons_of_mem _ hx)⟩
theorem QRR (d : α) (v : AV) : ∀ (l : List (α × AV)) (i : Nat), (l[i]?).map (·.1) = some d → kvF r (l.set i (d, v)) = (kvF r l).set (2 * i + 1) v
 | [], i, h => by cases h
 | e :: l, 0, h => by
  obtain rfl : e.1 = d := Option.some.inj h
  rfl
 | e :: l, i + 1, h => by
  have := QRR d v l i h
  rw [show 2 * (i + 1) + 1 = (2 * i + 1) + 2 by omega]
  simp only [List.set_cons_succ, kvF, this]
theorem Y4k (l : List (α × AV)) (d : α) (v : AV) : muB (List.range l.length) l.length (kvF r l) (r.f d) v (fndM r d l 0) = mpB r true (putM r l d v) := by
 unfold putM
 cases h : fndM r d l 0 with
 | none =>
  dsimp only
  unfold muB mpB
  rw [List.length_append, List.length_singleton, qVj, ← List.range_succ]
  rfl
 | some p =>
  obtain ⟨i, u⟩ := p
  dsimp only
  have h2 := (Jp7 r h).2
  rw [Nat.sub_zero] at h2
  unfold muB mpB
  dsimp only
  rw [List.length_set, QRR r d v l i (by rw [h2]; rfl)]
variable {T : Env} {fr : List AV} {h : List AB}
theorem q41 : opR T .mkm fr h = some (.m h.length, h ++ [.mo true (.map [] 0) []]) := _root_.id rfl
theorem qlG (ag ks ok z) (x k : Opd) : opR T (.lkp ag ks ok z x k) fr h = (lkV h ag ks ok z (x.ev fr) (k.ev fr)).map (·, h) := _root_.id rfl
theorem KhU (ag ks) (x k v : Opd) : opR T (.mup ag ks x k v) fr h = (muV h ag ks (x.ev fr) (k.ev fr) (v.ev fr)).map (.tu [], ·) := _root_.id rfl
theorem zWs (x : Opd) : opR T (.mrg x) fr h = rgV h (x.ev fr) := _root_.id rfl
theorem Qcs (x : Opd) : opR T (.ent x) fr h = (entV h (x.ev fr)).map (·, h) := _root_.id rfl
theorem JMn {id : Nat} {m : Bool} {l : List (α × AV)} (hi : h[id]? = some (mpB r m l)) (ok : Bool) (z : AV) (d : α) : lkV h r.ag r.ks ok z (.m id) (r.f d) = some (lkR ok z (fndM r d l 0)) := by
 unfold lkV KfE
 rw [r.eq, Option.bind_some]
 dsimp only
 rw [hi, XzS, Option.bind_some]
 dsimp only
 rw [z5x]
 rfl
theorem YOF {id : Nat} {l : List (α × AV)} (hi : h[id]? = some (mpB r true l)) (d : α) (v : AV) : muV h r.ag r.ks (.m id) (r.f d) v = some (h.set id (mpB r true (putM r l d v))) := by
 unfold muV
 dsimp only
 rw [r.eq, Option.bind_some, hi, Q92, Option.bind_some]
 dsimp only
 rw [z5x, Option.map_some, Y4k]
theorem Ygz {id : Nat} {m : Bool} {l : List (α × AV)} (hi : h[id]? = some (mpB r m l)) : rgV h (.m id) = some (.p h.length 0, h ++ [.mo true (.it l.length [] l.length) [.m id]]) := by
 unfold rgV
 dsimp only
 rw [hi, XzS]
 rfl
def itM (n : Nat) (seen : List Nat) (mid : Nat) : AB := .mo true (.it n seen n) [.m mid]
theorem J1R : ∀ (l : List (α × AV)) (k : Nat), qLR (List.range' k l.length) (kvF r l) = (l.zipIdx k).map fun e => (e.2, r.f e.1.1, e.1.2)
 | [], _ => rfl
 | e :: l, k => by
  rw [List.length_cons, List.range'_succ, kvF, qLR, J1R l (k + 1), List.zipIdx_cons]
  rfl
theorem Xd2 {l : List (α × AV)} {e : Nat × AV × AV} (he : e ∈ qLR (List.range l.length) (kvF r l)) : ∃ (hi : e.1 < l.length), e.2 = (r.f (l[e.1]).1, (l[e.1]).2) := by
 rw [List.range_eq_range', J1R] at he
 obtain ⟨⟨x, i⟩, hx, rfl⟩ := List.mem_map.1 he
 have := List.mem_zipIdx_iff_getElem?.1 hx
 obtain ⟨hi, h2⟩ := List.getElem?_eq_some_iff.1 this
 exact ⟨hi, by dsimp only; rw [h2]⟩
theorem ZeU {l : List (α × AV)} {i : Nat} (hi : i < l.length) : (i, r.f (l[i]).1, (l[i]).2) ∈ qLR (List.range l.length) (kvF r l) := by
 rw [List.range_eq_range', J1R]
 exact List.mem_map.2 ⟨(l[i], i), List.mem_zipIdx_iff_getElem?.2 (List.getElem?_eq_getElem hi), rfl⟩
theorem zoI {k mid : Nat} {m : Bool} {seen : List Nat} {l : List (α × AV)} (hk : h[k]? = some (itM l.length seen mid)) (hm : h[mid]? = some (mpB r m l)) :
  ∃ cands, mnxC h (.p k 0) = some cands ∧ ∀ c ∈ cands, ((∀ i < l.length, i ∈ seen) ∧ c = (.tu [.b false], h)) ∨ ∃ (i : Nat) (hi : i < l.length), i ∉ seen ∧ c = (.tu [.b true, r.f (l[i]).1, (l[i]).2], h.set k (itM l.length (seen ++ [i]) mid)) := by
 refine ⟨Zvb k l.length seen l.length (.m mid) h (JCJ seen (qLR (List.range l.length) (kvF r l))), ?_, fun c hc => ?_⟩
 ·simp only [mnxC, hk, itM, hm, XzS, Option.bind_some]
  rw [if_pos ⟨List.all_eq_true.2 fun b hb => decide_eq_true (List.mem_range.1 hb), Nat.le_refl _⟩]
 ·generalize hL : JCJ seen (qLR (List.range l.length) (kvF r l)) = L at hc
  cases L with
  | nil =>
   rw [Zvb] at hc
   refine .inl ⟨fun i hi => ?_, List.mem_singleton.1 hc⟩
   by_cases hs : i ∈ seen
   ·exact hs
   ·have : (i, r.f (l[i]).1, (l[i]).2) ∈ JCJ seen (qLR (List.range l.length) (kvF r l)) := List.mem_filter.2 ⟨ZeU r hi, by simpa using hs⟩
    rw [hL] at this
    cases this
  | cons e0 L0 =>
   rw [Zvb] at hc
   obtain ⟨e, he, rfl⟩ := List.mem_map.1 hc
   rw [← hL] at he
   obtain ⟨he1, he2⟩ := List.mem_filter.1 he
   obtain ⟨hi, h2⟩ := Xd2 r he1
   refine .inr ⟨e.1, hi, by simpa using he2, ?_⟩
   rw [h2]
   rfl
theorem X2J {k mid : Nat} {m : Bool} {seen : List Nat} {l : List (α × AV)} {i : Nat} (hi : i < l.length) (hk : h[k]? = some (itM l.length (seen ++ [i]) mid)) (hm : h[mid]? = some (mpB r m l)) : entV h (.p k 0) = some (.tu [r.f (l[i]).1, (l[i]).2]) := by
 simp only [entV, hk, itM, hm, XzS, Option.bind_some]
 rw [if_pos trivial, List.getLast?_append, List.getLast?_singleton]
 simp only [Option.some_or, Option.bind_some]
 have : (qLR (List.range l.length) (kvF r l)).find? (fun e => e.1 == i) = some (i, r.f (l[i]).1, (l[i]).2) := by
  rw [List.range_eq_range', J1R, List.find?_map]
  have : (l.zipIdx 0).find? ((fun e : Nat × AV × AV => e.1 == i) ∘ fun e : (α × AV) × Nat => (e.2, r.f e.1.1, e.1.2)) = some (l[i], i) := by
   rw [List.find?_eq_some_iff_getElem]
   refine ⟨by simp, i, by simpa using hi, by simp, fun j hj => ?_⟩
   simp
   omega
  rw [this]
  rfl
 rw [this]
 rfl
end
theorem FnAtS.run {P : Program} (hm : P.follows .mixedOrders = true) {T : Env} (hT : T.Ok P) {g : Nat} {fn : Func} {cf : CF} (hf : P.funcs[g]? = some fn) (hc : KVl P fn = some cf) {args : List AV} {h : List AB} {X : AV → List AB → Prop}
  (w : okL (fun i => decide (i < h.length)) args = true → HOk h → W ⟨P, T, false, h.length, FinS P h.length cf.res X⟩ [.code cf.body] (args ++ List.replicate (cf.ntmps - args.length) (.tu [])) (h ++ [])) : FnAtS P g args h X := by
 refine FnAtS.fin (YZU hm hT) hf hc fun h1 h2 => ?_
 have := w h1 h2
 rw [List.append_nil] at this
 exact this
theorem zMi {P : Program} {p : Nat} {res : List RC} {X : AV → List AB → Prop} {fr : List AV} {h : List AB} : FinS P p res X .r fr h = ∃ v a h', resV fr h res = some v ∧ Bt P p [v] h [a] h' ∧ X a h' := _root_.id rfl
theorem zOX {P : Program} {p : Nat} {res : List RC} {X : AV → List AB → Prop} {fr : List AV} {h : List AB} : FinS P p res X .n fr h = ∃ v a h', resV fr h res = some v ∧ Bt P p [v] h [a] h' ∧ X a h' := _root_.id rfl
end Go.Proofs.YtebcngelgdpbjaaGreat
end
section
namespace Go.Proofs.YtebcngelgdpbjaaGreat
section
variable {h : List AB} {p : Nat}
def oB (h : List AB) (id : Nat) (B0 : AB) : List AB := h.set id (B0)
theorem ZxG (id : Nat) (B0 : AB) : (oB h id B0).length = h.length := List.length_set
theorem K6A {id : Nat} (hid : id < h.length) (B0 : AB) (x : List AB) : (oB h id B0 ++ x)[id]? = some B0 := by
 rw [List.getElem?_append_left (by rw [ZxG]; exact hid)]
 unfold oB
 rw [List.getElem?_set_self hid]
theorem Y1G {id : Nat} {B0 : AB} (hb : h[id]? = some B0) : oB h id B0 = h := by
 unfold oB
 refine List.ext_getElem? fun i => ?_
 rw [List.getElem?_set]
 split
 ·rename_i e
  subst e
  first | rw [if_pos (List.getElem?_eq_some_iff.1 hb).1, hb] | rw [hb]
 ·rfl
theorem zhj (hp : h.length = p) {id : Nat} (hid : id < h.length) (B0 : AB) (c anc n : Nat) (past : List Pt) (l : List AB) (hn : n = p + l.length) : XWo (seen (p + c) anc past n) [id] 0 (oB h id B0 ++ l) = oB (h.map AB.freeze) id B0 ++ mskL p c anc past [id] 0 l := by
 subst hp
 refine List.ext_getElem? fun i => ?_
 rw [Qbl, Nat.zero_add]
 by_cases hi : i < h.length
 ·rw [List.getElem?_append_left (by rw [ZxG]; exact hi), List.getElem?_append_left (by rw [ZxG, List.length_map]; exact hi)]
  unfold oB
  by_cases e : i = id
  ·subst e
   rw [List.getElem?_set_self hi, List.getElem?_set_self (by rw [List.length_map]; exact hi), Option.map_some, if_pos (List.mem_singleton.2 rfl)]
  ·rw [List.getElem?_set_ne (Ne.symm e), List.getElem?_set_ne (Ne.symm e), List.getElem?_map, List.getElem?_eq_getElem hi, Option.map_some, Option.map_some, if_neg (by simpa using e), if_pos]
   exact List.mem_filter.2 ⟨List.mem_range.2 (by omega), YO3 (by omega)⟩
 ·have hne : i ≠ id := by omega
  have g1 : (oB h id B0 ++ l)[i]? = l[i - h.length]? := by rw [List.getElem?_append_right (by rw [ZxG]; omega), ZxG]
  have g2 : (oB (h.map AB.freeze) id B0 ++ mskL h.length c anc past [id] 0 l)[i]? = (mskL h.length c anc past [id] 0 l)[i - h.length]? := by rw [List.getElem?_append_right (by rw [ZxG, List.length_map]; omega), ZxG, List.length_map]
  rw [g1, g2, Q69]
  cases hB : l[i - h.length]? with
  | none => rfl
  | some B =>
   have hlt := (List.getElem?_eq_some_iff.1 hB).1
   simp only [Option.map_some, Option.some.injEq, show h.length + (0 + (i - h.length)) = i by omega]
   rw [if_neg (by simpa using hne), if_neg (show ¬ memN i [id] = true by rw [Zsq]; simpa using hne)]
   by_cases hq : qOk (h.length + c) 0 0 anc past i = true
   ·rw [if_pos hq, if_pos]
    exact List.mem_filter.2 ⟨List.mem_range.2 (by omega), hq⟩
   ·rw [if_neg hq, if_neg]
    exact fun q => hq (List.mem_filter.1 q).2
theorem QGw {id : Nat} (hid : id < h.length) (B0 B1 : AB) (G l : List AB) : ZWL [id] (oB (h.map AB.freeze) id B1 ++ G) 0 (oB h id B0 ++ l) = oB h id B1 ++ mrgL h.length [id] 0 G l := by
 refine List.ext_getElem? fun i => ?_
 rw [JEo, Nat.zero_add]
 by_cases hi : i < h.length
 ·have g1 : (oB h id B0 ++ l)[i]? = (oB h id B0)[i]? := List.getElem?_append_left (by rw [ZxG]; exact hi)
  have g2 : (oB (h.map AB.freeze) id B1 ++ G)[i]? = (oB (h.map AB.freeze) id B1)[i]? := List.getElem?_append_left (by rw [ZxG, List.length_map]; exact hi)
  have g3 : (oB h id B1 ++ mrgL h.length [id] 0 G l)[i]? = (oB h id B1)[i]? := List.getElem?_append_left (by rw [ZxG]; exact hi)
  rw [if_pos (by rw [List.length_append, ZxG]; omega), g1, g2, g3]
  unfold oB
  by_cases e : i = id
  ·subst e
   rw [if_pos (List.mem_singleton.2 rfl), List.getElem?_set_self (by rw [List.length_map]; exact hi), List.getElem?_set_self hi]
   rfl
  ·rw [if_neg (by simpa using e), List.getElem?_set_ne (Ne.symm e), List.getElem?_set_ne (Ne.symm e)]
 ·have hne : i ≠ id := by omega
  have g1 : (oB h id B0 ++ l)[i]? = l[i - h.length]? := by rw [List.getElem?_append_right (by rw [ZxG]; omega), ZxG]
  have g2 : (oB (h.map AB.freeze) id B1 ++ G)[i]? = G[i - h.length]? := by rw [List.getElem?_append_right (by rw [ZxG, List.length_map]; omega), ZxG, List.length_map]
  have g3 : (oB h id B1 ++ mrgL h.length [id] 0 G l)[i]? = (mrgL h.length [id] 0 G l)[i - h.length]? := by rw [List.getElem?_append_right (by rw [ZxG]; omega), ZxG]
  rw [g1, g2, g3, qEn, List.length_append, ZxG]
  by_cases hl : i - h.length < l.length
  ·rw [if_pos hl, if_pos (by omega), if_neg (by simpa using hne), if_neg (show ¬ h.length + (0 + (i - h.length)) ∈ [id] by rw [List.mem_singleton]; omega)]
  ·rw [if_neg hl, if_neg (by omega)]
theorem XgJ {id : Nat} (hid : id < h.length) (B0 : AB) (G : List AB) : (oB h id B0 ++ G).getD id .dead = B0 := by
 rw [List.getD_eq_getElem?_getD, K6A hid]
 rfl
theorem Z3V (id : Nat) (B0 : AB) (l : List AB) : (oB h id B0 ++ l).length = h.length + l.length := by rw [List.length_append, ZxG]
theorem ZlO (id : Nat) (B0 : AB) (l : List AB) (n : Nat) : (oB h id B0 ++ l).drop (h.length + n) = l.drop n := JYq (ZxG id B0) l n
theorem zMZ {id : Nat} (hid : id < h.length) (hh : HOk h) (B0 : AB) (x : List AB) : HOk (oB h id B0 ++ x) = ((B0.ok (fun i => decide (i < h.length + x.length)) && x.all fun B => B.ok (fun i => decide (i < h.length + x.length))) = true) := by
 refine propext ⟨fun q => ?_, fun q i B hB => ?_⟩
 ·rw [Bool.and_eq_true]
  refine ⟨?_, List.all_eq_true.2 fun B hB => ?_⟩
  ·have := q id _ (K6A hid B0 x)
   rw [Z3V] at this
   exact this
  ·obtain ⟨j, hj, rfl⟩ := List.getElem_of_mem hB
   have := q (h.length + j) x[j] (by rw [List.getElem?_append_right (by rw [ZxG]; omega), ZxG, Nat.add_sub_cancel_left, List.getElem?_eq_getElem hj])
   rw [Z3V] at this
   exact this
 ·rw [Z3V]
  rw [Bool.and_eq_true] at q
  obtain ⟨q1, q2⟩ := q
  by_cases hi : i < h.length
  ·rw [List.getElem?_append_left (by rw [ZxG]; exact hi)] at hB
   unfold oB at hB
   rw [List.getElem?_set] at hB
   split at hB
   ·rename_i e
    subst e
    first | rw [if_pos hid] at hB | skip
    cases hB
    exact q1
   ·exact AB.ok_mono (fun i hi => by simp only [decide_eq_true_eq] at hi ⊢; omega) B (hh i B hB)
  ·rw [List.getElem?_append_right (by rw [ZxG]; omega), ZxG] at hB
   exact List.all_eq_true.1 q2 B (List.mem_of_getElem? hB)
theorem ZrG {id k : Nat} (hk : k < h.length) (hne : k ≠ id) (B0 : AB) (x : List AB) : (oB h id B0 ++ x)[k]? = h[k]? := by
 rw [List.getElem?_append_left (by rw [ZxG]; exact hk)]
 unfold oB
 rw [List.getElem?_set_ne (Ne.symm hne)]
theorem Xqv {id : Nat} (hid : id < h.length) (B0 B1 : AB) (x : List AB) : (oB h id B0 ++ x).set id B1 = oB h id B1 ++ x := by
 rw [List.set_append_left _ _ (by rw [ZxG]; exact hid)]
 unfold oB
 rw [List.set_set]
theorem ZJG {id k : Nat} {xs : List AV} (hk : ZMh h k = some xs) (hne : k ≠ id) (B0 : AB) (x : List AB) (n : Option Nat) (o : Nat) : ldV (oB h id B0 ++ x) n (.p k o) = ldV h n (.p k o) := by
 have hlt := Kvu hk
 have : ZMh (oB h id B0 ++ x) k = ZMh h k := by
  unfold ZMh
  rw [ZrG hlt hne]
 cases n <;> simp only [ldV, this]
theorem QnU {α : Type} (r : KeyR α) (m : Bool) (l : List (α × AV)) : (mpB r m l).freeze = mpB r false l := _root_.id rfl
theorem KBJ {α : Type} (r : KeyR α) {id : Nat} (hid : id < h.length) (l : List (α × AV)) (x : List AB) (d : α) (v : AV) : muV (oB h id (mpB r true l) ++ x) r.ag r.ks (.m id) (r.f d) v = some (oB h id (mpB r true (putM r l d v)) ++ x) := by rw [YOF r (K6A hid _ x), Xqv hid]
theorem Kss {id : Nat} (hh : HOk h) {B0 : AB} (hB : ∀ q, B0.ok q = true) : HOk (oB h id B0) := fun i C hC => by
 rw [ZxG]
 unfold oB at hC
 rw [List.getElem?_set] at hC
 split at hC
 ·split at hC
  ·cases hC; exact hB _
  ·cases hC
 ·exact hh i C hC
theorem Bt.selO {P : Program} {id : Nat} {B0 : AB} {l l' : List AB} {fr fr' : List AV} (sel : List Nat) (hh : HOk h) (hB : ∀ q, B0.ok q = true) (hnd : sel.Nodup) (hb : BlkSel h.length sel sel.length l sel l') (hfr : FrSel h.length sel sel.length fr fr') : Bt P h.length fr (oB h id B0 ++ l) fr' (oB h id B0 ++ l') := by
 have := Bt.sel (P := P) (h := oB h id B0) (l := l) (l' := l') (fr := fr) (fr' := fr') sel (Kss hh hB) hnd (by rw [ZxG]; exact hb) (by rw [ZxG]; exact hfr)
 rwa [ZxG] at this
theorem zMD (id : Nat) (B0 : AB) : (oB h id B0).map AB.freeze = oB (h.map AB.freeze) id B0.freeze := by unfold oB; rw [List.map_set]
end
end Go.Proofs.YtebcngelgdpbjaaGreat
end
section
namespace Go.Proofs.YtebcngelgdpbjaaGreat
def Qgj := (And.intro (And.intro (And.intro @YBY @qsv) (And.intro @ZJ9 (And.intro @JXo @qLl))) (And.intro (And.intro @zCZ (And.intro @XAP @JFz)) (And.intro @JYq (And.intro @q21 @X01))))
end Go.Proofs.YtebcngelgdpbjaaGreat
end
section
namespace Go.Proofs.YtebcngelgdpbjaaGreat
set_option maxRecDepth 100000
abbrev Dots := List (Int × Int)
end Go.Proofs.YtebcngelgdpbjaaGreat
end
section
namespace Go.Proofs.YtebcngelgdpbjaaGreat
set_option maxRecDepth 100000
def vAt (xs : List Int) (r : Int) : Int := if r < 1 then 0 else if (xs.length : Int) < r then 0 else max (xs.getD (r - 1).toNat 0) 0
noncomputable def T_At : List AV → List AB → Option (AV × List AB)
 | [s, .i .i64 r], h => (getS intR h s).bind fun xs => some (.i .i64 (vAt xs r), h)
 | _, _ => none
theorem QFS : Spec Tryz.prog 93 T_At := by
 intro args h v h' e
 unfold T_At at e
 split at e
 ·rename_i s r
  obtain ⟨xs, hs, e⟩ := zZy e
  cases e
  refine FnAt.c ?_
  refine FnAt.run (by kernel_rfl) (T := ⟨[], []⟩) ⟨trivial, trivial⟩ Tryz.func93 sw93 fun ha hh => ?_
  simp only [XDA, Bool.and_eq_true] at ha
  have f := hs.fx ha.1 (sz := 1) rfl
  unfold w93
  simp only [QhU, YqB, z16, Xq6, simprocAttr, f]
  refine ⟨fun h1 => Bt.eq (by simp [vAt, h1]) (by simp), fun h1 => ⟨fun h2 => Bt.eq (by simp [vAt, h1, h2]) (by simp), fun h2 => ?_⟩⟩
  have e1 : IntKind.i64.wrap (r - 1) = r - 1 := ZWm (by have := hs.2; unfold maxLen at this; unfold In64; omega)
  have h3 : (r - 1).toNat < xs.length := by omega
  have h4 : (0 ≤ r - 1 ∧ r - 1 < (xs.length : Int)) = True := eq_true (by omega)
  simp only [z16, Xq6, simprocAttr, f, e1, h3, h4, Zr0, Nat.zero_lt_one]
  exact Bt.eq (by simp [vAt, h1, h2, intR]) (by simp)
 ·cases e
end Go.Proofs.YtebcngelgdpbjaaGreat
end
section
namespace Go.Proofs.YtebcngelgdpbjaaGreat
set_option maxRecDepth 100000
def Jis : List AV → List AB → Option (AV × List AB)
 | [.i .i64 _], h => some (.b false, h)
 | _, _ => none
theorem qP4 : Spec Tryz.prog 200 Jis := by
 intro args h v h' e
 unfold Jis at e
 split at e
 ·cases e
  refine FnAt.c (FnAt.run (by kernel_rfl) (T := ⟨[], []⟩) ⟨trivial, trivial⟩ Tryz.func200 X72 fun ho hh => ?_)
  unfold w200
  simp only [QhU, YqB, z16, Xq6, simprocAttr]
  exact Bt.eq rfl (List.append_nil h)
 ·cases e
def cmpI (a b : Int) : Int := if a < b then -1 else if b < a then 1 else 0
def ZG9 : List AV → List AB → Option (AV × List AB)
 | [.i .i64 a, .i .i64 b], h => some (.i .i64 (cmpI a b), h)
 | _, _ => none
theorem X4L : Spec Tryz.prog 149 ZG9 := by
 intro args h v h' e
 unfold ZG9 at e
 split at e
 ·rename_i a b
  cases e
  refine FnAt.c (FnAt.run (by kernel_rfl) (T := ⟨[⟨200, Jis, fun _ => []⟩], []⟩) ⟨⟨qP4, trivial⟩, trivial⟩ Tryz.func149 X0Z fun ho hh => ?_)
  unfold w149
  simp only [QhU, YqB, z16, Xq6, simprocAttr, Jis]
  refine ⟨fun h1 => Bt.eq (by simp [cmpI, h1]) (List.append_nil h), fun h1 => ⟨fun h2 => Bt.eq (by simp [cmpI, h1, h2]) (List.append_nil h), fun h2 => Bt.eq (by simp [cmpI, h1, h2]) (List.append_nil h)⟩⟩
 ·cases e
def orI : List Int → Int
 | [] => 0
 | a :: l => if a = 0 then orI l else a
theorem KQR {l : List Int} {i : Nat} (hi : i < l.length) : orI (l.drop i) = if l.getD i intR.d = 0 then orI (l.drop (i + 1)) else l.getD i intR.d := by
 rw [List.drop_eq_getElem_cons hi, List.getD_eq_getElem?_getD, List.getElem?_eq_getElem hi]
 rfl
noncomputable def T_Or : List AV → List AB → Option (AV × List AB)
 | [s], h => (getS intR h s).bind fun l => some (.i .i64 (orI l), h)
 | _, _ => none
theorem Jm5 : Spec Tryz.prog 58 T_Or := by
 intro args h v h' e
 unfold T_Or at e
 split at e
 ·rename_i s
  obtain ⟨l, hs, e⟩ := zZy e
  cases e
  refine FnAt.c (FnAt.run (by kernel_rfl) (T := ⟨[], []⟩) ⟨trivial, trivial⟩ Tryz.func58 sw58 fun ho hh => ?_)
  simp only [XDA, Bool.and_eq_true] at ho
  have f1 := hs.fx ho.1 (sz := 1) rfl
  unfold w58
  simp only [QhU, YqB, z16, Xq6, simprocAttr, f1]
  refine zXM (S := Nat) (fun i => l.length - i) (fun i => tp 3 ++ [.i .i64 0] ++ tp 2 ++ [s, .i .i64 l.length, .i .i64 i] ++ tp 9) (fun i => i ≤ l.length ∧ orI l = orI (l.drop i)) 0 ⟨Nat.zero_le _, rfl⟩ (by simp only [z16, Xq6, simprocAttr]) fun i hi => ?_
  simp only [z16, Xq6, simprocAttr, f1]
  refine ⟨fun h2 => ?_, fun h2 => ?_⟩
  ·have e1 : IntKind.i64.wrap ((i : Int) + 1) = ((i + 1 : Nat) : Int) := ZWm (by have := hs.2; unfold maxLen at this; unfold In64; omega)
   have e2 := KQR h2
   simp only [z16, Xq6, simprocAttr, f1, h2, Zr0, Nat.zero_lt_one, e1]
   refine ⟨fun h3 => Bt.eq (by rw [hi.2, e2, if_neg h3]) (List.append_nil h), fun h3 => ⟨i + 1, ⟨h2, ?_⟩, by omega, Wk.refl _⟩⟩
   rw [hi.2, e2, if_pos (Decidable.not_not.1 h3)]
  ·exact Bt.eq (by rw [hi.2, List.drop_eq_nil_of_le (by omega)]; rfl) (List.append_nil h)
 ·cases e
def cmpD (a b : Int × Int) : Int := if cmpI a.1 b.1 = 0 then cmpI a.2 b.2 else cmpI a.1 b.1
def Jmy : List AV → List AB → Option (AV × List AB)
 | [.ag [.i .i64 a, .i .i64 b], .ag [.i .i64 c, .i .i64 d]], h => some (.i .i64 (cmpD (a, b) (c, d)), h)
 | _, _ => none
end Go.Proofs.YtebcngelgdpbjaaGreat
end
section
namespace Go.Proofs.YtebcngelgdpbjaaGreat
set_option maxRecDepth 100000
def JFm {α : Type} (p : α → Prop) [DecidablePred p] : List α → Nat → Int
 | [], _ => -1
 | a :: l, n => if p a then n else JFm p l (n + 1)
def idx {α : Type} (p : α → Prop) [DecidablePred p] (l : List α) : Int := JFm p l 0
theorem KAy {α : Type} (p : α → Prop) [DecidablePred p] (d : α) {l : List α} (i : Nat) (hi : i < l.length) : JFm p (l.drop i) i = if p (l.getD i d) then (i : Int) else JFm p (l.drop (i + 1)) (i + 1) := by
 rw [List.drop_eq_getElem_cons hi, List.getD_eq_getElem?_getD, List.getElem?_eq_getElem hi]
 rfl
theorem JGQ {α : Type} (p : α → Prop) [DecidablePred p] : ∀ (l : List α) (n : Nat), 0 ≤ JFm p l n ↔ ∃ x ∈ l, p x
 | [], n => by simp [JFm]
 | a :: l, n => by
  have := JGQ p l (n + 1)
  unfold JFm
  by_cases h : p a
  ·simp [h]
  ·rw [if_neg h, this]
   simp [h]
theorem zwC {α : Type} (p : α → Prop) [DecidablePred p] (l : List α) : 0 ≤ idx p l ↔ ∃ x ∈ l, p x := JGQ p l 0
theorem YTY {T : Env} (hT : T.Ok Tryz.prog) {f : AV} {p : Int → Prop} [DecidablePred p] (hf : ∀ x H, qQF T f [.i .i64 x] H = some (.b (decide (p x)), H)) {h : List AB} {s : AV} {l : List Int} (hs : Rd intR h s l) : FnC Tryz.prog 194 [s, f] h (.i .i64 (idx p l)) h := by
 refine FnAt.c (FnAt.run (by kernel_rfl) hT Tryz.func194 q5w fun ho hh => ?_)
 simp only [XDA, Bool.and_eq_true] at ho
 have f1 := hs.fx ho.1 (sz := 1) rfl
 unfold w194
 simp only [QhU, YqB, z16, Xq6, simprocAttr, f1]
 refine zXM (S := Nat) (fun i => l.length - i) (fun i => [s, f] ++ tp 5 ++ [.i .i64 l.length, .i .i64 i] ++ tp 10) (fun i => i ≤ l.length ∧ idx p l = JFm p (l.drop i) i) 0 ⟨Nat.zero_le _, rfl⟩ (by simp only [z16, Xq6, simprocAttr]) fun i hi => ?_
 simp only [z16, Xq6, simprocAttr, f1]
 refine ⟨fun h2 => ?_, fun h2 => ?_⟩
 ·have e1 : IntKind.i64.wrap ((i : Int) + 1) = ((i + 1 : Nat) : Int) := ZWm (by have := hs.2; unfold maxLen at this; unfold In64; omega)
  have e2 := KAy p intR.d i h2
  simp only [z16, Xq6, simprocAttr, f1, h2, Zr0, Nat.zero_lt_one, e1, hf]
  refine ⟨fun h3 => Bt.eq (by rw [hi.2, e2, if_pos h3]) (List.append_nil h), fun h3 => ⟨i + 1, ⟨h2, ?_⟩, by omega, Wk.refl _⟩⟩
  rw [hi.2, e2, if_neg h3]
 ·exact Bt.eq (by rw [hi.2, List.drop_eq_nil_of_le (by omega)]; rfl) (List.append_nil h)
open Classical in
noncomputable def YmY (f : AV) (p : Int → Prop) [DecidablePred p] : List AV → List AB → Option (AV × List AB)
 | [s, f'], h => (getS intR h s).bind fun l => if f' = f then some (.i .i64 (idx p l), h) else none
 | _, _ => none
theorem XAy {T : Env} (hT : T.Ok Tryz.prog) {f : AV} {p : Int → Prop} [DecidablePred p] (hf : ∀ x H, qQF T f [.i .i64 x] H = some (.b (decide (p x)), H)) : Spec Tryz.prog 194 (YmY f p) := by
 intro args h v h' e
 unfold YmY at e
 split at e
 ·rename_i s f'
  obtain ⟨l, hs, e2⟩ := zZy e
  by_cases hff : f' = f
  ·rw [if_pos hff] at e2
   cases e2
   rw [hff]
   exact YTY hT hf hs
  ·rw [if_neg hff] at e2
   cases e2
 ·cases e
theorem QIQ {T : Env} (hT : T.Ok Tryz.prog) {f : AV} {p : Int → Prop} [DecidablePred p] (hf : ∀ x H, qQF T f [.i .i64 x] H = some (.b (decide (p x)), H)) {h : List AB} {s : AV} {l : List Int} (hs : Rd intR h s l) : FnC Tryz.prog 128 [s, f] h (.b (decide (∃ x ∈ l, p x))) h := by
 refine FnAt.c (FnAt.run (by kernel_rfl) (T := ⟨[⟨194, YmY f p, fun _ => []⟩], []⟩) ⟨⟨XAy hT hf, trivial⟩, trivial⟩ Tryz.func128 qqU fun ho hh => ?_)
 simp only [XDA, Bool.and_eq_true] at ho
 have f1 := hs.fx ho.1 (sz := 1) rfl
 unfold w128
 simp only [QhU, YqB, z16, Xq6, simprocAttr, f1, YmY]
 exact Bt.eq (by simp only [AV.b.injEq, decide_eq_decide]; exact zwC p l) (List.append_nil h)
end Go.Proofs.YtebcngelgdpbjaaGreat
end
section
namespace Go.Proofs.YtebcngelgdpbjaaGreat
set_option maxRecDepth 100000
def Qd0 : List AV → List AB → Option (AV × List AB)
 | [.i .i64 a, .i .i64 b], h => some (.i .i64 (max a b), h)
 | _, _ => none
theorem YEy : Spec Tryz.prog 96 Qd0 := by
 intro args h v h' e
 unfold Qd0 at e
 split at e
 ·cases e
  refine FnAt.c (FnAt.run (by kernel_rfl) (T := ⟨[], []⟩) ⟨trivial, trivial⟩ Tryz.func96 sw96 fun ho hh => ?_)
  unfold w96
  simp only [QhU, YqB, z16, Xq6, simprocAttr]
  exact Bt.eq rfl (List.append_nil h)
 ·cases e
def fA : CC := (CC.seq (CC.reg 2 [{ dst := some 7, guard := none, op := CO.mv (Opd.t 10) }]) (CC.reg 3 [{ dst := some 8, guard := none, op := CO.mv (Opd.t 11) }]))
def fB : CC := (CC.block 1 (CC.reg 4 [{ dst := some 12, guard := none, op := CO.ld none (Opd.t 5) }, { dst := some 13, guard := none, op := CO.ld none (Opd.t 4) }, { dst := some 14, guard := none, op := CO.mv (Opd.t 7) }, { dst := some 15, guard := none, op := CO.mv (Opd.t 8) }, { dst := some 16, guard := none, op := CO.call (Opd.t 12) [Opd.t 13, Opd.t 14, Opd.t 15] }, { dst := none, guard := none, op := CO.st none (Opd.t 4) (Opd.t 16) }]))
def QFo : List AV → List AB → Option (AV × List AB)
 | [a, b], h => if a.isSl = true ∧ b.isSl = true then some (.f (.func 195) [] [.p (h.length + 0) 0, .p (h.length + 1) 0], h ++ [.blk false true [a], .blk false true [b]]) else none
 | _, _ => none
theorem qPp : Spec Tryz.prog 130 QFo := by
 intro args h v h' e
 unfold QFo at e
 split at e
 ·rename_i a b
  split at e
  ·rename_i hs
   cases e
   refine FnAt.c (FnAt.run (by kernel_rfl) (T := ⟨[], []⟩) ⟨trivial, trivial⟩ Tryz.func130 qq4 fun ho hh => ?_)
   unfold w130
   simp only [QhU, YqB, z16, Xq6, simprocAttr, Xm6 hs.1, Xm6 hs.2, Zl7 hs.1, Zl7 hs.2]
   exact Bt.eq rfl rfl
  ·cases e
 ·cases e
end Go.Proofs.YtebcngelgdpbjaaGreat
end
section
namespace Go.Proofs.YtebcngelgdpbjaaGreat
set_option maxRecDepth 100000
set_option maxHeartbeats 4000000
def wI (a b : Int) : Int := a + min b (4611686018427387904 - a)
def Jsh : List AV → List AB → Option (AV × List AB)
 | [.i .i64 a, .i .i64 b, _], h => if 0 ≤ a ∧ a ≤ 4611686018427387904 ∧ 0 ≤ b then some (.i .i64 (wI a b), h) else none
 | _, _ => none
theorem zko : Spec Tryz.prog 202 Jsh := by
 intro args h v h' e
 unfold Jsh at e
 split at e
 ·rename_i a b x
  split at e
  ·rename_i hc
   cases e
   refine FnAt.c (FnAt.run (by kernel_rfl) (T := ⟨[], []⟩) ⟨trivial, trivial⟩ Tryz.func202 JfB fun ho hh => ?_)
   have e1 : IntKind.i64.wrap (4611686018427387904 - a) = 4611686018427387904 - a := ZWm (by unfold In64; omega)
   have e2 : IntKind.i64.wrap (a + min b (4611686018427387904 - a)) = wI a b := ZWm (by unfold In64; omega)
   unfold w202
   simp only [QhU, YqB, z16, Xq6, simprocAttr, e1, e2]
   exact Bt.eq rfl (List.append_nil h)
  ·cases e
 ·cases e
def gFr (p i1 i2 : Nat) : List AV := [.f (.func 195) [] [.p i1 0, .p i2 0], .i .i64 0, .f (.func 202) [] [], .tu [], .p (p + 0) 0, .p (p + 1) 0, .i .i64 0, .tu [], .tu [], .f (.func 195) [] [.p i1 0, .p i2 0], .tu [], .tu [], .tu [], .tu [], .tu [], .tu [], .tu [], .tu []]
def XzV (p i1 i2 : Nat) (m : Bool) (acc : Int) : List AB := [.blk true true [.i .i64 acc], .blk false m [.f (.func 202) [] []], .lp .ready .n (gFr p i1 i2) [10, 11] fA fB]
theorem Qsn (h : List AB) (i1 i2 : Nat) (m : Bool) (acc a b : Int) (hc : 0 ≤ acc ∧ acc ≤ 4611686018427387904 ∧ 0 ≤ a) :
  RdAt' Tryz.prog (h.length + 2) [.i .i64 a, .i .i64 b] (h ++ XzV h.length i1 i2 m acc) (.b true) (h ++ XzV h.length i1 i2 m (wI acc a)) := by
 have hc' := eq_true hc
 refine RdAt'.run (by kernel_rfl) (T := ⟨[⟨202, Jsh, fun _ => []⟩], []⟩) ⟨⟨zko, trivial⟩, trivial⟩ (by rw [qu4]; rfl) rfl ?_
 simp only [gFr, ZuR, fA, XzV, z16, Xq6, simprocAttr]
 refine ⟨_, _, _, _, _, by rw [qu4]; rfl, ?_⟩
 simp only [fB, z16, Xq6, simprocAttr, Jsh, hc]
 exact ⟨_, _, _, _, _, _, by rw [qu4]; rfl, rfl, by unfold qZF; dsimp only; rw [Yie]; rfl⟩
def wQ (h : List AB) (i1 i2 : Nat) (a : Int) (hh r : List AB) : Prop := ∃ m acc, (0 ≤ acc ∧ acc ≤ 4611686018427387904 ∧ 0 ≤ a) ∧ hh = h ++ XzV h.length i1 i2 m acc ∧ r = h ++ XzV h.length i1 i2 m (wI acc a)
open Classical in
noncomputable def wT (h : List AB) (i1 i2 : Nat) : List AV → List AB → Option (AV × List AB)
 | [.i .i64 a, .i .i64 _], hh => if c : ∃ r, wQ h i1 i2 a hh r then some (.b true, c.choose) else none
 | _, _ => none
theorem K8q (h : List AB) (i1 i2 : Nat) (a b : Int) (m : Bool) (acc : Int) (ha : 0 ≤ acc ∧ acc ≤ 4611686018427387904 ∧ 0 ≤ a) : wT h i1 i2 [.i .i64 a, .i .i64 b] (h ++ XzV h.length i1 i2 m acc) = some (.b true, h ++ XzV h.length i1 i2 m (wI acc a)) := by
 have hc : ∃ r, wQ h i1 i2 a (h ++ XzV h.length i1 i2 m acc) r := ⟨_, m, acc, ha, rfl, rfl⟩
 obtain ⟨m', acc', _, e, e5⟩ := hc.choose_spec
 replace e := List.append_cancel_left e
 simp only [XzV, List.cons.injEq, AB.blk.injEq, AV.i.injEq, and_true, true_and] at e
 obtain ⟨e1, e2⟩ := e
 subst e1 e2
 simp only [wT]
 rw [dif_pos hc, e5]
theorem qeI (h : List AB) (i1 i2 : Nat) : qBU Tryz.prog (h.length + 2) (wT h i1 i2) := by
 intro args hh v h' e
 unfold wT at e
 split at e
 ·rename_i a b
  split at e
  ·rename_i hc
   cases e
   obtain ⟨m, acc, h1, h2, h3⟩ := hc.choose_spec
   rw [h3, h2]
   exact Qsn h i1 i2 m acc a b h1
  ·cases e
 ·cases e
theorem Y6d (xs : List Int) (r : Int) : 0 ≤ vAt xs r := by unfold vAt; split <;> (try split) <;> omega
def wS (xs : List Int) : Nat → Int
 | 0 => 0
 | i + 1 => wI (wS xs i) (vAt xs ((i + 1 : Nat) : Int))
theorem znU (xs : List Int) : ∀ i, 0 ≤ wS xs i ∧ wS xs i ≤ 4611686018427387904
 | 0 => ⟨Int.le_refl _, by simp [wS]⟩
 | i + 1 => by
  have h1 := znU xs i
  have h2 := Y6d xs ((i + 1 : Nat) : Int)
  simp only [wS, wI]
  omega
theorem JjJ (h : List AB) (hz : h.map AB.freeze = h) (hh : HOk h) (i1 i2 : Nat) (sv : AV) (xs : List Int) (h1 : bxS h i1 = some sv) (h2 : bxS h i2 = some .ns) (hx : Rd intR h sv xs) (hl : xs.length ≤ 1000000) :
  FnAt Tryz.prog 195 [.y (h.length + 2), .p i1 0, .p i2 0] (h ++ XzV h.length i1 i2 true 0) (.tu []) (h ++ XzV h.length i1 i2 true (wS xs xs.length)) := by
 refine FnAt.run (by kernel_rfl) (T := ⟨[⟨93, T_At, fun _ => []⟩], [⟨h.length + 2, wT h i1 i2, fun _ => [h.length + 0, h.length + 2]⟩]⟩) ⟨⟨QFS, trivial⟩, ⟨qeI h i1 i2, trivial⟩⟩ Tryz.func195 XkX fun _ _ => ?_
 have f1 := qbm (Xeg h1)
 have f2 := qbm (Xeg h2)
 have f3 := hx.fx (YeK h1 hh) (sz := 1) rfl
 unfold w195
 simp only [QhU, YqB, z16, Xq6, simprocAttr, f1, f2, f3]
 have mx : max (xs.length : Int) 0 = (xs.length : Int) := by omega
 refine q2X (S := Nat) (fun i => xs.length - i) (fun i => [.y (h.length + 2), .p i1 0, .p i2 0] ++ tp 6 ++ [.i .i64 (max (xs.length : Int) 0), .i .i64 i] ++ tp 14) (fun i => h ++ XzV h.length i1 i2 true (wS xs i)) (fun i => i ≤ xs.length) 0 (Nat.zero_le _) ?_ fun i hi => ?_
 ·exact Bt.wk (by simp only [z16, Xq6, simprocAttr])
 ·simp only [XzV, gFr, z16, Xq6, simprocAttr, f1, f2, f3, mx]
  refine ⟨fun g1 => ?_, fun g1 => ?_⟩
  ·have e1 : IntKind.i64.wrap ((i : Int) + 1) = ((i + 1 : Nat) : Int) := ZWm (by unfold In64; omega)
   have e2 := fun b m => K8q h i1 i2 (vAt xs ((i + 1 : Nat) : Int)) b m (wS xs i) ⟨(znU xs i).1, (znU xs i).2, Y6d xs _⟩
   simp only [XzV, gFr] at e2
   simp only [z16, qdd, Xq6, simprocAttr, CO.tmps, Opd.tmps, optT, Nat.reducePow, Nat.reduceDiv, Nat.reduceMod, f1, f2, f3, T_At, e1, e2, XUr hh, qDR hz]
   exact ⟨i + 1, by omega, by dsimp only; omega, Bt.wk (by simp only [z16, Xq6, simprocAttr])⟩
  ·have : i = xs.length := by omega
   subst this
   exact Bt.refl _ _ _
noncomputable def QpO : List AV → List AB → Option (AV × List AB)
 | [.f (.func 195) [] [.p i1 0, .p i2 0], .i .i64 0, .f (.func 202) [] []], h => (bxS h i1).bind fun sv => (bxS h i2).bind fun sw => match sw with
  | .ns => (getS intR h sv).bind fun xs => if xs.length ≤ 1000000 then some (.i .i64 (wS xs xs.length), h) else none
  | _ => none
 | _, _ => none
theorem Kom : Spec Tryz.prog 201 QpO := by
 intro args h v h' e
 unfold QpO at e
 split at e
 ·rename_i i1 i2
  obtain ⟨sv, h1, e⟩ := Option.bind_eq_some_iff.1 e
  obtain ⟨sw, h2, e⟩ := Option.bind_eq_some_iff.1 e
  split at e
  ·obtain ⟨xs, hx, e⟩ := zZy e
   split at e
   ·rename_i hl
    cases e
    refine FnAt.c (FnAt.frz0 fun hz => ?_)
    replace hx := hx.frz
    rw [← Y6Y] at h1 h2
    generalize h.map AB.freeze = h at *
    refine FnAt.run (by kernel_rfl) (T := ⟨[], []⟩) ⟨trivial, trivial⟩ Tryz.func201 KOX fun ho hh => ?_
    unfold w201
    simp only [QhU, YqB, z16, Xq6, simprocAttr]
    refine W_rf rfl (by simp only [z16, Xq6, simprocAttr]) rfl (by simp only [z16, Xq6, simprocAttr]; rfl) (JjJ h hz hh i1 i2 sv xs h1 h2 hx hl) (by rw [qu4]; rfl) (by decide) ?_
    simp only [XzV, gFr, z16, Xq6, simprocAttr]
    exact Bt.dropI _ hh rfl
   ·cases e
  ·cases e
 ·cases e
noncomputable def qal : List AV → List AB → Option (AV × List AB)
 | [a], h => (getS intR h a).bind fun xs => if xs.length ≤ 1000000 then some (.i .i64 (wS xs xs.length), h) else none
 | _, _ => none
theorem zZe : Spec Tryz.prog 150 qal := by
 intro args h v h' e
 unfold qal at e
 split at e
 ·rename_i a
  obtain ⟨xs, hx, e⟩ := zZy e
  split at e
  ·rename_i hl
   cases e
   refine FnAt.c (FnAt.run (by kernel_rfl) (T := ⟨[⟨130, QFo, fun _ => []⟩, ⟨201, QpO, fun _ => []⟩], []⟩) ⟨⟨qPp, Kom, trivial⟩, trivial⟩ Tryz.func150 JMJ fun ho hh => ?_)
   simp only [XDA, Bool.and_eq_true] at ho
   have f1 := hx.fx ho.1 (sz := 1) rfl
   have n1 : AV.ns.isSl = true := rfl
   unfold w150
   simp only [QhU, YqB, z16, Xq6, simprocAttr, QFo, QpO, f1, hx.isSl, n1, hl]
   exact Bt.dropI _ hh rfl
  ·cases e
 ·cases e
end Go.Proofs.YtebcngelgdpbjaaGreat
end
section
namespace Go.Proofs.YtebcngelgdpbjaaGreat
set_option maxRecDepth 100000
section
variable {T : Env} {fr : List AV} {h : List AB}
def itr (l : List UInt8) (pos : Nat) : AB := .iter ⟨l.toArray⟩ pos
theorem z79 (x : Opd) : opR T (.rng x) fr h = (match x.ev fr with
  | .s l => some (.p h.length 0, h ++ [itr l 0])
  | _ => none) := _root_.id rfl
noncomputable def nxV (h : List AB) (v : AV) : Option (AV × List AB) := match v with
 | .p id 0 => match h[id]? with
  | some (.iter s pos) => if pos < s.size then some (.tu [.b true, .i .i64 (pos : Int), .i .i32 ((Utf8.decode s pos).1 : Int)], h.set id (.iter s (pos + (Utf8.decode s pos).2))) else some (.tu [.b false], h)
  | _ => none
 | _ => none
theorem X6H (x : Opd) : opR T (.nxt x) fr h = nxV h (x.ev fr) := by
 show nxV h (x.ev fr) = _
 rfl
theorem J23 (L : List AB) (k : Nat) (l : List UInt8) (pos : Nat) (hb : L[k]? = some (itr l pos)) : nxV (h ++ L) (.p (h.length + k) 0) = if pos < l.length then some (.tu [.b true, .i .i64 (pos : Int), .i .i32 ((Utf8.decode ⟨l.toArray⟩ pos).1 : Int)], h ++ L.set k (itr l (pos + (Utf8.decode ⟨l.toArray⟩ pos).2))) else some (.tu [.b false], h ++ L) := by
 have hg : (h ++ L)[h.length + k]? = some (.iter ⟨l.toArray⟩ pos) := by
  rw [List.getElem?_append_right (by omega), Nat.add_sub_cancel_left]
  exact hb
 have hs : (⟨l.toArray⟩ : ByteArray).size = l.length := by simp [ByteArray.size]
 simp only [nxV, hg, hs]
 rw [List.set_append_right _ _ (by omega), Nat.add_sub_cancel_left]
 rfl
end
theorem ZmB {l : List UInt8} {pos : Nat} (h : pos < l.length) (ha : (l[pos]).toNat < 128) : Utf8.decode ⟨l.toArray⟩ pos = ((l[pos]).toNat, 1) := by
 have hs : pos < (⟨l.toArray⟩ : ByteArray).size := by simpa [ByteArray.size] using h
 exact decode_ascii ⟨l.toArray⟩ pos hs ha
end Go.Proofs.YtebcngelgdpbjaaGreat
end
section
namespace Go.Proofs.YtebcngelgdpbjaaGreat
variable {α : Type} {r : Row α} {h : List AB} {s : AV} {l : List α}
def AV.capOk : AV → Bool
 | .sl _ _ n c _ => decide (n ≤ c)
 | _ => true
theorem zKc (id : Nat) (l : List α) : (rsl r id l).capOk = true := by
 unfold rsl
 split <;> simp [AV.capOk]
end Go.Proofs.YtebcngelgdpbjaaGreat
end
