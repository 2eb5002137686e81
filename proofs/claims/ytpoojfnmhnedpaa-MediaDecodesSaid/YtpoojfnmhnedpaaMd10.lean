/- Part 10 of what the laws' proofs rest on. No condition. -/
import Derived.WalkLawsBesides
import Derived.Deep.QuietTactic
import Derived.BigQuiet
import Derived.Lib.Hide
import Derived.Deep.WholeRow
import Derived.Test.YtpoojfnmhnedpaaMd9
set_option linter.all false
section
namespace Go.Proofs.Ytpoojfnmhnedpaa
section
variable {α : Type} {r : Row α} {h l : List AB}
def mskQ (base c anc : Nat) (past : List Pt) (l : List AB) : List AB := mskL base c anc past [] 0 l
def vis (base c anc : Nat) (past : List Pt) (k : Nat) : Bool := decide (k < c) || past.any (fun p => bit p.k anc && decide (p.lo ≤ base + k) && decide (base + k < p.hi))
theorem QIM (base c anc : Nat) (past : List Pt) (k : Nat) : qOk (base + c) 0 0 anc past (base + k) = vis base c anc past k := by
 rw [qII]
 unfold vis
 have e1 : decide (base + k < base + c) = decide (k < c) := decide_eq_decide.2 (by omega)
 have e2 : decide (base + k < 0) = false := decide_eq_false (by omega)
 rw [e1, e2, Bool.and_false, Bool.or_false]
theorem Xon (base c anc : Nat) (past : List Pt) (l : List AB) (k : Nat) : (mskQ base c anc past l)[k]? = (l[k]?).map fun B => if vis base c anc past k = true then B.freeze else .dead := by
 unfold mskQ
 rw [JWu, Nat.zero_add]
 congr 1
 funext B
 rw [QIM]
 simp [Zh3]
theorem zPM (base c anc : Nat) (past : List Pt) (l : List AB) : (mskQ base c anc past l).length = l.length := by
 rcases Nat.lt_trichotomy (mskQ base c anc past l).length l.length with q | q | q
 ·have := Xon base c anc past l (mskQ base c anc past l).length
  rw [List.getElem?_eq_none (Nat.le_refl _), List.getElem?_eq_getElem q] at this
  cases this
 ·exact q
 ·have := Xon base c anc past l l.length
  rw [List.getElem?_eq_none (Nat.le_refl _), List.getElem?_eq_getElem q] at this
  cases this
theorem z2V (L : List AB) (k : Nat) : ownC L k = match L[k]? with
  | some (.blk _ _ xs) => some xs
  | _ => none := by rw [← Xyh]; rfl
theorem XzW {base c anc : Nat} {past : List Pt} {k : Nat} (hv : vis base c anc past k = true) : ownC (mskQ base c anc past l) k = ownC l k := by
 rw [z2V, z2V, Xon]
 cases l[k]? with
 | none => rfl
 | some B => simp only [Option.map_some, hv, if_true]; cases B <;> rfl
theorem KuW {base c anc : Nat} {past : List Pt} {k : Nat} (hv : vis base c anc past k = true) : bxL (mskQ base c anc past l) k = bxL l k := by
 rw [← QJn, ← QJn]
 unfold bxS
 rw [Xon]
 cases l[k]? with
 | none => rfl
 | some B =>
  simp only [Option.map_some, hv, if_true]
  cases B with
  | blk fl m xs => cases fl <;> (cases xs with | nil => rfl | cons a t => cases t <;> rfl)
  | _ => rfl
theorem Yyq (x : List α) : ∀ (L : List AB) (k : Nat), ownR r x L k ↔ ∃ m, L[k]? = some (resB r m x)
 | [], k => by simp [ownR]
 | B :: L, 0 => by simp [ownR]
 | B :: L, k + 1 => by simpa [ownR] using Yyq x L k
theorem zrH {base c anc : Nat} {past : List Pt} {k : Nat} (x : List α) (hv : vis base c anc past k = true) (hr : ownR r x l k) : ownR r x (mskQ base c anc past l) k = True := by
 refine eq_true ?_
 rw [Yyq] at hr ⊢
 obtain ⟨m, e⟩ := hr
 exact ⟨false, by rw [Xon, e, Option.map_some, if_pos hv, qeG]⟩
theorem Xez (hz : h.map AB.freeze = h) (c anc n : Nat) (past : List Pt) (l : List AB) (hn : n = h.length + l.length) : KPB (seen (h.length + c) anc past n) [] 0 (h ++ l) = h ++ mskQ h.length c anc past l := Xep hz c anc n past [] l hn rfl
theorem XWV (hz : h.map AB.freeze = h) (anc n : Nat) (past : List Pt) (l : List AB) (hn : n = h.length + l.length) : KPB (seen h.length anc past n) [] 0 (h ++ l) = h ++ mskQ h.length 0 anc past l := Xep hz 0 anc n past [] l hn rfl
theorem Kxf (hz : h.map AB.freeze = h) (c anc n : Nat) (past : List Pt) (w0 : Nat) (ws : List Nat) (l : List AB) (hn : n = h.length + l.length) (hw : ((w0 :: ws).all fun id => decide (h.length ≤ id)) = true) : KPB (seen (h.length + c) anc past n) (w0 :: ws) 0 (h ++ l) = h ++ mskL h.length c anc past (w0 :: ws) 0 l := Xep hz c anc n past (w0 :: ws) l hn hw
theorem qL6 (G x l : List AB) (hG : G.length = l.length) : Jlh [] (h ++ (G ++ x)) 0 (h ++ l) = h ++ (l ++ x) := by
 rw [Zi9 [] (G ++ x) l rfl]
 congr 1
 refine List.ext_getElem? fun j => ?_
 rw [ztn]
 by_cases hj : j < l.length
 ·rw [if_pos hj, if_neg (by simp), List.getElem?_append_left hj]
 ·rw [if_neg hj, List.getElem?_append_right (by omega), List.getElem?_append_right (by omega), hG]
def qP (anc : Nat) : List Pt → Nat → Bool
 | [], _ => false
 | ⟨k, lo, hi, _, _⟩ :: l, id => if lo ≤ id ∧ id < hi then (if anc / 2 ^ k % 2 = 1 then true else qP anc l id) else qP anc l id
theorem J8D (anc id : Nat) : qP anc [] id = false := _root_.id rfl
theorem Xxm (anc k lo hi : Nat) (rs ws : List Nat) (l : List Pt) (id : Nat) : qP anc (⟨k, lo, hi, rs, ws⟩ :: l) id = if lo ≤ id ∧ id < hi then (if anc / 2 ^ k % 2 = 1 then true else qP anc l id) else qP anc l id := _root_.id rfl
theorem Qxo (anc id : Nat) : ∀ past : List Pt, qP anc past id = past.any fun p => bit p.k anc && decide (p.lo ≤ id) && decide (id < p.hi)
 | [] => rfl
 | ⟨k, lo, hi, rs, ws⟩ :: l => by
  rw [Xxm, List.any_cons, Qxo anc id l, YKU]
  by_cases h1 : lo ≤ id <;> by_cases h2 : id < hi <;> by_cases h3 : anc / 2 ^ k % 2 = 1 <;> simp [h1, h2, h3]
theorem qf1 (len0 lo hi anc : Nat) (past : List Pt) (id : Nat) : qOk len0 lo hi anc past id = if id < len0 then true else if lo ≤ id ∧ id < hi then true else qP anc past id := by
 rw [qII, Qxo]
 by_cases h1 : id < len0 <;> by_cases h2 : lo ≤ id <;> by_cases h3 : id < hi <;> simp [h1, h2, h3]
theorem ZHl (base c anc : Nat) (past : List Pt) (k : Nat) : vis base c anc past k = if k < c then true else qP anc past (base + k) := by
 unfold vis
 rw [Qxo]
 by_cases h1 : k < c <;> simp [h1]
def sepA (anc lo hi : Nat) : List Pt → Bool
 | [] => true
 | ⟨k, lo', hi', _, _⟩ :: l => if hi' ≤ lo ∨ hi ≤ lo' then sepA anc lo hi l else if anc / 2 ^ k % 2 = 1 then false else sepA anc lo hi l
theorem qMv (anc lo hi : Nat) : sepA anc lo hi [] = true := _root_.id rfl
theorem ZR9 (anc lo hi k lo' hi' : Nat) (rs ws : List Nat) (l : List Pt) : sepA anc lo hi (⟨k, lo', hi', rs, ws⟩ :: l) = if hi' ≤ lo ∨ hi ≤ lo' then sepA anc lo hi l else if anc / 2 ^ k % 2 = 1 then false else sepA anc lo hi l := _root_.id rfl
theorem qEm (anc lo hi : Nat) : ∀ past : List Pt, sepA anc lo hi past = past.all fun p' => !bit p'.k anc || decide (p'.hi ≤ lo) || decide (hi ≤ p'.lo)
 | [] => rfl
 | ⟨k, lo', hi', rs, ws⟩ :: l => by
  rw [ZR9, List.all_cons, qEm anc lo hi l, YKU]
  by_cases h1 : hi' ≤ lo <;> by_cases h2 : hi ≤ lo' <;> by_cases h3 : anc / 2 ^ k % 2 = 1 <;> simp [h1, h2, h3]
def indA (len0 anc : Nat) (past0 : List Pt) (ws0 : List Nat) : List Pt → Bool
 | [] => true
 | ⟨k, lo, hi, rs, ws⟩ :: l => if anc / 2 ^ k % 2 = 1 then indA len0 anc past0 ws0 l else
   if (ws.all fun id => !qOk len0 0 0 anc past0 id) = true then
    if hi ≤ lo ∨ (len0 ≤ lo ∧ sepA anc lo hi past0 = true) then
     if (ws0.all fun id => !Xub ⟨k, lo, hi, rs, ws⟩ id && !memN id (rs ++ ws)) = true then indA len0 anc past0 ws0 l else false
    else false
   else false
theorem zxg (len0 anc : Nat) (past0 : List Pt) (ws0 : List Nat) : indA len0 anc past0 ws0 [] = true := _root_.id rfl
theorem JC2 (len0 anc : Nat) (past0 : List Pt) (ws0 : List Nat) (k lo hi : Nat) (rs ws : List Nat) (l : List Pt) : indA len0 anc past0 ws0 (⟨k, lo, hi, rs, ws⟩ :: l) = if anc / 2 ^ k % 2 = 1 then indA len0 anc past0 ws0 l else
      if (ws.all fun id => !qOk len0 0 0 anc past0 id) = true then
        if hi ≤ lo ∨ (len0 ≤ lo ∧ sepA anc lo hi past0 = true) then
          if (ws0.all fun id => !Xub ⟨k, lo, hi, rs, ws⟩ id && !memN id (rs ++ ws)) = true then indA len0 anc past0 ws0 l else false
        else false
      else false := _root_.id rfl
theorem KN1 (len0 anc : Nat) (past0 : List Pt) (ws0 : List Nat) : ∀ past : List Pt, past.all (qvA len0 anc past0 ws0) = indA len0 anc past0 ws0 past
 | [] => rfl
 | ⟨k, lo, hi, rs, ws⟩ :: l => by
  rw [JC2, List.all_cons, KN1 len0 anc past0 ws0 l, KIg, qEm, YKU]
  by_cases h1 : anc / 2 ^ k % 2 = 1
  ·simp [h1]
  ·simp only [h1, decide_false, Bool.false_or, if_false]
   generalize (ws.all fun id => !qOk len0 0 0 anc past0 id) = a
   generalize (past0.all fun p' => !bit p'.k anc || decide (p'.hi ≤ lo) || decide (hi ≤ p'.lo)) = b
   generalize (ws0.all fun id => !Xub ⟨k, lo, hi, rs, ws⟩ id && !memN id (rs ++ ws)) = e
   by_cases h2 : hi ≤ lo <;> by_cases h3 : len0 ≤ lo <;> cases a <;> cases b <;> cases e <;> simp [h2, h3]
def indL (anc : Nat) (rs : List Nat) : List Pt → Bool
 | [] => true
 | ⟨k, lo, hi, rs', ws⟩ :: l => if anc / 2 ^ k % 2 = 1 then indL anc rs l else
   if (rs.all fun id => !Xub ⟨k, lo, hi, rs', ws⟩ id) = true then indL anc rs l else false
theorem X9e (anc : Nat) (rs : List Nat) : indL anc rs [] = true := _root_.id rfl
theorem XeF (anc : Nat) (rs : List Nat) (k lo hi : Nat) (rs' ws : List Nat) (l : List Pt) : indL anc rs (⟨k, lo, hi, rs', ws⟩ :: l) = if anc / 2 ^ k % 2 = 1 then indL anc rs l else
      if (rs.all fun id => !Xub ⟨k, lo, hi, rs', ws⟩ id) = true then indL anc rs l else false := _root_.id rfl
theorem ZmC (anc : Nat) (rs : List Nat) : ∀ past : List Pt, past.all (qQm anc rs []) = indL anc rs past
 | [] => rfl
 | ⟨k, lo, hi, rs', ws⟩ :: l => by
  rw [XeF, List.all_cons, ZmC anc rs l]
  unfold qQm
  rw [YKU, List.append_nil]
  by_cases h1 : anc / 2 ^ k % 2 = 1
  ·simp [h1]
  ·simp only [h1, decide_false, if_false, List.all_nil, Bool.and_true, Bool.false_eq_true]
   generalize (rs.all fun id => !Xub ⟨k, lo, hi, rs', ws⟩ id) = a
   cases a <;> simp
variable {c : Ctx} {k : List IT} {fr : List AV} {len0 n anc : Nat} {past : List Pt} {d : Option Nat} {ops : List DOp}
theorem KAx (w0 : Nat) (ws : List Nat) (vs : List AV) (v : AV) (G : List AB) : W c (.dmk (w0 :: ws) vs (some (v, G)) len0 n anc past d ops :: k) fr h = (okL (fun i => decide (i < h.length)) vs = true ∧ HOk h ∧ indA len0 anc past (w0 :: ws) past = true ∧ ((w0 :: ws).all fun id => decide (id < h.length)) = true ∧ h.length ≤ G.length ∧ v.ok (qOk len0 h.length G.length anc past) = true ∧
      ((w0 :: ws).all fun id => (G.getD id .dead).ok (qOk len0 h.length G.length anc past)) = true ∧ ((G.drop h.length).all fun B => B.ok (qOk len0 h.length G.length anc past)) = true ∧
      W c (.drw len0 (n + 1) (⟨n, h.length, G.length, seen len0 anc (J9a past) h.length, w0 :: ws⟩ :: past) ops :: k) (put fr d v) (Jlh (w0 :: ws) G 0 h)) := by
  rw [← KN1]
  exact J9N (w0 :: ws) vs v G
theorem zEV (vs : List AV) (v : AV) (c0 anc' : Nat) (past' : List Pt) (x : List AB) : W c (.dmk [] vs (some (v, h ++ (mskQ h.length c0 anc' past' l ++ x))) len0 n anc past d ops :: k) fr (h ++ l) = (okL (fun i => decide (i < h.length + l.length)) vs = true ∧ HOk (h ++ l) ∧ indA len0 anc past [] past = true ∧ v.ok (qOk len0 (h.length + l.length) (h.length + (l.length + x.length)) anc past) = true ∧
      (x.all fun B => B.ok (qOk len0 (h.length + l.length) (h.length + (l.length + x.length)) anc past)) = true ∧
      W c (.drw len0 (n + 1) (⟨n, h.length + l.length, h.length + (l.length + x.length), seen len0 anc (J9a past) (h.length + l.length), []⟩ :: past) ops :: k) (put fr d v) (h ++ (l ++ x))) := by
  rw [← KN1, J9N, qL6 _ _ _ (zPM _ _ _ _ _)]
  have e1 : (h ++ l).length = h.length + l.length := List.length_append
  have e2 : (h ++ (mskQ h.length c0 anc' past' l ++ x)).length = h.length + (l.length + x.length) := by rw [List.length_append, List.length_append, zPM]
  have e3 : (h ++ (mskQ h.length c0 anc' past' l ++ x)).drop (h ++ l).length = x := by
    rw [e1, zCl, List.drop_append_of_le_length (by rw [zPM]; exact Nat.le_refl _), List.drop_eq_nil_of_le (by rw [zPM]; exact Nat.le_refl _), List.nil_append]
  rw [e3, e2, e1]
  have e4 : (h.length + l.length ≤ h.length + (l.length + x.length)) = True := eq_true (by omega)
  simp only [List.all_nil, e4, true_and]
theorem qPO (vs : List AV) (v : AV) (c0 anc' : Nat) (past' : List Pt) : W c (.dmk [] vs (some (v, h ++ mskQ h.length c0 anc' past' l)) len0 n anc past d ops :: k) fr (h ++ l) = (okL (fun i => decide (i < h.length + l.length)) vs = true ∧ HOk (h ++ l) ∧ indA len0 anc past [] past = true ∧ v.ok (qOk len0 (h.length + l.length) (h.length + l.length) anc past) = true ∧
      W c (.drw len0 (n + 1) (⟨n, h.length + l.length, h.length + l.length, seen len0 anc (J9a past) (h.length + l.length), []⟩ :: past) ops :: k) (put fr d v) (h ++ l)) := by
  have := zEV (c := c) (k := k) (fr := fr) (len0 := len0) (n := n) (anc := anc) (past := past) (d := d) (ops := ops) (h := h) (l := l) vs v c0 anc' past' []
  simpa only [List.append_nil, List.length_nil, Nat.add_zero, List.all_nil, true_and] using this
theorem ztS (v : AV) (h' : List AB) (x : AV) : W c (.dld (some (v, h')) x len0 n anc past d ops :: k) fr h = ((if indA len0 anc past [] past = true then True else indL anc (idOf x) past = true) ∧ x.ok (qOk len0 0 0 anc past) = true ∧ v.ok (qOk len0 0 0 anc past) = true ∧ W c (.drw len0 (n + 1) (⟨n, 0, 0, idOf x, []⟩ :: past) ops :: k) (put fr d v) h) := by
 rw [← KN1, ← ZmC]
 exact JGa v h' x
theorem Z8T {n : Nat} (h : n ≤ 1000000) : (n ≤ maxLen) = True := eq_true (by unfold maxLen; omega)
end
def qtO := (And.intro (And.intro (And.intro (And.intro (And.intro (And.intro (And.intro @Qvy @Z9w) (And.intro @KiQ @YAj)) (And.intro (And.intro @qew @ZfC) (And.intro @Kdd (And.intro @Q4J @zu4)))) (And.intro (And.intro (And.intro @Jod @q4h) (And.intro @QOG (And.intro @JQG @KcE))) (And.intro (And.intro @QPM @zg0) (And.intro @Kq0 (And.intro @KlJ @ztS))))) (And.intro (And.intro (And.intro (And.intro @JTa @ZYc) (And.intro @ZnS @qgG)) (And.intro (And.intro @zSx @zMP) (And.intro @KS9 (And.intro @qqO @JiF)))) (And.intro (And.intro (And.intro @Qhw @XKz) (And.intro @KBM (And.intro @zUf @Jul))) (And.intro (And.intro @qeJ @QuR) (And.intro @Zpi (And.intro @QJJ @qfc)))))) (And.intro (And.intro (And.intro (And.intro (And.intro @zIX @zmU) (And.intro @qSd @q6S)) (And.intro (And.intro @QuT @Qft) (And.intro @XxU (And.intro @zpv @qe9)))) (And.intro (And.intro (And.intro @Ysx @ZqV) (And.intro @KhF (And.intro @JHO @QpW))) (And.intro (And.intro @z2W @J0j) (And.intro @znx (And.intro @q4W @QXu))))) (And.intro (And.intro (And.intro (And.intro @Y0Y @q77) (And.intro @XIl (And.intro @KUM @Zh3))) (And.intro (And.intro @zsR @Kgk) (And.intro @Kxs (And.intro @YFr @qif)))) (And.intro (And.intro (And.intro @Xq1 @Z9e) (And.intro @J7f (And.intro @YNU @zv1))) (And.intro (And.intro @KDE @zCQ) (And.intro @KWt (And.intro @QLl @Yeq))))))) (And.intro (And.intro (And.intro (And.intro (And.intro (And.intro @ok_i @ok_b) (And.intro @ok_s @YCy)) (And.intro (And.intro @q73 @q3k) (And.intro @ok_p (And.intro @ok_y @ZY3)))) (And.intro (And.intro (And.intro @ok_f @QxI) (And.intro @Jiv (And.intro @ZWl @JjX))) (And.intro (And.intro @Zlz @zvI) (And.intro @ZRT (And.intro @Zmt @Zxc))))) (And.intro (And.intro (And.intro (And.intro @XVu @JhK) (And.intro @XoF (And.intro @any_cons @XQC))) (And.intro (And.intro @JZD @qn1) (And.intro @Ytd (And.intro @Z4o @zpo)))) (And.intro (And.intro (And.intro @Qkq @JY7) (And.intro @ZJS (And.intro @zmG @Tab.ws_nil))) (And.intro (And.intro @Tab.ws_cons @decide_true) (And.intro @decide_false (And.intro @Bool.or_true @Bool.or_false)))))) (And.intro (And.intro (And.intro (And.intro (And.intro @Bool.true_or @Bool.false_or) (And.intro @Bool.not_true @Bool.not_false)) (And.intro (And.intro @Kta @YAk) (And.intro @zO5 (And.intro @ZKB @X7A)))) (And.intro (And.intro (And.intro @Jck @zcq) (And.intro @QD4 (And.intro @qQd @z2s))) (And.intro (And.intro @KAx @zEV) (And.intro @qPO (And.intro @XzW @KuW))))) (And.intro (And.intro (And.intro (And.intro @zrH @zPM) (And.intro @ZHl (And.intro @J8D @Xxm))) (And.intro (And.intro @qf1 @qMv) (And.intro @ZR9 (And.intro @zxg @JC2)))) (And.intro (And.intro (And.intro @X9e @XeF) (And.intro @and_self (And.intro @false_and @and_false))) (And.intro (And.intro @or_true @true_or) (And.intro @false_or (And.intro @or_false @Z8T))))))))
end Go.Proofs.Ytpoojfnmhnedpaa
end
section
namespace Go.Proofs.Ytpoojfnmhnedpaa
variable {α : Type} {r : Row α} {h : List AB} {s : AV} {l : List α}
def AV.capOk : AV → Bool
 | .sl _ _ n c _ => decide (n ≤ c)
 | _ => true
theorem QbF (id : Nat) (l : List α) : (rsl r id l).capOk = true := by
 unfold rsl
 split <;> simp [AV.capOk]
theorem Rd.slc {id off len cap : Nat} {k : Option Nat} (e : Rd r h (.sl id off len cap k) l) (h0 : l.length ≠ 0) : len = l.length ∧ ∃ xs, Za2 h id = some xs ∧ off + l.length * r.sz ≤ xs.length ∧ (xs.drop off).take (l.length * r.sz) = r.cells l := by
 have e1 := e.1
 have e2 := e.len
 simp only [lenV, Option.some.injEq] at e2
 obtain rfl : len = l.length := by omega
 simp only [rdS, if_neg h0] at e1
 obtain ⟨xs, h1, e1⟩ := Option.bind_eq_some_iff.1 e1
 split at e1
 ·rename_i h2
  simp only [Option.some.injEq, Prod.mk.injEq, true_and] at e1
  exact ⟨rfl, xs, h1, h2, e1⟩
 ·cases e1
theorem Rd.mk_sl {id off n cap : Nat} {k : Option Nat} {xs : List AV} (h1 : Za2 h id = some xs) (hn : n = l.length) (h2 : off + l.length * r.sz ≤ xs.length) (h3 : (xs.drop off).take (l.length * r.sz) = r.cells l) (hm : l.length ≤ maxLen) : Rd r h (.sl id off n cap k) l := by
 subst hn
 refine ⟨?_, hm⟩
 by_cases h0 : l.length = 0
 ·have : l = [] := List.eq_nil_of_length_eq_zero h0
  subst this
  simp only [rdS, List.length_nil, if_true]
  rfl
 ·simp only [rdS, if_neg h0, h1, Option.bind_some, if_pos h2, h3]
theorem Rd.mk0 {id off cap : Nat} {k : Option Nat} (h0 : l.length = 0) : Rd r h (.sl id off 0 cap k) l := by
 have : l = [] := List.eq_nil_of_length_eq_zero h0
 subst this
 exact ⟨by simp only [rdS, if_true]; rfl, Nat.zero_le _⟩
end Go.Proofs.Ytpoojfnmhnedpaa
end
section
namespace Go.Proofs.Ytpoojfnmhnedpaa
open Go.RowKit
structure Kept (S : Nat → Prop) (w w' : World) : Prop where
 os : w'.os = w.os
 tape : w'.tape = w.tape
 output : w'.output = w.output
 size : w.heap.size ≤ w'.heap.size
 block : ∀ k, k < w.heap.size → ¬ S k → w'.heap[k]? = w.heap[k]?
def NoS : Nat → Prop := fun _ => False
theorem Kept.setCell {S : Nat → Prop} {a w : World} (h : Kept S a w) {p : Addr} (hp : a.heap.size ≤ p.block ∨ S p.block) (u : Value) : Kept S a (w.setCell p u) := by
  refine ⟨h.os, h.tape, h.output, by simpa [World.setCell] using h.size, fun k hk hn => ?_⟩
  rw [Below.heap_setCell _ _ _ _ (by rcases hp with hp | hp; · omega
                                     · intro e; exact hn (e ▸ hp))]
  exact h.block k hk hn
theorem Kept.below {S : Nat → Prop} {B : Nat} {a b : World} (h : Kept S a b) (hB : B ≤ a.heap.size) (hs : ∀ k, k < a.heap.size → S k → B ≤ k) : Below B a b :=
 ⟨h.os, h.tape, h.output, h.size, fun k hk => h.block k (by omega) fun e => by have := hs k (by omega) e; omega⟩
def Blk (w : World) (b : Nat) (vs : Array Value) (e : TypeId) : Prop := w.heap[b]? = some (.cells vs e (0, 0))
theorem Blk.cell {w : World} {b : Nat} {vs : Array Value} {e : TypeId} (h : Blk w b vs e) (i : Nat) : w.cell? ⟨b, i, none⟩ = vs[i]? := by
 unfold Blk at h; simp [World.cell?, h]
theorem Blk.at {w : World} {b : Nat} {vs : Array Value} {e : TypeId} (h : Blk w b vs e) (i : Nat) {u : Value} (hu : vs[i]? = some u) : w.cell? ⟨b, i, none⟩ = some u := (h.cell i).trans hu
theorem Blk.set {w : World} {b : Nat} {vs : Array Value} {e : TypeId} (h : Blk w b vs e) (i : Nat) (u : Value) : Blk (w.setCell ⟨b, i, none⟩ u) b (vs.setIfInBounds i u) e := by
 unfold Blk at h ⊢; simp [World.setCell, Array.getElem?_modify, h]
def Sl (w : World) (v : Value) (n : Nat) (cs : List Value) : Prop :=
 ((∃ a, v = .slice a 0 0) ∧ n = 0 ∧ cs = []) ∨
 ∃ b off cap, v = .slice (some ⟨b, off, none⟩) n cap ∧ n ≤ cap ∧ cap ≤ maxLen ∧ ∀ i u, cs[i]? = some u → w.cell? ⟨b, off + i, none⟩ = some u
theorem Addr.add_none (b o j : Nat) : (⟨b, o, none⟩ : Addr).add j = ⟨b, o + j, none⟩ := by unfold Addr.add; split <;> simp_all
theorem Sl.at {w : World} {v : Value} {n : Nat} {cs : List Value} (h : Sl w v n cs) : ∃ ao cap, v = .slice ao n cap ∧ n ≤ cap ∧ cap ≤ maxLen ∧ ∀ i u, cs[i]? = some u → ∃ b off, ao = some ⟨b, off, none⟩ ∧ w.cell? ⟨b, off + i, none⟩ = some u := by
 rcases h with ⟨⟨a, rfl⟩, rfl, rfl⟩ | ⟨b, off, cap, rfl, h1, h2, h3⟩
 ·exact ⟨a, 0, rfl, Nat.le_refl _, Nat.zero_le _, fun i u hu => by simp at hu⟩
 ·exact ⟨_, cap, rfl, h1, h2, fun i u hu => ⟨b, off, rfl, h3 i u hu⟩⟩
theorem Sl.get {w : World} {ao : Option Addr} {m cap n : Nat} {cs : List Value} (h : Sl w (.slice ao m cap) n cs) {i : Nat} {u : Value} (hu : cs[i]? = some u) : ∃ b off, ao = some ⟨b, off, none⟩ ∧ w.cell? ⟨b, off + i, none⟩ = some u := by
 obtain ⟨ao', cap', h1, _, _, h4⟩ := Sl.at h
 cases h1
 exact h4 i u hu
def RdI (w : World) (v : Value) (xs : List Int) : Prop := Sl w v xs.length (xs.map (Value.int .i64))
theorem RdI.at {w : World} {v : Value} {xs : List Int} (h : RdI w v xs) : ∃ ao cap, v = .slice ao xs.length cap ∧ xs.length ≤ cap ∧ cap ≤ maxLen ∧ ∀ i x, xs[i]? = some x → ∃ b off, ao = some ⟨b, off, none⟩ ∧ w.cell? ⟨b, off + i, none⟩ = some (.int .i64 x) := by
 obtain ⟨ao, cap, h1, h2, h3, h4⟩ := Sl.at h
 exact ⟨ao, cap, h1, h2, h3, fun i x hx => h4 i _ (by simp [hx])⟩
theorem RdI.get {w : World} {ao : Option Addr} {m cap : Nat} {xs : List Int} (h : RdI w (.slice ao m cap) xs) {i : Nat} {x : Int} (hx : xs[i]? = some x) : ∃ b off, ao = some ⟨b, off, none⟩ ∧ w.cell? ⟨b, off + i, none⟩ = some (.int .i64 x) :=
 Sl.get h (by simp [hx])
section
variable {P : Program} (w : World)
end
end Go.Proofs.Ytpoojfnmhnedpaa
end
section
namespace Go.Proofs.Ytpoojfnmhnedpaa
open Go.RowKit
def AV.val : AV → Value
 | .b t => .bool t
 | .i k n => .int k n
 | .s l => .string ⟨l.toArray⟩
 | _ => undef
def AV.fl : AV → Bool
 | .b _ | .i _ _ | .s _ => true
 | _ => false
theorem Yi1 (ρ : Mp) {a : AV} (h : a.fl = true) : VR ρ a a.val := by
 cases a <;> first | (cases h; done) | skip
 ·exact .b _
 ·exact .i _ _
 ·exact .s _ _ rfl
structure In (K : Code → CC → Prop) (ρ : Mp) (h : List AB) (w : World) : Prop where
 rel : Rel K ρ h w
 frz : ∀ B ∈ h, B.mut = false
variable {K : Code → CC → Prop} {ρ : Mp} {h : List AB} {w : World}
theorem In.nil (w : World) : In K [] [] w := ⟨⟨rfl, fun i B b o n h => by simp at h, fun i j bi oi bj oj Bi Bj _ h => by simp at h⟩, fun B h => by simp at h⟩
theorem In.push (r : In K ρ h w) {B : AB} {b o n : Nat} (hm : B.mut = false) (hB : BR K (ρ ++ [(b, o, n)]) w b o n B) : In K (ρ ++ [(b, o, n)]) (h ++ [B]) w := by
 have hf : ∀ C ∈ h ++ [B], C.mut = false := fun C hC => by
  rcases List.mem_append.1 hC with q | q
  ·exact r.frz C q
  ·rw [List.mem_singleton.1 q]; exact hm
 refine ⟨⟨by simp [r.rel.len], fun i C b' o' n' h1 h2 => ?_, fun i j bi oi bj oj Bi Bj _ h1 _ _ _ hm' _ => ?_⟩, hf⟩
 ·by_cases hi : i < h.length
  ·rw [List.getElem?_append_left hi] at h1
   rw [List.getElem?_append_left (by rw [r.rel.len]; exact hi)] at h2
   exact (r.rel.blk i C b' o' n' h1 h2).same (Ext.push _ _) fun _ => rfl
  ·have hlt := (List.getElem?_eq_some_iff.1 h1).1
   rw [List.length_append, List.length_singleton] at hlt
   have : i = h.length := by omega
   subst this
   rw [List.getElem?_append_right (Nat.le_refl _), Nat.sub_self] at h1
   rw [List.getElem?_append_right (by rw [r.rel.len]; exact Nat.le_refl _), r.rel.len, Nat.sub_self] at h2
   cases h1
   cases h2
   exact hB
 ·rw [hf Bi (List.mem_of_getElem? h1)] at hm'
  cases hm'
theorem In.slice {α : Type} {r : Row α} (i : In K ρ h w) {v : Value} {l : List α} (hfl : ∀ x, ∀ a ∈ r.f x, a.fl = true) (hs : Sl w v l.length ((r.cells l).map AV.val)) :
  l.length ≤ maxLen ∧ ∃ x, In K (ρ ++ [x]) (h ++ [resB r false l]) w ∧ VR (ρ ++ [x]) (rsl r h.length l) v := by
 have hrl := i.rel.len
 by_cases h0 : l.length = 0
 ·have : l = [] := List.eq_nil_of_length_eq_zero h0
  subst this
  refine ⟨Nat.zero_le _, (0, 0, 0), i.push (by simp [resB, AB.mut]) (by simp [resB, BR]), ?_⟩
  simp only [rsl, List.length_nil, if_true]
  rcases hs with ⟨⟨a, rfl⟩, _, _⟩ | ⟨b, off, cap, rfl, _, hc, _⟩
  ·exact .sz _ _ _ _ (Nat.zero_le _) fun _ => rfl
  ·exact .sz _ _ _ _ hc fun q => by cases q
 ·rcases hs with ⟨_, q, _⟩ | ⟨b, off, cap, rfl, hlc, hc, hcells⟩
  ·exact absurd q h0
  ·have hlen : (r.cells l).length = l.length * r.sz := r.cells_len l
   have hpos : 0 < l.length * r.sz := Nat.mul_pos (by omega) r.pos
   have hall : ∀ a ∈ r.cells l, a.fl = true := fun a ha => by
    obtain ⟨x, _, hx⟩ := List.mem_flatMap.1 ha
    exact hfl x a hx
   have hat : ∀ k (hk : k < (r.cells l).length), w.cell? ⟨b, off + k, none⟩ = some ((r.cells l)[k]).val := fun k hk => hcells k _ (by rw [List.getElem?_map, List.getElem?_eq_getElem hk]; rfl)
   obtain ⟨cs, e, fz, hb⟩ : ∃ cs e fz, w.heap[b]? = some (.cells cs e fz) := by
    have := hat 0 (by omega)
    unfold World.cell? at this
    split at this
    ·rename_i c e fz hb
     exact ⟨c, e, fz, hb⟩
    ·cases this
   have hat' : ∀ k (hk : k < (r.cells l).length), cs[off + k]? = some ((r.cells l)[k]).val := fun k hk => by
    have := hat k hk
    unfold World.cell? at this
    rw [hb] at this
    simpa using this
   refine ⟨by omega, (b, off, off + cap * r.sz), i.push (by simp [resB, h0, AB.mut]) ?_, ?_⟩
   ·simp only [resB, if_neg h0, BR]
    refine ⟨cs, e, fz, hb, (fun q => by cases q), ?_, fun k a c ha hc' => ?_⟩
    ·have := (Array.getElem?_eq_some_iff.1 (hat' ((r.cells l).length - 1) (by omega))).1
     omega
    ·have hk := (List.getElem?_eq_some_iff.1 ha).1
     rw [hat' k hk] at hc'
     have : a = (r.cells l)[k] := (List.getElem?_eq_some_iff.1 ha).2.symm
     subst this
     cases hc'
     exact Yi1 _ (hall _ (List.getElem_mem hk))
   ·simp only [rsl, if_neg h0]
    exact .sl h.length 0 l.length l.length (some r.sz) b off (off + cap * r.sz) cap (by rw [← hrl, List.getElem?_append_right (Nat.le_refl _), Nat.sub_self]; rfl) (Nat.le_refl _) hlc hc (fun q => by cases q) (fun z hz _ => by cases hz; exact Nat.le_refl _)
theorem q1S {P : Program} {g : Nat} {az : List AV} {vals : Array Value} {h' : List AB} (i : In (KC P) ρ h w) (hv : VL ρ az vals) (e : FnC P g az h (.b true) h') : Calls P g vals w (fun e w' => e = .returned (.bool true) ∧ Kept NoS w w') := by
 refine (e.2 ρ w vals i.rel hv).mono ?_
 rintro e w' ⟨v', ρ', rfl, hva, _, heff⟩
 cases hva
 refine ⟨rfl, heff.os, heff.tape, heff.output.1, heff.size, fun b hb _ => heff.keep b hb fun ⟨j, B, o, h1, h2, _⟩ => ?_⟩
 rw [i.frz B (List.mem_of_getElem? h1)] at h2
 cases h2
end Go.Proofs.Ytpoojfnmhnedpaa
end
section
namespace Go.Proofs.Ytpoojfnmhnedpaa
structure Dg where
 l : List UInt8
 h : l.length = 32
deriving DecidableEq
def u8A (b : UInt8) : AV := .i .u8 (b.toNat : Int)
theorem Ykb {a b : UInt8} (e : u8A a = u8A b) : a = b := by
 unfold u8A at e
 have e2 : (a.toNat : Int) = (b.toNat : Int) := by
  injection e
 exact UInt8.toNat.inj (by omega)
theorem QJz {α β : Type} {f : α → β} (hf : ∀ a b, f a = f b → a = b) : ∀ {l l' : List α}, l.map f = l'.map f → l = l'
 | [], [], _ => rfl
 | [], _ :: _, e => by simp at e
 | _ :: _, [], e => by simp at e
 | a :: l, b :: l', e => by
  simp only [List.map_cons, List.cons.injEq] at e
  rw [hf a b e.1, QJz hf e.2]
theorem Dg.ext {a b : Dg} (e : a.l = b.l) : a = b := by
 cases a; cases b
 cases e
 rfl
def KXL : Dg := ⟨List.replicate 32 0, by simp⟩
def idR : Row Dg := ⟨fun x => x.l.map u8A, 32, fun x => by rw [List.length_map]; exact x.h, by decide, KXL, fun x y e => Dg.ext (QJz (fun a b => Ykb) e)⟩
theorem eqcB : ∀ (l l' : List UInt8), l.length = l'.length → JmC (List.replicate l.length .i) (l.map u8A) (l'.map u8A) = some (decide (l = l'))
 | [], [], _ => by simp [JmC]
 | [], _ :: _, e => by simp at e
 | _ :: _, [], e => by simp at e
 | a :: l, b :: l', e => by
  simp only [List.length_cons, List.replicate_succ, List.map_cons, JmC, u8A, YZc, if_true, Option.bind_some]
  have ih := eqcB l l' (by simpa using e)
  rw [ih, Option.map_some]
  congr 1
  have h1 : ((a.toNat : Int) == (b.toNat : Int)) = decide (a = b) := by
   rw [Bool.eq_iff_iff]
   simp only [beq_iff_eq, decide_eq_true_eq]
   exact ⟨fun q => UInt8.toNat.inj (by omega), fun q => by rw [q]⟩
  rw [h1, Bool.eq_iff_iff]
  simp
theorem Y0j (q : Nat → Bool) : ∀ l : List UInt8, okL q (l.map u8A) = true
 | [] => by simp [okL]
 | a :: l => by simp [okL, u8A, AV.ok, Y0j q l]
theorem QSM : ∀ l : List UInt8, (l.map u8A).all (wrOk true) = true
 | [] => rfl
 | a :: l => by rw [List.map_cons, List.all_cons, QSM l]; rfl
theorem Q0X {α : Type} {r : Row α} (h : ∀ d, (r.f d).all (wrOk true) = true) : ∀ l : List α, (r.cells l).all (wrOk true) = true
 | [] => rfl
 | d :: l => by
  have := Q0X h l
  simp only [Row.cells, List.flatMap_cons, List.all_append, h d, Bool.true_and] at this ⊢
  exact this
end Go.Proofs.Ytpoojfnmhnedpaa
end
section
namespace Go.Proofs.Ytpoojfnmhnedpaa
set_option maxRecDepth 100000
def Zd0 : Nat → Int → Nat → Nat
 | 0, _, k => k
 | f + 1, n, k => if 0 < n / 2 ^ (8 * k) then Zd0 f n (k + 1) else k
def Xwj (n : Int) : Nat := if n < 192 then 0 else Zd0 7 n 1
theorem Qf5 (n : Int) : ∀ f k, k ≤ Zd0 f n k ∧ Zd0 f n k ≤ k + f
 | 0, k => by simp [Zd0]
 | f + 1, k => by
  have := Qf5 n f (k + 1)
  unfold Zd0
  split <;> omega
theorem KhV (n : Int) : Xwj n ≤ 8 := by
 have := Qf5 n 7 1
 unfold Xwj
 split <;> omega
def qh9 (n : Int) (k i : Nat) : UInt8 := UInt8.ofInt (n / 2 ^ (8 * (k - 1 - i)))
def JDl (n : Int) : List UInt8 :=
 if Xwj n = 0 then [UInt8.ofInt n] else UInt8.ofInt (191 + Xwj n) :: (List.range (Xwj n)).map (qh9 n (Xwj n))
theorem ZEm (n : Int) : (JDl n).length ≤ 9 := by
 have := KhV n
 unfold JDl
 split <;> simp; omega
def wput (lim : Int) (bs : List UInt8) (err : Int) (enc : List UInt8) (ok : Bool) : List UInt8 × Int :=
 if err = 0 then (if ok then (if lim < bs.length + enc.length then (bs, 4) else (bs ++ enc, 0)) else (bs, 3)) else (bs, err)
def XJQ (err : Int) (bs : List UInt8) : List UInt8 := if err = 0 then bs else []
structure RSt where
 pos : Nat
 err : Int
 ea : Int
def RSt.fail (s : RSt) (e a : Int) : RSt := if s.err = 0 then { s with err := e, ea := a } else s
def qA9 (l : List UInt8) : Nat := l.foldl (fun n x => n * 256 + x.toNat) 0
theorem ZvB (l : List UInt8) (x : UInt8) : qA9 (l ++ [x]) = qA9 l * 256 + x.toNat := by simp [qA9, List.foldl_append]
theorem qeM : ∀ (l : List UInt8) (a : Nat), l.foldl (fun n x => n * 256 + x.toNat) a < (a + 1) * 256 ^ l.length
 | [], a => by simp
 | x :: l, a => by
  have h := qeM l (a * 256 + x.toNat)
  have hx := x.toNat_lt
  have h2 : (a * 256 + x.toNat + 1) * 256 ^ l.length ≤ ((a + 1) * 256) * 256 ^ l.length := Nat.mul_le_mul_right _ (by omega)
  rw [List.foldl_cons, List.length_cons, Nat.pow_succ, Nat.mul_comm (256 ^ l.length) 256, ← Nat.mul_assoc]
  omega
theorem ZSg (l : List UInt8) : qA9 l < 256 ^ l.length := by
 have := qeM l 0
 simpa [qA9] using this
def Xcg (bs : List UInt8) (s : RSt) (c : Nat) : Int × RSt :=
 if 199 < c then (0, { s with err := 5, ea := s.pos })
 else if bs.length < s.pos + 1 + (c - 191) then (0, { s with err := 6, ea := s.pos })
 else if c < 192 then (c, { s with pos := s.pos + 1 })
 else
  let n := qA9 ((bs.drop (s.pos + 1)).take (c - 191))
  if 9223372036854775808 ≤ n ∨ Xwj n ≠ c - 191 then (0, { s with err := 5, ea := s.pos })
  else (n, { s with pos := s.pos + 1 + (c - 191) })
def YLr (bs : List UInt8) (s : RSt) : Int × RSt :=
 if s.err = 0 then
  match bs[s.pos]? with
  | none => (0, { s with err := 6, ea := s.pos })
  | some c => Xcg bs s c.toNat
 else (0, s)
def K1u (bs : List UInt8) (s : RSt) (most : Int) : Int × RSt :=
 if s.err = 0 then (if most < (YLr bs s).1 then ((YLr bs s).1, (YLr bs s).2.fail 4 s.pos) else YLr bs s) else (0, s)
def KgB (bs : List UInt8) (s : RSt) (n : Nat) (a : Int) : List UInt8 × RSt :=
 if s.err = 0 then (if bs.length < s.pos + n then ([], { s with err := 6, ea := a }) else ((bs.drop s.pos).take n, { s with pos := s.pos + n })) else ([], s)
def zqQ (s : RSt) : Int := if s.err = 0 then s.pos else 0
theorem XjZ (bs : List UInt8) (s : RSt) (h : s.err ≠ 0) : YLr bs s = (0, s) := by rw [YLr, if_neg h]
theorem K9d (bs : List UInt8) (s : RSt) : 0 ≤ (YLr bs s).1 ∧ (YLr bs s).1 ≤ 9223372036854775807 := by
 unfold YLr
 split
 ·split
  ·simp
  ·rename_i c _
   have := c.toNat_lt
   unfold Xcg
   split
   ·simp
   ·split
    ·simp
    ·split
     ·simp only; omega
     ·dsimp only
      split
      ·simp
      ·simp only; omega
 ·simp
def Qdr (bs : List UInt8) (s : RSt) (most : Int) : List UInt8 × RSt := KgB bs (K1u bs s most).2 (K1u bs s most).1.toNat (zqQ s)
theorem ZzG (bs : List UInt8) (s : RSt) (most : Int) : 0 ≤ (K1u bs s most).1 ∧ (K1u bs s most).1 ≤ 9223372036854775807 := by
 have h := K9d bs s
 unfold K1u
 split
 ·split
  ·exact h
  ·exact h
 ·simp
def qPL (bs : List UInt8) (s : RSt) : Int := if s.err = 0 then (bs.length : Int) - s.pos else 0
def qSQ (bs : List UInt8) (s : RSt) : Int × Int := if s.err = 0 ∧ s.pos < bs.length then (4, s.pos) else (s.err, s.ea)
def rdID (bs : List UInt8) (s : RSt) : List UInt8 × RSt := (if (KgB bs s 32 (zqQ s)).1.length = 32 then (KgB bs s 32 (zqQ s)).1 else List.replicate 32 0, (KgB bs s 32 (zqQ s)).2)
theorem Kyd (bs : List UInt8) (s : RSt) (n : Nat) (a : Int) : (KgB bs s n a).1.length = n ∨ (KgB bs s n a).1 = [] := by
 unfold KgB
 split
 ·split
  ·exact .inr rfl
  ·left; simp only [List.length_take, List.length_drop]; omega
 ·exact .inr rfl
def Has (bs : List UInt8) (pos : Nat) (l : List UInt8) : Prop := ∃ x, bs.drop pos = l ++ x ∧ pos ≤ bs.length
def Short (bs : List UInt8) (pos : Nat) (l : List UInt8) : Prop := ∃ x, x ≠ [] ∧ l = bs.drop pos ++ x ∧ pos ≤ bs.length
theorem Has.le {bs : List UInt8} {pos : Nat} {l : List UInt8} (h : Has bs pos l) : pos + l.length ≤ bs.length := by
 obtain ⟨x, h1, h2⟩ := h
 have := congrArg List.length h1
 simp at this
 omega
theorem Short.len {bs : List UInt8} {pos : Nat} {l : List UInt8} (h : Short bs pos l) : bs.length < pos + l.length := by
 obtain ⟨x, h0, h1, h2⟩ := h
 have := congrArg List.length h1
 have h3 : x.length ≠ 0 := fun e => h0 (List.length_eq_zero_iff.1 e)
 simp at this
 omega
theorem XaF (x : Int) : ((UInt8.ofInt x).toNat : Int) = x % 256 := by
 simp only [UInt8.ofInt, UInt8.toNat_ofNat']
 omega
theorem ZYe (n : Int) (k : Nat) : (List.range (k + 1)).map (qh9 n (k + 1)) = (List.range k).map (qh9 (n / 256) k) ++ [UInt8.ofInt n] := by
 rw [List.range_succ, List.map_append]
 congr 1
 ·apply List.map_congr_left
  intro i hi
  rw [List.mem_range] at hi
  unfold qh9
  rw [show k + 1 - 1 - i = (k - 1 - i) + 1 by omega, show 8 * (k - 1 - i + 1) = 8 + 8 * (k - 1 - i) by omega, Int.pow_add, ← Int.ediv_ediv_of_nonneg (by decide)]
  rfl
 ·simp [qh9]
theorem zxj : ∀ (m : Nat) (l : List UInt8), l.length = m → (List.range l.length).map (qh9 (qA9 l) l.length) = l
 | 0, l, h => by
  have := List.length_eq_zero_iff.1 h
  subst this
  rfl
 | m + 1, l, h => by
  obtain ⟨l, x, rfl⟩ : ∃ l' x, l = l' ++ [x] := ⟨l.dropLast, l.getLast (by intro e; simp [e] at h), (List.dropLast_concat_getLast _).symm⟩
  have ih := zxj m l (by simpa using h)
  rw [List.length_append, List.length_singleton, ZYe, ZvB]
  have hx := x.toNat_lt
  rw [show (((qA9 l * 256 + x.toNat : Nat) : Int) / 256) = (qA9 l : Int) by omega, ih]
  congr 1
  apply congrArg (· :: [])
  apply UInt8.toNat_inj.1
  have := XaF ((qA9 l * 256 + x.toNat : Nat) : Int)
  omega
theorem zhA (l : List UInt8) : (List.range l.length).map (qh9 (qA9 l) l.length) = l := zxj _ l rfl
theorem Jew {n : Int} (h : Xwj n = 0) : n < 192 := by
 unfold Xwj at h
 split at h
 ·assumption
 ·have := Qf5 n 7 1
  omega
theorem JCw (bs : List UInt8) (s : RSt) (n : Nat) (a : Int) (h : s.err ≠ 0) : KgB bs s n a = ([], s) := by rw [KgB, if_neg h]
theorem KX4 (bs : List UInt8) (s : RSt) (most : Int) (h : s.err ≠ 0) : K1u bs s most = (0, s) := by rw [K1u, if_neg h]
theorem J6G (bs : List UInt8) (s : RSt) (most : Int) (h : s.err ≠ 0) : Qdr bs s most = ([], s) := by
 unfold Qdr
 rw [KX4 _ _ _ h, JCw _ _ _ _ h]
theorem Xu7 (bs : List UInt8) (s : RSt) (h : s.err ≠ 0) : (rdID bs s).2 = s := by
 unfold rdID
 rw [JCw _ _ _ _ h]
def RGood (bs : List UInt8) (s : RSt) : Prop := s.pos ≤ bs.length ∧ (s.err ≠ 0 → 0 ≤ s.ea ∧ s.ea ≤ bs.length)
theorem RGood.fail {bs : List UInt8} {s : RSt} (h : RGood bs s) (e a : Int) (h0 : 0 ≤ a) (h1 : a ≤ bs.length) : RGood bs (s.fail e a) := by
 unfold RSt.fail
 split
 ·exact ⟨h.1, fun _ => ⟨h0, h1⟩⟩
 ·exact h
theorem KX6 {bs : List UInt8} {s : RSt} (h : RGood bs s) : 0 ≤ zqQ s ∧ zqQ s ≤ bs.length := by
 unfold zqQ
 have := h.1
 split <;> omega
theorem RGood.num {bs : List UInt8} {s : RSt} (h : RGood bs s) : RGood bs (YLr bs s).2 := by
 have h1 := h.1
 unfold YLr
 split
 ·split
  ·exact ⟨h1, fun _ => by simp; omega⟩
  ·unfold Xcg
   split
   ·exact ⟨h1, fun _ => by simp; omega⟩
   split
   ·exact ⟨h1, fun _ => by simp; omega⟩
   split
   ·exact ⟨by simp; omega, fun e => absurd ‹s.err = 0› e⟩
   ·simp only []
    split
    ·exact ⟨h1, fun _ => by simp; omega⟩
    ·exact ⟨by simp; omega, fun e => absurd ‹s.err = 0› e⟩
 ·exact h
theorem RGood.take {bs : List UInt8} {s : RSt} (h : RGood bs s) (n : Nat) (a : Int) (h0 : 0 ≤ a) (h1 : a ≤ bs.length) : RGood bs (KgB bs s n a).2 := by
 have h2 := h.1
 unfold KgB
 split
 ·split
  ·exact ⟨h2, fun _ => ⟨h0, h1⟩⟩
  ·rename_i hs _
   exact ⟨by simp; omega, fun e => absurd hs e⟩
 ·exact h
theorem RGood.many {bs : List UInt8} {s : RSt} (h : RGood bs s) (most : Int) : RGood bs (K1u bs s most).2 := by
 have h1 := h.1
 unfold K1u
 split
 ·split
  ·exact h.num.fail _ _ (by omega) (by omega)
  ·exact h.num
 ·exact h
theorem RGood.bytes {bs : List UInt8} {s : RSt} (h : RGood bs s) (most : Int) : RGood bs (Qdr bs s most).2 :=
 (h.many most).take _ _ (KX6 h).1 (KX6 h).2
theorem RGood.id {bs : List UInt8} {s : RSt} (h : RGood bs s) : RGood bs (rdID bs s).2 := h.take _ _ (KX6 h).1 (KX6 h).2
theorem JlL {n : Int} (h : n < 192) : Xwj n = 0 := by
 unfold Xwj
 rw [if_pos h]
theorem q94 {bs : List UInt8} {s : RSt} (hs : s.err = 0) (h : (YLr bs s).2.err = 0) :
  Has bs s.pos (JDl (YLr bs s).1) ∧ (YLr bs s).2 = { s with pos := s.pos + (JDl (YLr bs s).1).length } := by
 unfold YLr at h ⊢
 rw [if_pos hs] at h ⊢
 cases hc : bs[s.pos]? with
 | none => rw [hc] at h; cases h
 | some c =>
  rw [hc] at h
  have hlt := (List.getElem?_eq_some_iff.1 hc)
  obtain ⟨hl, he⟩ := hlt
  have hd : bs.drop s.pos = c :: bs.drop (s.pos + 1) := by rw [List.drop_eq_getElem_cons hl, he]
  have hcl := c.toNat_lt
  show Has bs s.pos (JDl (Xcg bs s c.toNat).1) ∧ (Xcg bs s c.toNat).2 = { s with pos := s.pos + (JDl (Xcg bs s c.toNat).1).length }
  have h' : (Xcg bs s c.toNat).2.err = 0 := h
  clear h
  unfold Xcg at h' ⊢
  by_cases h1 : 199 < c.toNat
  ·rw [if_pos h1] at h'
   cases h'
  rw [if_neg h1] at h' ⊢
  by_cases h2 : bs.length < s.pos + 1 + (c.toNat - 191)
  ·rw [if_pos h2] at h'
   cases h'
  rw [if_neg h2] at h' ⊢
  by_cases h3 : c.toNat < 192
  ·rw [if_pos h3] at h' ⊢
   have e1 : JDl (c.toNat : Int) = [c] := by
    unfold JDl
    rw [if_pos (JlL (by omega))]
    have := XaF (c.toNat : Int)
    congr 1
    apply UInt8.toNat_inj.1
    omega
   simp only [e1]
   exact ⟨⟨_, hd, by omega⟩, rfl⟩
  rw [if_neg h3] at h' ⊢
  simp only [] at h' ⊢
  have hlen : ((bs.drop (s.pos + 1)).take (c.toNat - 191)).length = c.toNat - 191 := by rw [List.length_take, List.length_drop]; omega
  have hsplit : bs.drop (s.pos + 1) = (bs.drop (s.pos + 1)).take (c.toNat - 191) ++ (bs.drop (s.pos + 1)).drop (c.toNat - 191) := (List.take_append_drop _ _).symm
  have hnb := zhA ((bs.drop (s.pos + 1)).take (c.toNat - 191))
  rw [hlen] at hnb
  generalize (bs.drop (s.pos + 1)).take (c.toNat - 191) = l at *
  by_cases h4 : 9223372036854775808 ≤ qA9 l ∨ Xwj (qA9 l) ≠ c.toNat - 191
  ·rw [if_pos h4] at h'
   cases h'
  rw [if_neg h4] at h' ⊢
  have h5 : Xwj (qA9 l) = c.toNat - 191 := by
   apply Classical.byContradiction
   intro hne
   exact h4 (.inr hne)
  have e1 : JDl (qA9 l : Int) = c :: l := by
   unfold JDl
   have hc1 : UInt8.ofInt (191 + ((c.toNat - 191 : Nat) : Int)) = c := by
    apply UInt8.toNat_inj.1
    have := XaF (191 + ((c.toNat - 191 : Nat) : Int))
    omega
   rw [if_neg (by omega), h5, hnb, hc1]
  simp only [e1]
  refine ⟨⟨(bs.drop (s.pos + 1)).drop (c.toNat - 191), ?_, by omega⟩, ?_⟩
  ·rw [hd]
   exact congrArg (c :: ·) hsplit
  ·simp [hlen]
   omega
theorem ZDy {bs : List UInt8} {s : RSt} (n : Nat) (a : Int) (hs : s.err = 0) (hg : RGood bs s) (h : (KgB bs s n a).2.err = 0) :
  Has bs s.pos (KgB bs s n a).1 ∧ (KgB bs s n a).1.length = n ∧ (KgB bs s n a).2 = { s with pos := s.pos + n } := by
 have h1 := hg.1
 unfold KgB at h ⊢
 rw [if_pos hs] at h ⊢
 split at h
 ·cases h
 ·rename_i hn
  rw [if_neg hn]
  refine ⟨⟨(bs.drop s.pos).drop n, (List.take_append_drop _ _).symm, h1⟩, ?_, rfl⟩
  rw [List.length_take, List.length_drop]
  omega
theorem QzF {bs : List UInt8} {s : RSt} (most : Int) (hs : s.err = 0) (h : (K1u bs s most).2.err = 0) :
  Has bs s.pos (JDl (K1u bs s most).1) ∧ (K1u bs s most).2 = { s with pos := s.pos + (JDl (K1u bs s most).1).length } ∧ (K1u bs s most).1 ≤ most := by
 unfold K1u at h ⊢
 rw [if_pos hs] at h ⊢
 by_cases hm : most < (YLr bs s).1
 ·rw [if_pos hm] at h
  exfalso
  unfold RSt.fail at h
  split at h
  ·cases h
  ·rename_i hne
   exact hne h
 ·rw [if_neg hm] at h ⊢
  exact ⟨(q94 hs h).1, (q94 hs h).2, by omega⟩
theorem Has.join {bs : List UInt8} {pos : Nat} {a b : List UInt8} (h : Has bs pos a) (h2 : Has bs (pos + a.length) b) : Has bs pos (a ++ b) := by
 obtain ⟨x, h1, h0⟩ := h
 obtain ⟨y, h3, _⟩ := h2
 refine ⟨y, ?_, h0⟩
 rw [← List.drop_drop, h1, List.drop_left] at h3
 rw [h1, h3, List.append_assoc]
theorem QvO {bs : List UInt8} {s : RSt} (hs : s.err = 0) (hg : RGood bs s) (h : (rdID bs s).2.err = 0) :
  Has bs s.pos (rdID bs s).1 ∧ (rdID bs s).2 = { s with pos := s.pos + (rdID bs s).1.length } := by
 obtain ⟨t1, t2, t3⟩ := ZDy 32 (zqQ s) hs hg h
 unfold rdID
 rw [if_pos t2]
 exact ⟨t1, by rw [t2]; exact t3⟩
structure De where
 media : Int
 id : List UInt8
 size : Int
 plat : List UInt8
deriving instance DecidableEq for De
def deZ : De := ⟨0, List.replicate 32 0, 0, []⟩
def deEq (a b : De) : Bool := (a.media == b.media) && ((a.id == b.id) && ((a.size == b.size) && (a.plat == b.plat)))
theorem J2S (a b : De) : deEq a b = true ↔ a = b := by
 obtain ⟨a1, a2, a3, a4⟩ := a
 obtain ⟨b1, b2, b3, b4⟩ := b
 simp [deEq]
structure Man where
 kind : Int
 title : List UInt8
 config : De
 layers : List De
 subs : List De
def Q55 (m : Man) : Bool := if m.kind = 3 then decide (m.subs.length = 0) else if m.kind = 4 then decide (m.layers.length = 0) && deEq m.config deZ else false
def allD (m : Man) : List De := (if m.kind = 3 then [m.config] else []) ++ m.layers ++ m.subs
def negD (d : De) : Bool := decide (d.media < 0) || decide (d.size < 0)
def wN (lim : Int) (r : List UInt8 × Int) (n : Int) : List UInt8 × Int := wput lim r.1 r.2 (JDl n) (decide (0 ≤ n))
def wT (lim : Int) (r : List UInt8 × Int) (s : List UInt8) : List UInt8 × Int := wput lim r.1 r.2 (JDl s.length ++ s) true
def wI (lim : Int) (r : List UInt8 × Int) (d : List UInt8) : List UInt8 × Int := wput lim r.1 r.2 d true
def wD (lim : Int) (r : List UInt8 × Int) (d : De) : List UInt8 × Int := wT lim (wN lim (wI lim (wN lim r d.media) d.id) d.size) d.plat
theorem ZYd (lim : Int) (bs : List UInt8) (err : Int) (enc : List UInt8) (ok : Bool) (h : (bs.length : Int) ≤ lim) : ((wput lim bs err enc ok).1.length : Int) ≤ lim := by
 unfold wput
 split
 ·split
  ·split
   ·exact h
   ·simp only [List.length_append]
    omega
  ·exact h
 ·exact h
def LimOk (lim : Int) (r : List UInt8 × Int) : Prop := lim ≤ 67108864 ∧ (r.1.length : Int) ≤ lim
theorem LimOk.len {lim : Int} {r : List UInt8 × Int} (h : LimOk lim r) : r.1.length ≤ 4294967296 := by
 have := h.1
 have := h.2
 omega
def wC (lim : Int) (r : List UInt8 × Int) (m : Man) : List UInt8 × Int := if m.kind = 3 then wD lim r m.config else r
def wDs (lim : Int) (r : List UInt8 × Int) (ds : List De) : List UInt8 × Int := ds.foldl (wD lim) r
def wR (lim : Int) (r : List UInt8 × Int) (ds : List De) : List UInt8 × Int := wDs lim (wN lim r ds.length) ds
theorem Zhv (lim : Int) (r : List UInt8 × Int) (ds : List De) {k : Nat} {d : De} (hd : ds[k]? = some d) : wDs lim r (ds.take (k + 1)) = wD lim (wDs lim r (ds.take k)) d := by
 unfold wDs
 rw [List.take_add_one, hd, List.foldl_append]
 rfl
def seqR (lim : Int) (r : List UInt8 × Int) (m : Man) : Nat → List UInt8 × Int
 | 0 => r
 | 1 => wN lim r 77
 | 2 => wN lim (wN lim r 77) m.kind
 | 3 => wT lim (wN lim (wN lim r 77) m.kind) m.title
 | 4 => wC lim (wT lim (wN lim (wN lim r 77) m.kind) m.title) m
 | _ => wR lim (wC lim (wT lim (wN lim (wN lim r 77) m.kind) m.title) m) (m.layers ++ m.subs)
def menc (m : Man) : List UInt8 × Int :=
 if Q55 m = true then
  if (allD m).any negD = true then ([], 3)
  else if 16 < m.layers.length ∨ 8 < m.subs.length then ([], 4)
  else (XJQ (seqR 4096 ([], 0) m 5).2 (seqR 4096 ([], 0) m 5).1, (seqR 4096 ([], 0) m 5).2)
 else ([], 20)
def rdDe (bs : List UInt8) (s : RSt) : De × RSt :=
 let a := YLr bs s
 let b := rdID bs a.2
 let c := YLr bs b.2
 let d := Qdr bs c.2 4096
 (⟨a.1, b.1, c.1, d.1⟩, d.2)
theorem ztf (bs : List UInt8) (s : RSt) : (rdID bs s).1.length = 32 := by
 unfold rdID
 split <;> simp_all
def YLQ (bs : List UInt8) (s : RSt) : Nat → List De × RSt
 | 0 => ([], s)
 | n + 1 => ((YLQ bs s n).1 ++ [(rdDe bs (YLQ bs s n).2).1], (rdDe bs (YLQ bs s n).2).2)
theorem J1Y (bs : List UInt8) (s : RSt) : ∀ n, (YLQ bs s n).1.length = n
 | 0 => rfl
 | n + 1 => by simp [YLQ, J1Y bs s n]
def manZ : Man := ⟨0, [], deZ, [], []⟩
def Knm (bs : List UInt8) (s : RSt) (sz : Int) : (Man × Int × Int) × RSt :=
 let a := YLr bs s
 if a.1 = 77 then
  let k := YLr bs a.2
  if k.1 = 3 then
   let t := Qdr bs k.2 4096
   let c := rdDe bs t.2
   let n := YLr bs c.2
   if 16 < n.1 then ((⟨k.1, t.1, c.1, [], []⟩, 4, sz - qPL bs c.2), n.2)
   else ((⟨k.1, t.1, c.1, (YLQ bs n.2 n.1.toNat).1, []⟩, 0, 0), (YLQ bs n.2 n.1.toNat).2)
  else if k.1 = 4 then
   let t := Qdr bs k.2 4096
   let n := YLr bs t.2
   if 8 < n.1 then ((⟨k.1, t.1, deZ, [], []⟩, 4, sz - qPL bs t.2), n.2)
   else ((⟨k.1, t.1, deZ, [], (YLQ bs n.2 n.1.toNat).1⟩, 0, 0), (YLQ bs n.2 n.1.toNat).2)
  else ((⟨k.1, [], deZ, [], []⟩, 20, 0), k.2)
 else ((manZ, 20, 0), a.2)
def qwg (bs : List UInt8) (s5 : RSt) (T : List UInt8) (c : De) (N : Nat) (at0 : Int) : (Man × Int × Int) × RSt := if 16 < N then ((⟨3, T, c, [], []⟩, 4, at0), s5) else ((⟨3, T, c, (YLQ bs s5 N).1, []⟩, 0, 0), (YLQ bs s5 N).2)
def QLR (bs : List UInt8) (s5 : RSt) (T : List UInt8) (N : Nat) (at0 : Int) : (Man × Int × Int) × RSt := if 8 < N then ((⟨4, T, deZ, [], []⟩, 4, at0), s5) else ((⟨4, T, deZ, [], (YLQ bs s5 N).1⟩, 0, 0), (YLQ bs s5 N).2)
theorem Qrt {bs : List UInt8} {s : RSt} {sz : Int} {s1 s2 s3 s4 s5 : RSt} {T : List UInt8} {c : De} {N : Nat} (e1 : YLr bs s = (77, s1)) (e2 : YLr bs s1 = (3, s2)) (e3 : Qdr bs s2 4096 = (T, s3)) (e4 : rdDe bs s3 = (c, s4)) (e5 : YLr bs s4 = ((N : Int), s5)) : Knm bs s sz = qwg bs s5 T c N (sz - qPL bs s4) := by
 unfold Knm qwg
 simp only [e1, e2, e3, e4, e5, Int.toNat_natCast, ↓reduceIte]
 by_cases h16 : 16 < N
 ·rw [if_pos h16, if_pos (by omega : (16 : Int) < (N : Int))]
 ·rw [if_neg h16, if_neg (by omega : ¬ (16 : Int) < (N : Int))]
theorem ZcF {bs : List UInt8} {s : RSt} {sz : Int} {s1 s2 s3 s5 : RSt} {T : List UInt8} {N : Nat} (e1 : YLr bs s = (77, s1)) (e2 : YLr bs s1 = (4, s2)) (e3 : Qdr bs s2 4096 = (T, s3)) (e5 : YLr bs s3 = ((N : Int), s5)) : Knm bs s sz = QLR bs s5 T N (sz - qPL bs s3) := by
 unfold Knm QLR
 simp only [e1, e2, e3, e5, Int.toNat_natCast, ↓reduceIte, (by decide : ¬ (4 : Int) = 3)]
 by_cases h16 : 8 < N
 ·rw [if_pos h16, if_pos (by omega : (8 : Int) < (N : Int))]
 ·rw [if_neg h16, if_neg (by omega : ¬ (8 : Int) < (N : Int))]
theorem qo2 (bs : List UInt8) (s : RSt) : ∃ (N : Nat) (s' : RSt), YLr bs s = ((N : Int), s') := ⟨(YLr bs s).1.toNat, (YLr bs s).2, Prod.ext (Int.toNat_of_nonneg (K9d _ _).1).symm rfl⟩
def Z3n (bs : List UInt8) (s : RSt) : Bool := decide ((qSQ bs s).1 ≠ 0) && decide (qPL bs s = 0)
def decF (bs : List UInt8) (x : (Man × Int × Int) × RSt) : Int × Int :=
 if Z3n bs x.2 = true then qSQ bs x.2 else if x.1.2 = (0, 0) then qSQ bs x.2 else x.1.2
def mdec (bs : List UInt8) : Man × Int × Int :=
 if 4096 < bs.length then (manZ, 4, 4096) else
 if decF bs (Knm bs ⟨0, 0, 0⟩ bs.length) = (0, 0) then ((Knm bs ⟨0, 0, 0⟩ bs.length).1.1, 0, 0) else (manZ, decF bs (Knm bs ⟨0, 0, 0⟩ bs.length))
end Go.Proofs.Ytpoojfnmhnedpaa
end
section
namespace Go.Proofs.Ytpoojfnmhnedpaa
section
variable {α β γ : Type}
def Rdr (f : List UInt8 → RSt → α × RSt) (e : List UInt8) (v : α) : Prop :=
 (∀ bs s, s.err = 0 → Has bs s.pos e → f bs s = (v, { s with pos := s.pos + e.length })) ∧
 (∀ bs s, s.err = 0 → Short bs s.pos e → (f bs s).2.err = 6) ∧
 (∀ bs s, s.err ≠ 0 → (f bs s).2 = s)
theorem Rdr.map {f : List UInt8 → RSt → α × RSt} {e : List UInt8} {v : α} (hf : Rdr f e v) (φ : α → β) : Rdr (fun bs s => (φ (f bs s).1, (f bs s).2)) e (φ v) :=
 ⟨fun bs s hs h => by dsimp only; rw [hf.1 bs s hs h], fun bs s hs h => hf.2.1 bs s hs h, fun bs s hs => hf.2.2 bs s hs⟩
structure DeIn (d : De) : Prop where
 m0 : 0 ≤ d.media
 m1 : d.media ≤ 9223372036854775807
 id : d.id.length = 32
 s0 : 0 ≤ d.size
 s1 : d.size ≤ 9223372036854775807
 pl : d.plat.length ≤ 4096
def XYK (d : De) : List UInt8 := JDl d.media ++ (d.id ++ (JDl d.size ++ (JDl d.plat.length ++ d.plat)))
def QRf (ds : List De) : List UInt8 := ds.flatMap XYK
theorem qL0 (ds : List De) (d : De) : QRf (ds ++ [d]) = QRf ds ++ XYK d := by simp [QRf]
def KgP (m : Man) : List UInt8 := JDl 77 ++ (JDl m.kind ++ ((JDl m.title.length ++ m.title) ++ ((if m.kind = 3 then XYK m.config else []) ++ (JDl (m.layers ++ m.subs).length ++ QRf (m.layers ++ m.subs)))))
structure ManIn (m : Man) : Prop where
 kind : Q55 m = true
 all : ∀ d ∈ allD m, DeIn d
 lay : m.layers.length ≤ 16
 sub : m.subs.length ≤ 8
 tit : m.title.length ≤ 4096
theorem Jc2 {m : Man} (h : Q55 m = true) (h3 : ¬ m.kind = 3) : m.kind = 4 ∧ m.layers = [] ∧ m.config = deZ := by
 unfold Q55 at h
 rw [if_neg h3] at h
 split at h
 ·rename_i h4
  rw [Bool.and_eq_true, decide_eq_true_eq, J2S] at h
  exact ⟨h4, List.eq_nil_of_length_eq_zero h.1, h.2⟩
 ·cases h
end
end Go.Proofs.Ytpoojfnmhnedpaa
end
section
namespace Go.Proofs.Ytpoojfnmhnedpaa
section
variable {lim : Int} {r : List UInt8 × Int} {t : List UInt8} {m : Man}
def WS (lim : Int) (r : List UInt8 × Int) (t : List UInt8) : Prop := (r = (t, 0) ∧ (t.length : Int) ≤ lim) ∨ (r.2 = 4 ∧ lim < (t.length : Int))
theorem WS.put (h : WS lim r t) (enc : List UInt8) : WS lim (wput lim r.1 r.2 enc true) (t ++ enc) := by
 unfold WS wput
 rw [List.length_append]
 rcases h with ⟨rfl, h⟩ | ⟨h1, h2⟩
 ·dsimp only
  rw [if_pos rfl, if_pos rfl]
  by_cases q : lim < t.length + enc.length
  ·rw [if_pos q]
   exact .inr ⟨rfl, by omega⟩
  ·rw [if_neg q]
   exact .inl ⟨rfl, by omega⟩
 ·rw [h1, if_neg (by decide)]
  exact .inr ⟨rfl, by omega⟩
theorem WS.id (h : WS lim r t) (s : List UInt8) : WS lim (wI lim r s) (t ++ s) := h.put _
end
end Go.Proofs.Ytpoojfnmhnedpaa
end
