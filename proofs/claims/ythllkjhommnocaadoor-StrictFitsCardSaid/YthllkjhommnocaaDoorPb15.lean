/- Part 15 of what the laws' proofs rest on. No condition. -/
import Derived.Test.YthllkjhommnocaaDoorPb14
set_option linter.all false
section
namespace Go.Proofs.YthllkjhommnocaaDoor
open Go.RowKit
section
variable {T : Env} {fr : List AV} {h : List AB}
theorem Zit (a b : Nat) : Nat.blt a b = decide (a < b) := by
 by_cases e : a < b
 ·rw [decide_eq_true e, (show Nat.blt a b = true from by rw [Nat.blt_eq]; exact e)]
 ·rw [decide_eq_false e]
  cases hb : Nat.blt a b with
  | true => exact absurd (by rw [Nat.blt_eq] at hb; exact hb) e
  | false => rfl
theorem JNR (a b : Nat) : Nat.ble a b = decide (a ≤ b) := by
 by_cases e : a ≤ b
 ·rw [decide_eq_true e, (show Nat.ble a b = true from by rw [Nat.ble_eq]; exact e)]
 ·rw [decide_eq_false e]
  cases hb : Nat.ble a b with
  | true => exact absurd (by rw [Nat.ble_eq] at hb; exact hb) e
  | false => rfl
theorem zYO (n : Nat) : memN n [] = false := _root_.id rfl
theorem ZYj (n m : Nat) (l : List Nat) : memN n (m :: l) = (decide (n = m) || memN n l) := by
 rw [memN]
 by_cases e : n = m
 ·subst e
  simp
 ·have : Nat.beq m n = false := by
   cases hb : Nat.beq m n with
   | false => rfl
   | true => exact absurd (Nat.eq_of_beq_eq_true hb).symm e
  rw [this]
  simp [e]
theorem qfU (n : Nat) : ∀ (l l' : List Nat), memN n (l ++ l') = (memN n l || memN n l')
 | [], l' => rfl
 | m :: l, l' => by rw [List.cons_append, ZYj, ZYj, qfU n l l', Bool.or_assoc]
theorem qRX (id len0 anc n : Nat) (past : List Pt) : memN id (seen len0 anc past n) = (decide (id < n) && qOk len0 0 0 anc past id) := by
 cases h1 : memN id (seen len0 anc past n) with
 | true =>
  have := List.mem_filter.1 (zKV.1 h1)
  rw [this.2, decide_eq_true (List.mem_range.1 this.1)]
  rfl
 | false =>
  cases h2 : (decide (id < n) && qOk len0 0 0 anc past id) with
  | false => rfl
  | true =>
   simp only [Bool.and_eq_true, decide_eq_true_eq] at h2
   have : memN id (seen len0 anc past n) = true := zKV.2 (List.mem_filter.2 ⟨List.mem_range.2 h2.1, h2.2⟩)
   rw [h1] at this
   cases this
theorem zir (len0 lo hi anc : Nat) (past : List Pt) (id : Nat) : qOk len0 lo hi anc past id = (decide (id < len0) || (decide (lo ≤ id) && decide (id < hi)) || past.any fun p => bit p.k anc && decide (p.lo ≤ id) && decide (id < p.hi)) := by
 simp only [qOk, Zit, JNR]
theorem ZD6 (k m : Nat) : bit k m = decide (m / 2 ^ k % 2 = 1) := by
 rw [XAT, Nat.testBit_eq_decide_div_mod_eq]
theorem z93 (len0 anc : Nat) (past : List Pt) (ws : List Nat) (p : Pt) : qUm len0 anc past ws p = (bit p.k anc || (p.ws.all (fun id => !qOk len0 0 0 anc past id) && (decide (p.hi ≤ p.lo) || (decide (len0 ≤ p.lo) && past.all fun p' => !bit p'.k anc || decide (p'.hi ≤ p.lo) || decide (p.hi ≤ p'.lo))) && ws.all fun id => !X72 p id && !memN id (p.rs ++ p.ws))) := by
 simp only [qUm, JNR]
theorem QaH (p : Pt) (id : Nat) : X72 p id = (memN id p.ws || (decide (p.lo ≤ id) && decide (id < p.hi))) := by
 simp only [X72, Zit, JNR]
def mskL (base c anc : Nat) (past : List Pt) (ws : List Nat) : Nat → List AB → List AB
 | _, [] => []
 | i, B :: l => (if memN (base + i) ws then B else if qOk (base + c) 0 0 anc past (base + i) then B.freeze else .dead) :: mskL base c anc past ws (i + 1) l
theorem qT2 (base c anc : Nat) (past : List Pt) (ws : List Nat) : ∀ (l : List AB) (i j : Nat), (mskL base c anc past ws i l)[j]? = (l[j]?).map fun B => if memN (base + (i + j)) ws then B else if qOk (base + c) 0 0 anc past (base + (i + j)) then B.freeze else .dead
 | [], i, j => by simp [mskL]
 | B :: l, i, 0 => by simp [mskL]
 | B :: l, i, j + 1 => by
  simp only [mskL, List.getElem?_cons_succ]
  rw [qT2 base c anc past ws l (i + 1) j, show i + 1 + j = i + (j + 1) by omega]
theorem QTM (base c anc : Nat) (past : List Pt) (ws : List Nat) (i : Nat) : mskL base c anc past ws i [] = [] := _root_.id rfl
theorem YK8 (base c anc : Nat) (past : List Pt) (ws : List Nat) (i : Nat) (B : AB) (l : List AB) : mskL base c anc past ws i (B :: l) = (if memN (base + i) ws then B else if qOk (base + c) 0 0 anc past (base + i) then B.freeze else .dead) :: mskL base c anc past ws (i + 1) l := _root_.id rfl
theorem zaz (fl m : Bool) (xs : List AV) : (AB.blk fl m xs).freeze = .blk fl false xs := _root_.id rfl
theorem QQ7 : AB.dead.freeze = .dead := _root_.id rfl
def mrgL (base : Nat) (ws : List Nat) : Nat → List AB → List AB → List AB
 | _, G, [] => G
 | i, [], B :: l => (if memN (base + i) ws then .dead else B) :: mrgL base ws (i + 1) [] l
 | i, C :: G, B :: l => (if memN (base + i) ws then C else B) :: mrgL base ws (i + 1) G l
theorem qNu (base : Nat) (ws : List Nat) : ∀ (l G : List AB) (i j : Nat), (mrgL base ws i G l)[j]? = if j < l.length then (if base + (i + j) ∈ ws then some ((G[j]?).getD .dead) else l[j]?) else G[j]?
 | [], G, i, j => by simp [mrgL]
 | B :: l, [], i, 0 => by
  by_cases hm : base + i ∈ ws <;> simp [mrgL, zKV, hm]
 | B :: l, C :: G, i, 0 => by
  by_cases hm : base + i ∈ ws <;> simp [mrgL, zKV, hm]
 | B :: l, [], i, j + 1 => by
  have := qNu base ws l [] (i + 1) j
  simp only [mrgL, List.getElem?_cons_succ, List.length_cons, Nat.add_lt_add_iff_right] at this ⊢
  rw [this, show i + 1 + j = i + (j + 1) by omega]
  simp
 | B :: l, C :: G, i, j + 1 => by
  have := qNu base ws l G (i + 1) j
  simp only [mrgL, List.getElem?_cons_succ, List.length_cons, Nat.add_lt_add_iff_right] at this ⊢
  rw [this, show i + 1 + j = i + (j + 1) by omega]
theorem XNQ (ws : List Nat) (G l : List AB) (hw : (ws.all fun id => decide (h.length ≤ id)) = true) : Yjq ws (h ++ G) 0 (h ++ l) = h ++ mrgL h.length ws 0 G l := by
 have h1 : ∀ j, j < h.length → j ∉ ws := fun j hj hm => by
  have := List.all_eq_true.1 hw j hm
  simp only [decide_eq_true_eq] at this
  omega
 refine List.ext_getElem? fun i => ?_
 rw [zcu, Nat.zero_add]
 by_cases hi : i < h.length
 ·rw [if_pos (by rw [List.length_append]; omega), if_neg (h1 i hi), List.getElem?_append_left hi, List.getElem?_append_left hi]
 ·rw [List.getElem?_append_right (by omega), List.getElem?_append_right (by omega), List.getElem?_append_right (by omega), qNu, List.length_append, show h.length + (0 + (i - h.length)) = i by omega]
  by_cases hl : i - h.length < l.length
  ·rw [if_pos hl, if_pos (by omega)]
  ·rw [if_neg hl, if_neg (by omega)]
theorem zud (base : Nat) (ws : List Nat) (i : Nat) (G : List AB) : mrgL base ws i G [] = G := by cases G <;> rfl
theorem Z2p (base : Nat) (ws : List Nat) (i : Nat) (C : AB) (G : List AB) (B : AB) (l : List AB) : mrgL base ws i (C :: G) (B :: l) = (if memN (base + i) ws then C else B) :: mrgL base ws (i + 1) G l := _root_.id rfl
theorem zwn (l : List AB) (n : Nat) : (h ++ l).drop (h.length + n) = l.drop n := by
 rw [List.drop_append, List.drop_eq_nil_of_le (by omega), List.nil_append, Nat.add_sub_cancel_left]
theorem ZXZ (l : List AB) (n : Nat) : (h ++ l).getD (h.length + n) .dead = l.getD n .dead := by
 rw [List.getD_eq_getElem?_getD, List.getElem?_append_right (by omega), Nat.add_sub_cancel_left, List.getD_eq_getElem?_getD]
theorem QZu (B : AB) (l : List AB) : (B :: l).getD 0 .dead = B := _root_.id rfl
theorem qYN (B : AB) (l : List AB) (n : Nat) : (B :: l).getD (n + 1) .dead = l.getD n .dead := by simp
theorem ZYp (q : Nat → Bool) (m : Bool) (xs : List AV) : (AB.blk true m xs).ok q = true := _root_.id rfl
theorem z3q (q : Nat → Bool) (m : Bool) (xs : List AV) : (AB.blk false m xs).ok q = okL q xs := _root_.id rfl
theorem Jmj (q : Nat → Bool) : AB.dead.ok q = true := _root_.id rfl
theorem ok_i (q : Nat → Bool) (k : IntKind) (n : Int) : (AV.i k n).ok q = true := by simp [AV.ok]
theorem ok_b (q : Nat → Bool) (x : Bool) : (AV.b x).ok q = true := by simp [AV.ok]
theorem ok_s (q : Nat → Bool) (x : List UInt8) : (AV.s x).ok q = true := by simp [AV.ok]
theorem JEQ (q : Nat → Bool) : AV.ns.ok q = true := by simp [AV.ok]
theorem KYI (q : Nat → Bool) : AV.np.ok q = true := by simp [AV.ok]
theorem XYT (q : Nat → Bool) : AV.nf.ok q = true := by simp [AV.ok]
theorem ok_p (q : Nat → Bool) (id o : Nat) : (AV.p id o).ok q = q id := by simp [AV.ok]
theorem ok_y (q : Nat → Bool) (id : Nat) : (AV.y id).ok q = q id := by simp [AV.ok]
theorem ZsV (q : Nat → Bool) (id o n c : Nat) (k : Option Nat) (hq : q id = true) : (AV.sl id o n c k).ok q = true := by simp [AV.ok, hq]
theorem ok_f (q : Nat → Bool) (f : Fn) (a b : List AV) : (AV.f f a b).ok q = (okL q a && okL q b) := by simp [AV.ok]
theorem Knd (q : Nat → Bool) (l : List AV) : (AV.ag l).ok q = okL q l := by simp [AV.ok]
theorem qRZ (q : Nat → Bool) (l : List AV) : (AV.tu l).ok q = okL q l := by simp [AV.ok]
theorem XIo (q : Nat → Bool) : okL q [] = true := by simp [okL]
theorem Juy (q : Nat → Bool) (a : AV) (l : List AV) : okL q (a :: l) = (a.ok q && okL q l) := by simp [okL]
theorem qbk (n : Nat) : nthA fr n = pl fr n := by rw [← Jnt, qiA]
theorem qqd (a b c : Nat) : (a + b < a + c) = (b < c) := propext (by omega)
theorem QeI (a b c : Nat) : (a + b ≤ a + c) = (b ≤ c) := propext (by omega)
theorem Yfy (a b c : Nat) : (a + b = a + c) = (b = c) := propext (by omega)
theorem zfD (a : Nat) : (a < 0) = False := eq_false (by omega)
theorem QW0 (a : Nat) : (0 ≤ a) = True := eq_true (by omega)
theorem z5U (a b : Nat) : (a ≤ a + b) = True := eq_true (by omega)
theorem Z3F {α : Type} (p : α → Bool) : ([] : List α).any p = false := _root_.id rfl
theorem any_cons {α : Type} (p : α → Bool) (a : α) (l : List α) : (a :: l).any p = (p a || l.any p) := _root_.id rfl
theorem Zc6 (id o : Nat) : idOf (.p id o) = [id] := _root_.id rfl
theorem JsJ (id o n c : Nat) (k : Option Nat) : idOf (.sl id o n c k) = [id] := _root_.id rfl
theorem qSz : idOf .ns = [] := _root_.id rfl
theorem QOw (f : Opd) (args : List Opd) : wsC T (Opd.ev fr) (.call f args) = match f.ev fr with
  | .f (.func g) fst cap => T.fns.ws g (fst ++ args.map (Opd.ev fr) ++ cap)
  | .y id => T.rds.ws id (args.map (Opd.ev fr))
  | _ => [] := rfl
theorem KOI (n : Option Nat) (x v : Opd) : wsC T (Opd.ev fr) (.st n x v) = idOf (x.ev fr) := _root_.id rfl
theorem ZZE (a b : Bool) (n m : Nat) (s x : Opd) : wsC T (Opd.ev fr) (.app a b n m s x) = idOf (s.ev fr) := _root_.id rfl
theorem z5w (fl : Bool) (zs : List AV) : wsC T (Opd.ev fr) (.new fl zs) = [] := _root_.id rfl
theorem Ztb (fl : Bool) (n : Nat) (x : Opd) : wsC T (Opd.ev fr) (.box fl n x) = [] := _root_.id rfl
theorem K6H (fl : Bool) (n : Nat) (zs : List AV) (ps : List (Nat × Nat × Opd)) : wsC T (Opd.ev fr) (.bls fl n zs ps) = [] := _root_.id rfl
theorem X2t (fl : Bool) (z : List AV) (n : Nat) (a b : Opd) : wsC T (Opd.ev fr) (.mks fl z n a b) = [] := _root_.id rfl
theorem Z5t {a} : (CO.mv a).mk = .free := _root_.id rfl
theorem YuL {a b c} : (CO.pick a b c).mk = .free := _root_.id rfl
theorem XbE {a b c} : (CO.bin a b c).mk = .free := _root_.id rfl
theorem z0G {a b c} : (CO.eqb a b c).mk = .free := _root_.id rfl
theorem KPt {a b c d} : (CO.eqc a b c d).mk = .free := _root_.id rfl
theorem zpz {a b c} : (CO.eqn a b c).mk = .free := _root_.id rfl
theorem JUm {a b} : (CO.un a b).mk = .free := _root_.id rfl
theorem ZJi {a b} : (CO.cvi a b).mk = .free := _root_.id rfl
theorem ZGk {a} : (CO.cvs a).mk = .free := _root_.id rfl
theorem Kpm {a b} : (CO.fad a b).mk = .free := _root_.id rfl
theorem zgw {a b c} : (CO.fld a b c).mk = .free := _root_.id rfl
theorem ZPA {a b c} : (CO.iad a b c).mk = .free := _root_.id rfl
theorem Z4g {a b c d} : (CO.iaa a b c d).mk = .free := _root_.id rfl
theorem ZDu {a b} : (CO.ixs a b).mk = .free := _root_.id rfl
theorem KdZ {a b c d e} : (CO.ixa a b c d e).mk = .free := _root_.id rfl
theorem YEa {a b c} : (CO.sls a b c).mk = .free := _root_.id rfl
theorem Kuo {a b c d e} : (CO.sll a b c d e).mk = .free := _root_.id rfl
theorem YnF {a b c d e f} : (CO.sla a b c d e f).mk = .free := _root_.id rfl
theorem QKF {a b} : (CO.ifc a b).mk = .free := _root_.id rfl
theorem qTx {a b c} : (CO.mkf a b c).mk = .free := _root_.id rfl
theorem K7M {a b} : (CO.ext a b).mk = .free := _root_.id rfl
theorem YDN {a b} : (CO.len a b).mk = .free := _root_.id rfl
theorem JKW {a} : (CO.lnc a).mk = .free := _root_.id rfl
theorem ZLt {a b c} : (CO.mm a b c).mk = .free := _root_.id rfl
theorem YA2 {a} : (CO.nck a).mk = .free := _root_.id rfl
theorem JR5 {a b c d} : (CO.tas a b c d).mk = .free := _root_.id rfl
theorem Xrv {a b} : (CO.bld a b).mk = .free := _root_.id rfl
theorem Q7O {a} : (CO.capo a).mk = .free := _root_.id rfl
theorem YEd {a b} : (CO.new a b).mk = .mem := _root_.id rfl
theorem X0V {a b c} : (CO.box a b c).isM = true := _root_.id rfl
theorem Zat {a b c d} : (CO.bls a b c d).isM = true := _root_.id rfl
theorem QvS {a b c d e} : (CO.mks a b c d e).isM = true := _root_.id rfl
theorem JAL {a b c d e f} : (CO.app a b c d e f).isM = true := _root_.id rfl
theorem Xpi {a b c d} : (CO.cpy a b c d).isM = true := _root_.id rfl
theorem zZg {a b c d e} : (CO.apz a b c d e).isM = true := _root_.id rfl
theorem QD4 {a} : (CO.b2s a).isM = true := _root_.id rfl
theorem ZuX {a b} : (CO.clr a b).isM = true := _root_.id rfl
theorem KMV {a b} : (CO.bcmp a b).isM = true := _root_.id rfl
theorem QvA {a b c} : (CO.st a b c).isM = true := _root_.id rfl
theorem KGQ {α : Type} (l : List α) : [] ++ l = l := _root_.id rfl
theorem X8X {α : Type} (a : α) (l l' : List α) : (a :: l) ++ l' = a :: (l ++ l') := _root_.id rfl
theorem YSS {α β : Type} (f : α → List β) : [].flatMap f = [] := by simp
theorem Q3u {α β : Type} (f : α → List β) (a : α) (l : List α) : (a :: l).flatMap f = f a ++ l.flatMap f := by simp
end
end Go.Proofs.YthllkjhommnocaaDoor
end
section
namespace Go.Proofs.YthllkjhommnocaaDoor
open Go.RowKit
def tp (n : Nat) : List AV := List.replicate n .top
theorem tp_0 : tp 0 = [] := _root_.id rfl
theorem tp_s (n : Nat) : tp (n + 1) = .top :: tp n := _root_.id rfl
theorem qUd : WkL [] [] = True := _root_.id rfl
theorem zRV (a' a : AV) (l' l : List AV) : WkL (a' :: l') (a :: l) = (Wk a' a ∧ WkL l' l) := _root_.id rfl
theorem Z0S (a : AV) : Wk .top a = True := eq_true (Wk.top a)
theorem ZFL (a : AV) : Wk a a = True := eq_true (Wk.refl a)
section
variable {c : Ctx} {k : List IT} {fr : List AV} {h : List AB}
def zcs {S : Type} (c : Ctx) (μ : S → Nat) (F : S → List AV) (H : S → List AB) (Inv : S → Prop) (s : S) (fr : List AV) (h : List AB) : Prop := ∃ s', Inv s' ∧ μ s' < μ s ∧ Bt c.P c.p fr h (F s') (H s')
theorem q2Y {S : Type} {a : CC} (μ : S → Nat) (F : S → List AV) (H : S → List AB) (Inv : S → Prop) (s0 : S) (h0 : Inv s0) (hg : Bt c.P c.p fr h (F s0) (H s0))
  (hs : ∀ s, Inv s → W c (.code a :: .lpe (zcs c μ F H Inv s) :: k) (F s) (H s)) : W c (.code (.loop a) :: k) fr h := by
 refine ZG6 (fun n fr h => ∃ s, Inv s ∧ μ s = n ∧ fr = F s ∧ h = H s) (μ s0) (F s0) (H s0) hg ⟨s0, h0, rfl, rfl, rfl⟩ fun n fr h hI => ?_
 obtain ⟨s, hi, rfl, rfl, rfl⟩ := hI
 have e : zcs c μ F H Inv s = Back c (fun n fr h => ∃ s, Inv s ∧ μ s = n ∧ fr = F s ∧ h = H s) (μ s) := by
  funext fr h
  refine propext ⟨fun ⟨s', q1, q2, q3⟩ => ⟨μ s', F s', H s', q2, q3, s', q1, rfl, rfl, rfl⟩, fun ⟨m, fr', h', q2, q3, s', q1, e1, e2, e3⟩ => ?_⟩
  subst e1 e2 e3
  exact ⟨s', q1, q2, q3⟩
 rw [← e]
 exact hs s hi
theorem qlC {S : Type} {a : CC} (μ : S → Nat) (F : S → List AV) (Inv : S → Prop) (s0 : S) (h0 : Inv s0) (hg : WkL (F s0) fr)
  (hs : ∀ s, Inv s → W c (.code a :: .lpe (fun fr' h' => h' = h ∧ ∃ s', Inv s' ∧ μ s' < μ s ∧ WkL (F s') fr') :: k) (F s) h) : W c (.code (.loop a) :: k) fr h := by
 refine q2Y μ F (fun _ => h) Inv s0 h0 (Bt.wk hg) fun s hi => ?_
 have := hs s hi
 simp only [W, Lv_n, IT.wp] at this ⊢
 refine Ywu (fun hk e => JhH _ hk e) _ ?_ this
 intro x fr' h' q
 cases x with
 | n =>
  obtain ⟨rfl, s', q1, q2, q3⟩ := q
  exact ⟨s', q1, q2, Bt.wk q3⟩
 | x i => exact q
 | r => exact q
end
end Go.Proofs.YthllkjhommnocaaDoor
end
section
namespace Go.Proofs.YthllkjhommnocaaDoor
open Go.RowKit
section
variable {T : Env} {fr : List AV} {h : List AB} {α : Type} {r : Row α}
def rsl (r : Row α) (id : Nat) (l : List α) : AV := if l.length = 0 then .sl id 0 0 0 (some 0) else .sl id 0 l.length l.length (some r.sz)
def resB (r : Row α) (m : Bool) (l : List α) : AB := if l.length = 0 then .dead else .blk true m (r.cells l)
theorem ZNo (id : Nat) (l : List α) : (rsl r id l).isSl = true := by unfold rsl; split <;> rfl
theorem Xo3 (id : Nat) (l : List α) : (rsl r id l).isStr = false := QtI (ZNo id l)
theorem zIm (id : Nat) (l : List α) : (rsl r id l).one = true := ZYZ (ZNo id l)
theorem ZiP (id : Nat) (l : List α) : (rsl r id l).known = true := qVX (ZNo id l)
theorem Jrr (id : Nat) (l : List α) : (rsl r id l).cells = [rsl r id l] := KXj (ZNo id l)
theorem YnT (id : Nat) (l : List α) : lenV (rsl r id l) = some (l.length : Int) := by
 unfold rsl
 split
 ·rename_i e; rw [e]; rfl
 ·rfl
theorem ZUp (q : Nat → Bool) (id : Nat) (l : List α) (hq : q id = true) : (rsl r id l).ok q = true := by unfold rsl; split <;> simp [AV.ok, hq]
theorem zfG (f : Nat → Nat) (id : Nat) (l : List α) : (rsl r id l).ren f = rsl r (f id) l := by unfold rsl; split <;> simp [AV.ren]
theorem QfG (id : Nat) (l : List α) : idOf (rsl r id l) = [id] := by unfold rsl; split <;> rfl
theorem JcV : lenV .ns = some 0 := _root_.id rfl
theorem QAK (m : Bool) (l : List α) : (resB r m l).freeze = resB r false l := by unfold resB; split <;> rfl
theorem Xkl (q : Nat → Bool) (m : Bool) (l : List α) : (resB r m l).ok q = true := by unfold resB; split <;> rfl
def ownR (r : Row α) (l : List α) : List AB → Nat → Prop
 | [], _ => False
 | B :: _, 0 => ∃ m, B = resB r m l
 | _ :: L, k + 1 => ownR r l L k
theorem XCK (m : Bool) (l : List α) (L : List AB) : ownR r l (resB r m l :: L) 0 = True := eq_true ⟨m, rfl⟩
theorem Xo2 (l : List α) (B : AB) (L : List AB) (k : Nat) : ownR r l (B :: L) (k + 1) = ownR r l L k := _root_.id rfl
theorem J68 (l : List α) : ∀ (L : List AB) (k : Nat), ownR r l L k → ∃ m, L[k]? = some (resB r m l)
 | [], _, e => e.elim
 | B :: _, 0, ⟨m, e⟩ => ⟨m, by rw [e]; rfl⟩
 | _ :: L, k + 1, e => by simpa using J68 l L k e
theorem Z4z {H : List AB} {id : Nat} {m : Bool} {l : List α} (e : H[id]? = some (resB r m l)) : rdS H r.sz (rsl r id l) = some (l.length, r.cells l) := by
 unfold rsl
 by_cases h0 : l.length = 0
 ·rw [if_pos h0]
  have : l = [] := List.eq_nil_of_length_eq_zero h0
  subst this
  simp [rdS, Row.cells]
 ·rw [if_neg h0]
  simp only [rdS]
  rw [if_neg h0]
  unfold resB at e
  rw [if_neg h0] at e
  simp only [JZy, e, Option.bind_some, Nat.zero_add, List.drop_zero, r.cells_len]
  rw [if_pos (Nat.le_refl _), List.take_of_length_le (by rw [r.cells_len]; exact Nat.le_refl _)]
theorem QZ9 {H : List AB} {id : Nat} {m : Bool} {l : List α} (e : H[id]? = some (resB r m l)) (hl : l.length ≤ maxLen) : Rd r H (rsl r id l) l := ⟨Z4z e, hl⟩
theorem zu6 (L : List AB) (k : Nat) : (h ++ L)[h.length + k]? = L[k]? := by rw [List.getElem?_append_right (by omega), Nat.add_sub_cancel_left]
theorem qhb (L : List AB) (k : Nat) (l : List α) (e : ownR r l L k) (hl : l.length ≤ maxLen) : getS r (h ++ L) (rsl r (h.length + k) l) = some l := by
 obtain ⟨m, hm⟩ := J68 l L k e
 exact (QZ9 (by rw [zu6]; exact hm) hl).get
theorem zq4 (o sz n j : Nat) (id : Nat) (l : List α) : fadV o (elP sz (rsl r id l) n j) = some (elP sz (rsl r id l) n (j + o)) := by
 unfold rsl
 split <;> simp [elP, fadV, Nat.add_assoc]
theorem YwY (q : Nat → Bool) (id sz n j : Nat) (l : List α) (hq : q id = true) : (elP sz (rsl r id l) n j).ok q = true := by unfold rsl; split <;> simp [elP, AV.ok, hq]
theorem Zpw (n : Bool) (x y : Opd) : opR T (.eqn n x y) fr h = (KoA (x.ev fr) (y.ev fr)).map fun r => (.b (r ^^ n), h) := _root_.id rfl
theorem Jie : KoA .ns .ns = some true := _root_.id rfl
theorem JOT : KoA .se .ns = some false := _root_.id rfl
theorem JnI : AV.ns.isStr = false := _root_.id rfl
theorem zqX : AV.se.isStr = false := _root_.id rfl
theorem Jnm (a b c d : Nat) (k : Option Nat) : (AV.sl a b c d k).isStr = false := _root_.id rfl
theorem z8w (q : Nat → Bool) (f : Nat → Nat) (m : Bool) (l : List α) : BWk q f (resB r m l) (resB r m l) = True := by
 unfold resB
 split
 ·exact eq_true trivial
 ·exact eq_true ⟨fun z => z, rfl⟩
theorem qFD (q : Nat → Bool) (f : Nat → Nat) (m' m : Bool) (xs' xs : List AV) : BWk q f (.blk true m' xs') (.blk true m xs) = ((m' = true → m = true) ∧ xs' = xs) := _root_.id rfl
theorem Zfr (q : Nat → Bool) (f : Nat → Nat) (m' m : Bool) (xs' xs : List AV) : BWk q f (.blk false m' xs') (.blk false m xs) = ((m' = true → m = true) ∧ okL q xs' = true ∧ WkL (renL f xs') xs) := _root_.id rfl
theorem XdS (q : Nat → Bool) (f : Nat → Nat) (s' s : ByteArray) (p' p : Nat) : BWk q f (.iter s' p') (.iter s p) = (s' = s ∧ p' = p) := _root_.id rfl
theorem qiv (q : Nat → Bool) (f : Nat → Nat) (B : AB) : BWk q f .dead B = True := by cases B <;> rfl
theorem JsA (q : Nat → Bool) (f : Nat → Nat) (st' st : LoopState) (pd' pd : XE) (fr' fr : List AV) (ps' ps : List Nat) (a' a b' b : CC) : BWk q f (.lp st' pd' fr' ps' a' b') (.lp st pd fr ps a b) = ((st' = st ∧ pd' = pd ∧ ps' = ps ∧ a' = a ∧ b' = b) ∧ okL q fr' = true ∧ WkL (renL f fr') fr) := _root_.id rfl
theorem q0e (q : Nat → Bool) (id : Nat) (l : List α) (hq : q id = true) : (rsl r id l).ok q = True := eq_true (ZUp q id l hq)
theorem ZRU (p k : Nat) (sel : List Nat) : selN p sel (p + k) = p + sel.getD k 0 := QT6 k
theorem XBY (p : Nat) (sel : List Nat) : selN p sel p = p + sel.getD 0 0 := QT6 (p := p) 0
theorem nd_0 (a : Nat) (l : List Nat) : (a :: l).getD 0 0 = a := _root_.id rfl
theorem nd_s (a : Nat) (l : List Nat) (k : Nat) : (a :: l).getD (k + 1) 0 = l.getD k 0 := by simp
theorem KC5 : intR.sz = 1 := _root_.id rfl
theorem qrQ : dotR.sz = 2 := _root_.id rfl
theorem X3B : r.cells [] = [] := _root_.id rfl
theorem J4W (k : IntKind) (n : Int) : (AV.i k n).known = true := _root_.id rfl
theorem Yzp (x : Bool) : (AV.b x).known = true := _root_.id rfl
theorem YG4 (x : List UInt8) : (AV.s x).known = true := _root_.id rfl
theorem YuJ (a b : Nat) : (AV.p a b).known = true := _root_.id rfl
theorem zO4 : AV.ns.known = true := _root_.id rfl
theorem Xsq (a b c d : Nat) (k : Option Nat) : (AV.sl a b c d k).known = true := _root_.id rfl
theorem Kn6 (f : Fn) (a b : List AV) : (AV.f f a b).known = true := _root_.id rfl
theorem zSu (l : List AV) : (AV.ag l).known = true := _root_.id rfl
def chkI : Nat → Option (List AV) → Bool
 | 0, some [] => true
 | n + 1, some (.i .i64 _ :: l) => chkI n (some l)
 | _, _ => false
def valI : Option (List AV) → List Int
 | some (.i _ a :: l) => a :: valI (some l)
 | _ => []
theorem YlL : chkI 0 (some []) = true := by simp [chkI]
theorem YLo (n : Nat) (a : Int) (l : List AV) : chkI (n + 1) (some (.i .i64 a :: l)) = chkI n (some l) := by simp [chkI]
theorem Qav : valI (some []) = [] := by simp [valI]
theorem YkA (k : IntKind) (a : Int) (l : List AV) : valI (some (.i k a :: l)) = a :: valI (some l) := by simp [valI]
theorem qe5 : ∀ (n : Nat) (l : List AV), chkI n (some l) = true → l = intR.cells (valI (some l)) ∧ (valI (some l)).length = n
 | 0, [], _ => by simp [valI, X3B]
 | 0, _ :: _, e => by simp [chkI] at e
 | n + 1, [], e => by simp [chkI] at e
 | n + 1, .i .i64 a :: l, e => by
  rw [YLo] at e
  obtain ⟨h1, h2⟩ := qe5 n l e
  rw [YkA]
  refine ⟨?_, by simp [h2]⟩
  simp only [Row.cells, List.flatMap_cons, qZi, List.cons_append, List.nil_append]
  congr 1
 | n + 1, .i .u8 _ :: _, e | n + 1, .i .u16 _ :: _, e | n + 1, .i .u32 _ :: _, e | n + 1, .i .u64 _ :: _, e | n + 1, .i .i8 _ :: _, e | n + 1, .i .i16 _ :: _, e | n + 1, .i .i32 _ :: _, e => by simp [chkI] at e
 | n + 1, .b _ :: _, e | n + 1, .s _ :: _, e | n + 1, .p _ _ :: _, e | n + 1, .np :: _, e | n + 1, .sl _ _ _ _ _ :: _, e | n + 1, .se :: _, e | n + 1, .ns :: _, e | n + 1, .f _ _ _ :: _, e | n + 1, .nf :: _, e | n + 1, .ifc _ _ :: _, e | n + 1, .ni :: _, e | n + 1, .ag _ :: _, e | n + 1, .tu _ :: _, e | n + 1, .top :: _, e | n + 1, .y _ :: _, e => by simp [chkI] at e
theorem zW5 (L : List AB) (k n c : Nat) (kk : Option Nat) (e : chkI n (ownC L k) = true) (hn : n ≤ 1000) : getS intR (h ++ L) (.sl (h.length + k) 0 n c kk) = some (valI (ownC L k)) := by
 refine Rd.get ⟨?_, ?_⟩
 ·cases hc : ownC L k with
  | none => rw [hc] at e; cases n <;> simp [chkI] at e
  | some l =>
   rw [hc] at e
   obtain ⟨h1, h2⟩ := qe5 n l e
   have hb : JZy (h ++ L) (h.length + k) = some l := by rw [YNX, hc]
   have hl : l.length = n := by rw [h1, Row.cells_len, h2]; exact Nat.mul_one n
   simp only [rdS, hb, Option.bind_some, Nat.zero_add, List.drop_zero, show intR.sz = 1 from rfl, Nat.mul_one, hl]
   split
   ·rename_i h0
    subst h0
    have : l = [] := List.eq_nil_of_length_eq_zero hl
    subst this
    simp [valI, X3B]
   ·rw [if_pos (Nat.le_refl _), List.take_of_length_le (by omega), ← h1, h2]
 ·cases hc : ownC L k with
  | none => simp [valI]
  | some l =>
   rw [hc] at e
   obtain ⟨h1, h2⟩ := qe5 n l e
   rw [h2]
   unfold maxLen
   omega
theorem Bt.drop {P : Program} {h : List AB} {v a : AV} (L : List AB) (hh : HOk h) (e : v = a) (hok : v.ok (fun i => decide (i < h.length)) = true) : Bt P h.length [v] (h ++ L) [a] h := by
 subst e
 have := Bt.sel (P := P) (h := h) (l := L) (l' := []) (fr := [v]) (fr' := [v]) [] hh (by simp) trivial ⟨.inr ⟨hok, Wk.ren (fun i hi => qvy hi) hok⟩, trivial⟩
 rw [List.append_nil] at this
 exact this
theorem Bt.dropB {P : Program} {h : List AB} {x y : Bool} (L : List AB) (hh : HOk h) (e : x = y) : Bt P h.length [.b x] (h ++ L) [.b y] h := Bt.drop L hh (by rw [e]) (by simp [AV.ok])
def FinO (P : Program) (p : Nat) (o : Option AV) (h : List AB) (a : AV) (h' : List AB) : Prop := ∃ v, o = some v ∧ Bt P p [v] h [a] h'
theorem QRe {P : Program} {p : Nat} {v a : AV} {h' : List AB} : FinO P p (some v) h a h' = Bt P p [v] h [a] h' := by simp [FinO]
theorem zsk {P : Program} {p n : Nat} {sz : Option Nat} {a : AV} {h' : List AB} : (∃ v, resV fr h [RC.cell n sz] = some v ∧ Bt P p [v] h [a] h') = FinO P p (ldV h sz (pl fr n)) h a h' := by
 have e : resV fr h [RC.cell n sz] = ldV h sz (pl fr n) := by
  simp only [resV, JBx, qdM, Jnt]
  cases ldV h sz (pl fr n) <;> rfl
 rw [e]
 rfl
theorem YiN {P : Program} {p n m : Nat} {sz : Option Nat} {a : AV} {h' : List AB} : (∃ v, resV fr h [RC.cell n sz, RC.t m] = some v ∧ Bt P p [v] h [a] h') = FinO P p ((ldV h sz (pl fr n)).map fun x => .tu [x, pl fr m]) h a h' := by
 have e : resV fr h [RC.cell n sz, RC.t m] = (ldV h sz (pl fr n)).map fun x => .tu [x, pl fr m] := by
  simp only [resV, JBx, qdM, Jnt, Option.bind_some]
  cases ldV h sz (pl fr n) <;> rfl
 rw [e]
 rfl
def appW (H : List AB) (fl : Bool) (sz by_ : Nat) (s : AV) (m : Nat) (ys : List AV) : Option (AV × List AB) :=
 match s with
 | .ns => if m = 0 then some (.ns, H) else if m * by_ ≤ 140737488355328 ∧ m ≤ maxLen then some (.sl H.length 0 m m (some sz), H ++ [.blk fl true ys]) else none
 | .sl id off len cap k =>
  if m = 0 then some (.sl id off len cap k, H)
  else if len + m ≤ cap then (stB H id (off + len * sz) ys).map fun h' => (.sl id off (len + m) cap k, h')
  else match H[id]? with
   | some (.blk fl' mu xs) =>
    if fl' = fl ∧ off + len * sz ≤ xs.length ∧ (len + m) * by_ ≤ 140737488355328 ∧ len + m ≤ maxLen then
     if k = none then some (.sl H.length 0 (len + m) (len + m) (some sz), H ++ [.blk fl true ((xs.drop off).take (len * sz) ++ ys)])
     else if k = some sz ∧ sz ≠ 0 ∧ mu = true ∧ off + len * sz = xs.length then some (.sl H.length 0 (len + m) (len + m) (some sz), H.set id .dead ++ [.blk fl true (xs.drop off ++ ys)])
     else if k = some sz ∧ sz ≠ 0 ∧ mu = true then some (.sl H.length 0 (len + m) (len + m) (some sz), H.set id .dead ++ [.blk fl true ((xs.drop off).take (len * sz) ++ ys)])
     else none
    else none
   | _ => none
 | _ => none
theorem YR8 (H : List AB) (fl : Bool) (sz by_ : Nat) (s x : AV) : appV H fl sz by_ s x = (srcV H sz x).bind fun my => if my.2.all (wrOk fl) = true then appW H fl sz by_ s my.1 my.2 else none := _root_.id rfl
def flB (fl : Bool) : List AB → Nat → Prop
 | [], _ => False
 | B :: _, 0 => ∃ m xs, B = .blk fl m xs
 | _ :: L, k + 1 => flB fl L k
theorem Qei (fl m : Bool) (xs : List AV) (L : List AB) : flB fl (.blk fl m xs :: L) 0 = True := eq_true ⟨m, xs, rfl⟩
theorem zHV (fl : Bool) (B : AB) (L : List AB) (k : Nat) : flB fl (B :: L) (k + 1) = flB fl L k := _root_.id rfl
theorem Zd7 (fl : Bool) : ∀ (L : List AB) (k : Nat), flB fl L k → ∃ m xs, L[k]? = some (.blk fl m xs)
 | [], _, e => e.elim
 | B :: _, 0, ⟨m, xs, e⟩ => ⟨m, xs, by rw [e]; rfl⟩
 | _ :: L, k + 1, e => by simpa using Zd7 fl L k e
theorem Jz6 (L : List AB) (k : Nat) (fl : Bool) (sz by_ m : Nat) (ys : List AV) (hb : flB fl L k) : appW (h ++ L) fl sz by_ (.sl (h.length + k) 0 0 0 none) m ys = if m = 0 then some (.sl (h.length + k) 0 0 0 none, h ++ L) else if m * by_ ≤ 140737488355328 ∧ m ≤ maxLen then some (.sl (h.length + L.length) 0 m m (some sz), h ++ (L ++ [.blk fl true ys])) else none := by
 obtain ⟨mu, xs, hx⟩ := Zd7 fl L k hb
 unfold appW
 dsimp only
 split
 ·rfl
 ·rename_i hm
  rw [if_neg (by omega), zu6, hx]
  simp only [true_and, Nat.zero_add, Nat.zero_mul, Nat.zero_le, List.take_zero, List.nil_append, if_true, List.length_append, List.append_assoc]
theorem ZJy (L : List AB) (fl : Bool) (sz by_ m : Nat) (ys : List AV) : appW (h ++ L) fl sz by_ .ns m ys = if m = 0 then some (.ns, h ++ L) else if m * by_ ≤ 140737488355328 ∧ m ≤ maxLen then some (.sl (h.length + L.length) 0 m m (some sz), h ++ (L ++ [.blk fl true ys])) else none := by
 unfold appW
 simp only [List.length_append, List.append_assoc]
theorem X8U (l : List Int) : (intR.cells l).all (wrOk true) = true := by
 induction l with
 | nil => rfl
 | cons a l ih =>
  simp only [Row.cells, List.flatMap_cons, List.all_append] at ih ⊢
  rw [ih]
  rfl
theorem q2i (l : List (Int × Int)) : (dotR.cells l).all (wrOk true) = true := by
 induction l with
 | nil => rfl
 | cons a l ih =>
  simp only [Row.cells, List.flatMap_cons, List.all_append] at ih ⊢
  rw [ih]
  rfl
def apS (r : Row α) (id : Nat) (l : List α) : AV := if l.length = 0 then .ns else .sl id 0 l.length l.length (some r.sz)
theorem Kqj (q : Nat → Bool) (id : Nat) (l : List α) (hq : q id = true) : (apS r id l).ok q = true := by unfold apS; split <;> simp [AV.ok, hq]
theorem QUE (f : Nat → Nat) (id : Nat) (l : List α) : (apS r id l).ren f = apS r (f id) l := by unfold apS; split <;> simp [AV.ren]
theorem Qas (id : Nat) (l : List α) : (apS r id l).isSl = true := by unfold apS; split <;> rfl
theorem zNW (id : Nat) (l : List α) : lenV (apS r id l) = some (l.length : Int) := by
 unfold apS
 split
 ·rename_i e; rw [e]; rfl
 ·rfl
theorem QcP (id : Nat) : apS r id [] = .ns := _root_.id rfl
theorem zyF (id : Nat) (l : List α) : (apS r id l).isStr = false := QtI (Qas id l)
theorem Ket (id : Nat) (l : List α) : (apS r id l).one = true := ZYZ (Qas id l)
theorem QcO (id : Nat) (l : List α) : (apS r id l).known = true := qVX (Qas id l)
theorem Kbx (id : Nat) (l : List α) : (apS r id l).cells = [apS r id l] := KXj (Qas id l)
theorem Z1y (d : Int × Int) : (d.1, d.2) = d := _root_.id rfl
theorem zwm (id : Nat) (x : α) : apS r id [x] = .sl id 0 1 1 (some r.sz) := _root_.id rfl
theorem Q2S (m : Bool) (x : α) : resB r m [x] = .blk true m (r.f x) := by
 unfold resB
 rw [if_neg (by simp)]
 simp [Row.cells]
def zW4 : List AB → Nat → List AB
 | [], _ => []
 | _ :: L, 0 => .dead :: L
 | B :: L, k + 1 => B :: zW4 L k
theorem YNo (B : AB) (L : List AB) : zW4 (B :: L) 0 = .dead :: L := _root_.id rfl
theorem qAs (B : AB) (L : List AB) (k : Nat) : zW4 (B :: L) (k + 1) = B :: zW4 L k := _root_.id rfl
def ownM (r : Row α) (l : List α) : List AB → Nat → Prop
 | [], _ => False
 | B :: _, 0 => B = resB r true l
 | _ :: L, k + 1 => ownM r l L k
theorem qqB (l : List α) (L : List AB) : ownM r l (resB r true l :: L) 0 = True := eq_true rfl
theorem QHX (l : List α) (B : AB) (L : List AB) (k : Nat) : ownM r l (B :: L) (k + 1) = ownM r l L k := _root_.id rfl
end
end Go.Proofs.YthllkjhommnocaaDoor
end
section
namespace Go.Proofs.YthllkjhommnocaaDoor
open Go.RowKit
def mksV (h : List AB) (fl : Bool) (z : List AV) (by_ : Nat) (le ca : AV) : Option (AV × List AB) :=
 match le, ca with
 | .i _ l, .i _ c => if 0 ≤ l ∧ l ≤ c ∧ (by_ : Int) * c ≤ 2 ^ 47 ∧ c ≤ maxLen then newB h fl ((List.replicate c.toNat z).flatten) (fun n => .sl n 0 l.toNat c.toNat none) else none
 | _, _ => none
theorem QgU {h : List AB} (L : List AB) (k off n cap sz : Nat) (kk : Option Nat) : srcV (h ++ L) sz (.sl (h.length + k) off n cap kk) = if n = 0 then some (0, []) else (ownC L k).bind fun xs => if off + n * sz ≤ xs.length then some (n, (xs.drop off).take (n * sz)) else none := by
 simp only [srcV, YNX]
theorem qXj {h : List AB} (L : List AB) (k : Nat) (B : AB) : (h ++ L).set (h.length + k) B = h ++ L.set k B := by
 rw [List.set_append_right _ _ (by omega), Nat.add_sub_cancel_left]
theorem JiL {α : Type} (a b : α) (l : List α) : (a :: l).set 0 b = b :: l := _root_.id rfl
theorem QjM {α : Type} (a b : α) (l : List α) (n : Nat) : (a :: l).set (n + 1) b = a :: l.set n b := _root_.id rfl
theorem YrU {α : Type} (r : Row α) (h : List AB) : Rd r h .ns [] := ⟨rfl, Nat.zero_le _⟩
theorem QsU {α : Type} (r : Row α) (h : List AB) : getS r h .ns = some [] := (YrU r h).get
theorem qyz (sz id off n c : Nat) (k : Option Nat) (kk : IntKind) (m : Int) : iadV sz (.sl id off n c k) (.i kk m) = if 0 ≤ m ∧ m < (n : Int) then some (.p id (off + m.toNat * sz)) else none := _root_.id rfl
theorem z1B {T : Env} {fr : List AV} {h : List AB} (fl : Bool) (z : List AV) (by_ : Nat) (le ca : Opd) : opR T (.mks fl z by_ le ca) fr h = mksV h fl z by_ (le.ev fr) (ca.ev fr) := by
 show (match le.ev fr, ca.ev fr with
  | .i _ l, .i _ c => if 0 ≤ l ∧ l ≤ c ∧ (by_ : Int) * c ≤ 2 ^ 47 ∧ c ≤ maxLen then newB h fl ((List.replicate c.toNat z).flatten) (fun n => .sl n 0 l.toNat c.toNat none) else none
  | _, _ => none) = _
 rfl
theorem qXb (h : List AB) (fl : Bool) (z : List AV) (by_ : Nat) (k k' : IntKind) (l c : Int) : mksV h fl z by_ (.i k l) (.i k' c) = if 0 ≤ l ∧ l ≤ c ∧ (by_ : Int) * c ≤ 2 ^ 47 ∧ c ≤ maxLen then newB h fl ((List.replicate c.toNat z).flatten) (fun n => .sl n 0 l.toNat c.toNat none) else none := _root_.id rfl
def bxS (h : List AB) (i : Nat) : Option AV :=
 match h[i]? with
 | some (.blk false _ [v]) => some v
 | _ => none
def bxL : List AB → Nat → Option AV
 | [], _ => none
 | .blk false _ [v] :: _, 0 => some v
 | _ :: _, 0 => none
 | _ :: L, k + 1 => bxL L k
theorem XIs : ∀ (L : List AB) (k : Nat), bxS L k = bxL L k
 | [], k => by simp [bxS, bxL]
 | B :: L, 0 => by
  cases B with
  | blk fl m xs => cases fl <;> (cases xs with | nil => simp [bxS, bxL] | cons a l => cases l <;> simp [bxS, bxL])
  | _ => simp [bxS, bxL]
 | B :: L, k + 1 => by
  have := XIs L k
  have e : bxL (B :: L) (k + 1) = bxL L k := by
   cases B with
   | blk fl m xs => cases fl <;> (cases xs with | nil => rfl | cons a l => cases l <;> rfl)
   | _ => rfl
  rw [e, ← this]
  unfold bxS
  rw [List.getElem?_cons_succ]
theorem QkM {h : List AB} (L : List AB) (k : Nat) : bxS (h ++ L) (h.length + k) = bxL L k := by
 rw [← XIs]
 unfold bxS
 rw [zu6]
theorem JOp (m : Bool) (v : AV) (L : List AB) : bxL (.blk false m [v] :: L) 0 = some v := _root_.id rfl
theorem KgJ (B : AB) (L : List AB) (k : Nat) : bxL (B :: L) (k + 1) = bxL L k := by
 cases B with
 | blk fl m xs => cases fl <;> (cases xs with | nil => rfl | cons a l => cases l <;> rfl)
 | _ => rfl
theorem X42 (q : Nat → Bool) (st : LoopState) (pd : XE) (fr : List AV) (ps : List Nat) (a b : CC) : (AB.lp st pd fr ps a b).ok q = okL q fr := _root_.id rfl
section
variable {c : Ctx} {k : List IT} {fr : List AV} {h : List AB}
end
def Yk8 : List Pt → List Pt
 | [] => []
 | p :: l => ⟨p.k, p.lo, p.hi, [], []⟩ :: Yk8 l
theorem X8b : Yk8 [] = [] := _root_.id rfl
theorem za8 (k lo hi : Nat) (rs ws : List Nat) (l : List Pt) : Yk8 (⟨k, lo, hi, rs, ws⟩ :: l) = ⟨k, lo, hi, [], []⟩ :: Yk8 l := _root_.id rfl
theorem zru (len0 lo hi anc : Nat) (past : List Pt) (id : Nat) : qOk len0 lo hi anc (Yk8 past) id = qOk len0 lo hi anc past id := by
 unfold qOk
 congr 1
 induction past with
 | nil => rfl
 | cons p l ih => simp only [Yk8, List.any_cons, ih]
theorem JO1 (len0 anc n : Nat) (past : List Pt) : seen len0 anc (Yk8 past) n = seen len0 anc past n := by
 unfold seen
 congr 1
 funext id
 exact zru len0 0 0 anc past id
theorem XoI {c : Ctx} {k : List IT} {fr : List AV} {h : List AB} {len0 n anc : Nat} {past : List Pt} {d : Option Nat} {l : List DOp} (ws : List Nat) (vs : List AV) (v : AV) (G : List AB) : W c (.dmk ws vs (some (v, G)) len0 n anc past d l :: k) fr h = (okL (fun i => decide (i < h.length)) vs = true ∧ HOk h ∧ past.all (qUm len0 anc past ws) = true ∧ (ws.all fun id => decide (id < h.length)) = true ∧ h.length ≤ G.length ∧ v.ok (qOk len0 h.length G.length anc past) = true ∧
      (ws.all fun id => (G.getD id .dead).ok (qOk len0 h.length G.length anc past)) = true ∧ ((G.drop h.length).all fun B => B.ok (qOk len0 h.length G.length anc past)) = true ∧
      W c (.drw len0 (n + 1) (⟨n, h.length, G.length, seen len0 anc (Yk8 past) h.length, ws⟩ :: past) l :: k) (put fr d v) (Yjq ws G 0 h)) := by
  rw [JO1]
  exact Y3n ws vs v G
end Go.Proofs.YthllkjhommnocaaDoor
end
section
namespace Go.Proofs.YthllkjhommnocaaDoor
set_option maxRecDepth 100000
section
variable {T : Env} {fr : List AV} {h : List AB}
def itr (l : List UInt8) (pos : Nat) : AB := .iter ⟨l.toArray⟩ pos
theorem qlo (x : Opd) : opR T (.rng x) fr h = (match x.ev fr with
  | .s l => some (.p h.length 0, h ++ [itr l 0])
  | _ => none) := _root_.id rfl
noncomputable def nxV (h : List AB) (v : AV) : Option (AV × List AB) := match v with
 | .p id 0 => match h[id]? with
  | some (.iter s pos) => if pos < s.size then some (.tu [.b true, .i .i64 (pos : Int), .i .i32 ((Utf8.decode s pos).1 : Int)], h.set id (.iter s (pos + (Utf8.decode s pos).2))) else some (.tu [.b false], h)
  | _ => none
 | _ => none
theorem Y1Q (x : Opd) : opR T (.nxt x) fr h = nxV h (x.ev fr) := by
 show nxV h (x.ev fr) = _
 rfl
theorem Jhu (L : List AB) (k : Nat) (l : List UInt8) (pos : Nat) (hb : L[k]? = some (itr l pos)) : nxV (h ++ L) (.p (h.length + k) 0) = if pos < l.length then some (.tu [.b true, .i .i64 (pos : Int), .i .i32 ((Utf8.decode ⟨l.toArray⟩ pos).1 : Int)], h ++ L.set k (itr l (pos + (Utf8.decode ⟨l.toArray⟩ pos).2))) else some (.tu [.b false], h ++ L) := by
 have hg : (h ++ L)[h.length + k]? = some (.iter ⟨l.toArray⟩ pos) := by
  rw [List.getElem?_append_right (by omega), Nat.add_sub_cancel_left]
  exact hb
 have hs : (⟨l.toArray⟩ : ByteArray).size = l.length := by simp [ByteArray.size]
 simp only [nxV, hg, hs]
 rw [List.set_append_right _ _ (by omega), Nat.add_sub_cancel_left]
 rfl
def bixV (l : List UInt8) (n : Int) : Int := match (List.range l.length).find? fun i => (⟨l.toArray⟩ : ByteArray)[i]! == UInt8.ofNat n.toNat with
 | some i => (i : Int)
 | none => -1
theorem qRe (x y : Opd) : opR T (.bix x y) fr h = (match x.ev fr, y.ev fr with
  | .s l, .i .u8 n => some (.i .i64 (bixV l n), h)
  | _, _ => none) := _root_.id rfl
end
theorem ZLa {l : List UInt8} {pos : Nat} (h : pos < l.length) (ha : (l[pos]).toNat < 128) : Utf8.decode ⟨l.toArray⟩ pos = ((l[pos]).toNat, 1) := by
 have hs : pos < (⟨l.toArray⟩ : ByteArray).size := by simpa [ByteArray.size] using h
 exact decode_ascii ⟨l.toArray⟩ pos hs ha
def ixsV (x i : AV) : Option AV := match x, i with
 | .s l, .i _ n => if 0 ≤ n then (l[n.toNat]?).map fun b : UInt8 => .i .u8 (b.toNat : Int) else none
 | _, _ => none
theorem QgH {T : Env} {fr : List AV} {h : List AB} (x i : Opd) : opR T (.ixs x i) fr h = (ixsV (x.ev fr) (i.ev fr)).map (·, h) := by
 show (match x.ev fr, i.ev fr with
  | .s l, .i _ n => if 0 ≤ n then (l[n.toNat]?).map fun b : UInt8 => (AV.i .u8 (b.toNat : Int), h) else none
  | _, _ => none) = _
 unfold ixsV
 split
 ·split
  ·rw [Option.map_map]; rfl
  ·rfl
 ·rfl
theorem z29 {l : List UInt8} {n : Nat} (k : IntKind) (h : n < l.length) : ixsV (.s l) (.i k (n : Int)) = some (.i .u8 ((l.getD n 0).toNat : Int)) := by
 unfold ixsV
 dsimp only
 rw [if_pos (by omega), Int.toNat_natCast, List.getElem?_eq_getElem h, List.getD_eq_getElem?_getD, List.getElem?_eq_getElem h]
 rfl
theorem YMd {l : List UInt8} {n : Nat} (k : IntKind) (h : n ≤ l.length) : slS l none (some (.i k (n : Int))) = some (.s (l.take n)) := by
 simp only [slS, bnd]
 rw [if_pos (by omega)]
 simp
theorem KeA {l : List UInt8} {n : Nat} (k : IntKind) (h : n ≤ l.length) : slS l (some (.i k (n : Int))) none = some (.s (l.drop n)) := by
 simp only [slS, bnd, Option.bind_some]
 rw [if_pos (by omega)]
 simp
theorem qTS {T : Env} {fr : List AV} {h : List AB} (x : Opd) (lo hi : Option Opd) : opR T (.sls x lo hi) fr h = (match x.ev fr with
  | .s l => (slS l (lo.map (Opd.ev fr)) (hi.map (Opd.ev fr))).map (·, h)
  | _ => none) := _root_.id rfl
end Go.Proofs.YthllkjhommnocaaDoor
end
section
namespace Go.Proofs.YthllkjhommnocaaDoor
def XUb := (And.intro (And.intro (And.intro (And.intro (And.intro (And.intro (And.intro @KBX (And.intro @Xko @QUN)) (And.intro (And.intro @YJJ @KnJ) (And.intro @zlx @zSp))) (And.intro (And.intro @Zcq (And.intro @X7t @Yyv)) (And.intro (And.intro @J20 @Q3N) (And.intro @qsb @ZDY)))) (And.intro (And.intro (And.intro @Y2j (And.intro @KXI @Yv8)) (And.intro (And.intro @JsW @JY2) (And.intro @ZeF @z5f))) (And.intro (And.intro (And.intro @JOV @W_op) (And.intro @K14 @XLj)) (And.intro (And.intro @KFv @z87) (And.intro @X7q @JOK))))) (And.intro (And.intro (And.intro (And.intro @QF3 (And.intro @KQf @XFA)) (And.intro (And.intro @YGT @XHP) (And.intro @pl_0 @pl_s))) (And.intro (And.intro @JcR (And.intro @QiT @KWy)) (And.intro (And.intro @QPT @ev_t) (And.intro @ev_c @Ymx)))) (And.intro (And.intro (And.intro @XUs (And.intro @YC9 @JGW)) (And.intro (And.intro @K5A @zsQ) (And.intro @z6c @Xeb))) (And.intro (And.intro (And.intro @ZtQ @JHM) (And.intro @YVg @ZWu)) (And.intro (And.intro @Kw9 @zzQ) (And.intro @K9O @Qlt)))))) (And.intro (And.intro (And.intro (And.intro (And.intro @Xtk (And.intro @YtK @qrf)) (And.intro (And.intro @Z2c @KAR) (And.intro @Js6 @JEu))) (And.intro (And.intro @ZNd (And.intro @YUo @J5c)) (And.intro (And.intro @qVx @X2B) (And.intro @Qfd @QdC)))) (And.intro (And.intro (And.intro @zxb (And.intro @X7B @KYF)) (And.intro (And.intro @YGS @QZe) (And.intro @Yul @Yqh))) (And.intro (And.intro (And.intro @QSa @zOS) (And.intro @YC1 @JGa)) (And.intro (And.intro @JnF @Yrn) (And.intro @zQy @Xd6))))) (And.intro (And.intro (And.intro (And.intro @QP9 (And.intro @Tab.at_nil @Tab.at_cons)) (And.intro (And.intro @zeG @YJY) (And.intro @KWo @YgD))) (And.intro (And.intro (And.intro @zAT @zkA) (And.intro @zrk @qZy)) (And.intro (And.intro @Ku9 @J5k) (And.intro @QVg @J3q)))) (And.intro (And.intro (And.intro @ZKv (And.intro @qiR @qcy)) (And.intro (And.intro @all_nil @all_cons) (And.intro @XU5 @Kht))) (And.intro (And.intro (And.intro @zti @q2A) (And.intro @J5W @Qzw)) (And.intro (And.intro @Q3i @qUo) (And.intro @qEF @zqZ))))))) (And.intro (And.intro (And.intro (And.intro (And.intro (And.intro @Qjg (And.intro @XLZ @Kfq)) (And.intro (And.intro @Yk9 @zgY) (And.intro @K67 @XFM))) (And.intro (And.intro @Qu9 (And.intro @QWx @q7L)) (And.intro (And.intro @KeQ @zG2) (And.intro @Q16 @Ks6)))) (And.intro (And.intro (And.intro @zFX (And.intro @Zwg @JHL)) (And.intro (And.intro @KkF @XEJ) (And.intro @Jvm @JQT))) (And.intro (And.intro (And.intro @YpF @KiV) (And.intro @qnI @XwC)) (And.intro (And.intro @QYE @KLg) (And.intro @KDH @Jor))))) (And.intro (And.intro (And.intro (And.intro @true_and (And.intro @and_true @true_implies)) (And.intro (And.intro @Bool.true_and @Bool.and_true) (And.intro @Bool.false_and @Bool.and_false))) (And.intro (And.intro (And.intro @Nat.lt_add_one @tp_0) (And.intro @tp_s @qUd)) (And.intro (And.intro @zRV @Z0S) (And.intro @ZFL @Int.cast_ofNat_Int)))) (And.intro (And.intro (And.intro @Int.natCast_inj (And.intro @Int.ofNat_lt @Int.ofNat_le)) (And.intro (And.intro @Int.toNat_natCast @Int.natCast_nonneg) (And.intro @not_false_eq_true @not_true_eq_false))) (And.intro (And.intro (And.intro @Bool.false_eq_true @Xo3) (And.intro @zIm @ZiP)) (And.intro (And.intro @Jrr @YnT) (And.intro @zq4 @QAK)))))) (And.intro (And.intro (And.intro (And.intro (And.intro @XCK (And.intro @Xo2 @YR8)) (And.intro (And.intro @Qei @zHV) (And.intro @Jz6 @ZJy))) (And.intro (And.intro @X8U (And.intro @q2i @YNo)) (And.intro (And.intro @qAs @qqB) (And.intro @QHX @zNW)))) (And.intro (And.intro (And.intro @Zpw (And.intro @Jie @JOT)) (And.intro (And.intro @JnI @zqX) (And.intro @Jnm @qSe))) (And.intro (And.intro (And.intro @KbF @XgG) (And.intro @YHN @KvD)) (And.intro (And.intro @J8P @QRe) (And.intro @zsk @YiN))))) (And.intro (And.intro (And.intro (And.intro @J4W (And.intro @Yzp @YG4)) (And.intro (And.intro @YuJ @zO4) (And.intro @Xsq @Kn6))) (And.intro (And.intro (And.intro @zSu @zW5) (And.intro @YlL @YLo)) (And.intro (And.intro @Qav @YkA) (And.intro @qXj @JiL)))) (And.intro (And.intro (And.intro @QjM (And.intro @Nat.add_assoc @QkM)) (And.intro (And.intro @JOp @KgJ) (And.intro @YNX @QsU))) (And.intro (And.intro (And.intro @qyz @z1B) (And.intro @qXb @zyF)) (And.intro (And.intro @Ket @QcO) (And.intro @Kbx @JcV))))))))
def YvX := (And.intro (And.intro (And.intro (And.intro (And.intro @z8w @zfG) (And.intro @QUE (And.intro @ZRU @XBY))) (And.intro (And.intro @nd_0 (And.intro @nd_s @q0e)) (And.intro @ZFL (And.intro @Z0S @Zwg)))) (And.intro (And.intro (And.intro @JHL (And.intro @decide_eq_true_eq @Bool.and_eq_true)) (And.intro @Bool.and_true (And.intro @Bool.true_and @Nat.lt_add_right_iff_pos))) (And.intro (And.intro @Nat.lt_add_one (And.intro @Nat.add_lt_add_iff_left @Nat.zero_lt_succ)) (And.intro @or_true (And.intro @true_or @and_true))))) (And.intro (And.intro (And.intro (And.intro @true_and @and_self) (And.intro @Nat.zero_add (And.intro @Nat.add_zero @false_or))) (And.intro (And.intro @qFD (And.intro @Zfr @qiv)) (And.intro @JsA (And.intro @zRV @qUd)))) (And.intro (And.intro (And.intro @imp_self (And.intro @KC5 @qrQ)) (And.intro @qZi (And.intro @zTb @decide_true))) (And.intro (And.intro @Bool.or_true (And.intro @Z1y @QcP)) (And.intro @zwm (And.intro @Q2S @Nat.lt_irrefl))))))
def Xgj := (And.intro (And.intro (And.intro @ZA0 @ZaI) (And.intro @qbl (And.intro @KPX @QgU))) (And.intro (And.intro @qhb @qTL) (And.intro @zwn (And.intro @ZXZ @XNQ))))
end Go.Proofs.YthllkjhommnocaaDoor
end
