/- Part 12 of what the laws' proofs rest on. No condition. -/
import Derived.Test.YthhghdebjiiliaaDoorPb11
set_option linter.all false
section
namespace Go.Proofs.YthhghdebjiiliaaDoor
open Go.RowKit
section
variable {T : Env} {fr : List AV} {h : List AB}
theorem QiT (v : AV) : put fr none v = fr := _root_.id rfl
theorem JcR (d : Nat) (v : AV) : put fr (some d) v = fr.set d v := _root_.id rfl
theorem KWy (a : AV) (l : List AV) (v : AV) : (a :: l).set 0 v = v :: l := _root_.id rfl
theorem QPT (a : AV) (l : List AV) (n : Nat) (v : AV) : (a :: l).set (n + 1) v = a :: l.set n v := _root_.id rfl
def pl : List AV → Nat → AV
 | [], _ => .tu []
 | a :: _, 0 => a
 | _ :: l, n + 1 => pl l n
theorem Jnt : ∀ (l : List AV) (n : Nat), l.getD n (.tu []) = pl l n
 | [], n => by simp [pl]
 | a :: l, 0 => by simp [pl]
 | a :: l, n + 1 => by simpa [pl] using Jnt l n
theorem pl_0 (a : AV) (l : List AV) : pl (a :: l) 0 = a := _root_.id rfl
theorem pl_s (a : AV) (l : List AV) (n : Nat) : pl (a :: l) (n + 1) = pl l n := _root_.id rfl
theorem ev_t (n : Nat) : Opd.ev fr (.t n) = pl fr n := Jnt fr n
theorem ev_c (v : AV) : Opd.ev fr (.c v) = v := _root_.id rfl
theorem XHP (n : Nat) : gv fr n = pl fr n := Jnt fr n
theorem Ymx (x : Opd) : opR T (.mv x) fr h = some (x.ev fr, h) := _root_.id rfl
theorem XUs (op : BinOp) (x y : Opd) : opR T (.bin op x y) fr h = (binV op (x.ev fr) (y.ev fr)).map (·, h) := _root_.id rfl
theorem YC9 (op : UnOp) (x : Opd) : opR T (.un op x) fr h = (unV op (x.ev fr)).map (·, h) := _root_.id rfl
def qMb (c a b : AV) : Option AV := match c with
 | .b t => some (if t then a else b)
 | _ => none
theorem JGW (c a b : Opd) : opR T (.pick c a b) fr h = (qMb (c.ev fr) (a.ev fr) (b.ev fr)).map (·, h) := by
 show (match Opd.ev fr c with | .b t => some (if t then Opd.ev fr a else Opd.ev fr b, h) | _ => none) = _
 unfold qMb
 cases Opd.ev fr c <;> rfl
theorem qVx (a b : AV) : qMb (.b true) a b = some a := _root_.id rfl
theorem X2B (a b : AV) : qMb (.b false) a b = some b := _root_.id rfl
theorem K5A (s : Bool) (x : Opd) : opR T (.len s x) fr h = if (x.ev fr).isStr = s then (lenV (x.ev fr)).map fun n => (.i .i64 n, h) else none := _root_.id rfl
theorem Qlt (x : Opd) (i : Nat) : opR T (.ext x i) fr h = (match x.ev fr with | .tu l => (l[i]?).map (·, h) | _ => none) := _root_.id rfl
theorem zsQ (m : Bool) (x y : Opd) : opR T (.mm m x y) fr h = (mmV m (x.ev fr) (y.ev fr)).map (·, h) := _root_.id rfl
theorem z6c (n : Option Nat) (x : Opd) : opR T (.ld n x) fr h = (ldV h n (x.ev fr)).map (·, h) := _root_.id rfl
theorem XUh (o : Nat) (x : Opd) : opR T (.fad o x) fr h = (match x.ev fr with | .p id q => some (.p id (q + o), h) | _ => none) := _root_.id rfl
theorem Qfd {α β : Type} (f : α → β) (a : α) : Option.map f (some a) = some (f a) := _root_.id rfl
theorem zxb {α β : Type} (f : α → β) : Option.map f none = none := _root_.id rfl
theorem QdC {α β : Type} (f : α → β) (t : Prop) [Decidable t] (a : α) : Option.map f (if t then some a else none) = if t then some (f a) else none := by split <;> rfl
theorem YGS (k : IntKind) (a b : Int) : binV .lss (.i k a) (.i k b) = some (.b (decide (a < b))) := by simp [binV, binI]
theorem QZe (k : IntKind) (a b : Int) : binV .leq (.i k a) (.i k b) = some (.b (decide (a ≤ b))) := by simp [binV, binI]
theorem Yul (k : IntKind) (a b : Int) : binV .gtr (.i k a) (.i k b) = some (.b (decide (b < a))) := by simp [binV, binI]
theorem Yqh (k : IntKind) (a b : Int) : binV .geq (.i k a) (.i k b) = some (.b (decide (b ≤ a))) := by simp [binV, binI]
theorem QSa (k : IntKind) (a b : Int) : binV .eql (.i k a) (.i k b) = some (.b (decide (a = b))) := by simp [binV, binI, BEq.beq]
theorem zOS (k : IntKind) (a b : Int) : binV .neq (.i k a) (.i k b) = some (.b (decide (¬ a = b))) := by simp [binV, binI, bne, BEq.beq]
theorem YC1 (k : IntKind) (a b : Int) : binV .add (.i k a) (.i k b) = some (.i k (k.wrap (a + b))) := by simp [binV, binI]
theorem JGa (k : IntKind) (a b : Int) : binV .sub (.i k a) (.i k b) = some (.i k (k.wrap (a - b))) := by simp [binV, binI]
theorem JnF (k : IntKind) (a b : Int) : mmV true (.i k a) (.i k b) = some (.i k (max a b)) := by
 simp only [mmV, if_true, Option.some.injEq, AV.i.injEq, true_and]
 omega
theorem Yrn (k : IntKind) (a b : Int) : mmV false (.i k a) (.i k b) = some (.i k (min a b)) := by
 simp only [mmV, Bool.false_eq_true, if_false, Option.some.injEq, AV.i.injEq, true_and]
 omega
def In64 (a : Int) : Prop := -9223372036854775808 ≤ a ∧ a < 9223372036854775808
theorem Jeb {a : Int} (h : In64 a) : IntKind.i64.wrap a = a := IntWalk.i64_in _ (by unfold In64 at h; omega)
def AV.isSl : AV → Bool
 | .ns | .se | .sl _ _ _ _ _ => true
 | _ => false
def rdS (h : List AB) (sz : Nat) : AV → Option (Nat × List AV)
 | .ns | .se => some (0, [])
 | .sl id off len _ _ => if len = 0 then some (0, []) else (JZy h id).bind fun xs => if off + len * sz ≤ xs.length then some (len, (xs.drop off).take (len * sz)) else none
 | _ => none
def elP (sz : Nat) (s : AV) (n j : Nat) : AV :=
 match s with
 | .sl id off _ _ _ => .p id (off + n * sz + j)
 | _ => .np
theorem QtI {s : AV} (e : s.isSl = true) : s.isStr = false := by cases s <;> first | rfl | cases e
theorem ZYZ {s : AV} (e : s.isSl = true) : s.one = true := by cases s <;> first | rfl | cases e
theorem qVX {s : AV} (e : s.isSl = true) : s.known = true := by cases s <;> first | rfl | cases e
theorem KXj {s : AV} (e : s.isSl = true) : s.cells = [s] := by cases s <;> first | rfl | cases e
theorem J6R (sz : Nat) (x i : Opd) : opR T (.iad sz x i) fr h = (match x.ev fr, i.ev fr with
  | .sl id off k _ _, .i _ n => if 0 ≤ n ∧ n < k then some (.p id (off + n.toNat * sz), h) else none
  | _, _ => none) := rfl
def iadV (sz : Nat) (s i : AV) : Option AV :=
 match s, i with
 | .sl id off k _ _, .i _ n => if 0 ≤ n ∧ n < k then some (.p id (off + n.toNat * sz)) else none
 | _, _ => none
theorem Kw9 (sz : Nat) (x i : Opd) : opR T (.iad sz x i) fr h = (iadV sz (x.ev fr) (i.ev fr)).map (·, h) := by
 rw [J6R]
 unfold iadV
 split
 ·split <;> rfl
 ·rfl
def fadV (o : Nat) : AV → Option AV
 | .p id q => some (.p id (q + o))
 | _ => none
structure Row (α : Type) where
 f : α → List AV
 sz : Nat
 len : ∀ x, (f x).length = sz
 pos : 0 < sz
 d : α
 inj : ∀ x y, f x = f y → x = y
def Row.cells {α : Type} (r : Row α) (l : List α) : List AV := l.flatMap r.f
theorem Row.cells_len {α : Type} (r : Row α) (l : List α) : (r.cells l).length = l.length * r.sz := by
 induction l with
 | nil => simp [Row.cells]
 | cons a l ih =>
  simp only [Row.cells, List.flatMap_cons, List.length_append, List.length_cons] at ih ⊢
  rw [ih, r.len, Nat.add_mul, Nat.one_mul, Nat.add_comm]
theorem Row.cells_inj {α : Type} (r : Row α) : ∀ (l l' : List α), l.length = l'.length → r.cells l = r.cells l' → l = l'
 | [], [], _, _ => rfl
 | [], _ :: _, h, _ => by simp at h
 | _ :: _, [], h, _ => by simp at h
 | a :: l, b :: l', h, e => by
  simp only [Row.cells, List.flatMap_cons] at e
  obtain ⟨e1, e2⟩ := List.append_inj e (by rw [r.len, r.len])
  rw [r.inj a b e1, Row.cells_inj r l l' (by simpa using h) e2]
def Rd {α : Type} (r : Row α) (h : List AB) (s : AV) (l : List α) : Prop := rdS h r.sz s = some (l.length, r.cells l) ∧ l.length ≤ maxLen
theorem Rd.inj {α : Type} {r : Row α} {s : AV} {l l' : List α} (e : Rd r h s l) (e' : Rd r h s l') : l = l' := by
 have := e.1.symm.trans e'.1
 simp only [Option.some.injEq, Prod.mk.injEq] at this
 exact r.cells_inj l l' this.1 this.2
open Classical in
noncomputable def getS {α : Type} (r : Row α) (h : List AB) (s : AV) : Option (List α) := if e : ∃ l, Rd r h s l then some e.choose else none
theorem Rd.get {α : Type} {r : Row α} {s : AV} {l : List α} (e : Rd r h s l) : getS r h s = some l := by
 unfold getS
 have hx : ∃ l, Rd r h s l := ⟨l, e⟩
 rw [dif_pos hx, hx.choose_spec.inj e]
theorem Rd.ok {α : Type} {r : Row α} {s : AV} {l : List α} (_ : Rd r h s l) {q q' : Nat → Bool} (ho : s.ok q = true) (hq : ∀ i, q i = true → q' i = true) : s.ok q' = true := AV.ok_mono hq s ho
theorem QUH {len0 lo hi anc : Nat} {past : List Pt} {i : Nat} (hi' : i < len0) : qOk len0 lo hi anc past i = true := by
 simp [qOk, hi']
def intR : Row Int := ⟨fun n => [.i .i64 n], 1, fun _ => rfl, by decide, 0, fun x y h => by simpa using h⟩
def dotR : Row (Int × Int) := ⟨fun d => [.i .i64 d.1, .i .i64 d.2], 2, fun _ => rfl, by decide, (0, 0), fun x y h => by
 simp only [List.cons.injEq, AV.i.injEq, true_and, and_true] at h
 exact Prod.ext h.1 h.2⟩
theorem qZi (n : Int) : intR.f n = [.i .i64 n] := _root_.id rfl
theorem zTb (d : Int × Int) : dotR.f d = [.i .i64 d.1, .i .i64 d.2] := _root_.id rfl
theorem XgG : (false ^^ false) = false := _root_.id rfl
theorem YHN : (false ^^ true) = true := _root_.id rfl
theorem KvD : (true ^^ false) = true := _root_.id rfl
theorem J8P : (true ^^ true) = false := _root_.id rfl
theorem qSe (p : Prop) [Decidable p] : (decide p ^^ false) = decide p := by simp
theorem KbF (p : Prop) [Decidable p] : (decide p ^^ true) = decide (¬ p) := by simp
theorem Zwg {α : Type} (a : α) (l : List α) : (a :: l)[0]? = some a := _root_.id rfl
theorem JHL {α : Type} (a : α) (l : List α) (n : Nat) : (a :: l)[n + 1]? = l[n]? := by simp
theorem zzQ (o : Nat) (x : Opd) : opR T (.fad o x) fr h = (fadV o (x.ev fr)).map (·, h) := by
 rw [XUh]
 cases x.ev fr <;> rfl
theorem J5c (o id q : Nat) : fadV o (.p id q) = some (.p id (q + o)) := _root_.id rfl
theorem qTL (l : List AB) : (h ++ l).length = h.length + l.length := List.length_append
theorem KkF : ([] : List AB).length = 0 := _root_.id rfl
theorem XEJ (B : AB) (l : List AB) : (B :: l).length = l.length + 1 := _root_.id rfl
theorem YpF (l l' : List AB) : h ++ l ++ l' = h ++ (l ++ l') := List.append_assoc h l l'
theorem KiV (l : List AB) : [] ++ l = l := _root_.id rfl
theorem qnI (B : AB) (l l' : List AB) : (B :: l) ++ l' = B :: (l ++ l') := _root_.id rfl
theorem ZtQ (fl : Bool) (zs : List AV) : opR T (.new fl zs) fr h = newB h fl zs (fun n => .p n 0) := _root_.id rfl
theorem JHM (fl : Bool) (n : Nat) (x : Opd) : opR T (.box fl n x) fr h = if (x.ev fr).cells.length = n then newB h fl (x.ev fr).cells (fun n => .p n 0) else none := _root_.id rfl
theorem zrk (fl : Bool) (cs : List AV) (v : Nat → AV) : newB h fl cs v = if cs.all (wrOk fl) = true then some (v h.length, h ++ [.blk fl true cs]) else none := _root_.id rfl
theorem qZy (l : List AV) : (AV.ag l).cells = l := _root_.id rfl
theorem Ku9 (k : IntKind) (n : Int) : (AV.i k n).cells = [.i k n] := _root_.id rfl
theorem J5k (x : Bool) : (AV.b x).cells = [.b x] := _root_.id rfl
theorem QVg (x : List UInt8) : (AV.s x).cells = [.s x] := _root_.id rfl
theorem J3q (a b : Nat) : (AV.p a b).cells = [.p a b] := _root_.id rfl
theorem ZKv (a b c d : Nat) (k : Option Nat) : (AV.sl a b c d k).cells = [.sl a b c d k] := _root_.id rfl
theorem qiR : AV.ns.cells = [.ns] := _root_.id rfl
theorem qcy (f : Fn) (a b : List AV) : (AV.f f a b).cells = [.f f a b] := _root_.id rfl
theorem all_nil {α : Type} (p : α → Bool) : ([] : List α).all p = true := _root_.id rfl
theorem all_cons {α : Type} (p : α → Bool) (a : α) (l : List α) : (a :: l).all p = (p a && l.all p) := _root_.id rfl
theorem XU5 (v : AV) : wrOk true v = v.flat := _root_.id rfl
theorem Kht (v : AV) : wrOk false v = v.one := _root_.id rfl
theorem zti (k : IntKind) (n : Int) : (AV.i k n).one = true := _root_.id rfl
theorem q2A (x : Bool) : (AV.b x).one = true := _root_.id rfl
theorem J5W (x : List UInt8) : (AV.s x).one = true := _root_.id rfl
theorem Qzw (a b : Nat) : (AV.p a b).one = true := _root_.id rfl
theorem Q3i (a b c d : Nat) (k : Option Nat) : (AV.sl a b c d k).one = true := _root_.id rfl
theorem qUo : AV.ns.one = true := _root_.id rfl
theorem qEF (f : Fn) (a b : List AV) : (AV.f f a b).one = true := _root_.id rfl
theorem zqZ (k : IntKind) (n : Int) : (AV.i k n).flat = true := _root_.id rfl
theorem Qjg (x : Bool) : (AV.b x).flat = true := _root_.id rfl
theorem XLZ (x : List UInt8) : (AV.s x).flat = true := _root_.id rfl
theorem Kfq : AV.ns.flat = true := _root_.id rfl
def ownC : List AB → Nat → Option (List AV)
 | [], _ => none
 | .blk _ _ xs :: _, 0 => some xs
 | _ :: _, 0 => none
 | _ :: l, n + 1 => ownC l n
theorem YAm : ∀ (l : List AB) (k : Nat), JZy l k = ownC l k
 | [], k => by simp [JZy, ownC]
 | B :: l, 0 => by cases B <;> simp [JZy, ownC]
 | B :: l, k + 1 => by
  have := YAm l k
  unfold JZy at this ⊢
  rw [List.getElem?_cons_succ, this]
  cases B <;> rfl
theorem YNX (l : List AB) (k : Nat) : JZy (h ++ l) (h.length + k) = ownC l k := by
 rw [← YAm]
 unfold JZy
 rw [List.getElem?_append_right (by omega), Nat.add_sub_cancel_left]
theorem Yk9 (fl m : Bool) (xs : List AV) (l : List AB) : ownC (.blk fl m xs :: l) 0 = some xs := _root_.id rfl
theorem zgY (B : AB) (l : List AB) (n : Nat) : ownC (B :: l) (n + 1) = ownC l n := by cases B <;> rfl
theorem ZA0 (l : List AB) (k o : Nat) : ldV (h ++ l) none (.p (h.length + k) o) = (ownC l k).bind fun xs => xs[o]? := by
 simp only [ldV, YNX]
theorem ZaI (l : List AB) (k o n : Nat) : ldV (h ++ l) (some n) (.p (h.length + k) o) = (ownC l k).bind fun xs => if o + n ≤ xs.length then some (.ag ((xs.drop o).take n)) else none := by
 simp only [ldV, YNX]
theorem X7B {α β : Type} (a : α) (f : α → Option β) : (some a).bind f = f a := _root_.id rfl
theorem KYF {α β : Type} (f : α → Option β) : (none : Option α).bind f = none := _root_.id rfl
def ownW : List AB → Nat → Nat → List AV → Option (List AB)
 | [], _, _, _ => none
 | .blk fl true xs :: l, 0, o, ys => if o + ys.length ≤ xs.length ∧ ys.all (wrOk fl) = true then some (.blk fl true (over xs o ys) :: l) else none
 | _ :: _, 0, _, _ => none
 | B :: l, n + 1, o, ys => (ownW l n o ys).map (B :: ·)
theorem JiP (ys : List AV) (o : Nat) : ∀ (l : List AB) (k : Nat), stB l k o ys = ownW l k o ys
 | [], k => by simp [stB, ownW]
 | B :: l, 0 => by
  cases B with
  | blk fl m xs => cases m <;> simp [stB, ownW]
  | _ => simp [stB, ownW]
 | B :: l, k + 1 => by
  have := JiP ys o l k
  have e : ownW (B :: l) (k + 1) o ys = (ownW l k o ys).map (B :: ·) := by
   cases B with
   | blk fl m xs => cases m <;> rfl
   | _ => rfl
  rw [e, ← this]
  unfold stB
  rw [List.getElem?_cons_succ]
  split <;> (try split) <;> simp_all
theorem KpI (l : List AB) (k o : Nat) (ys : List AV) : stB (h ++ l) (h.length + k) o ys = (ownW l k o ys).map (h ++ ·) := by
 rw [← JiP]
 unfold stB
 rw [List.getElem?_append_right (by omega), Nat.add_sub_cancel_left]
 split
 ·rename_i fl xs hx
  split
  ·simp only [Option.map_some, Option.some.injEq]
   rw [List.set_append_right _ _ (by omega), Nat.add_sub_cancel_left]
  ·rfl
 ·rfl
theorem K67 (fl : Bool) (xs : List AV) (l : List AB) (o : Nat) (ys : List AV) : ownW (.blk fl true xs :: l) 0 o ys = if o + ys.length ≤ xs.length ∧ ys.all (wrOk fl) = true then some (.blk fl true (over xs o ys) :: l) else none := _root_.id rfl
theorem XFM (B : AB) (l : List AB) (n o : Nat) (ys : List AV) : ownW (B :: l) (n + 1) o ys = (ownW l n o ys).map (B :: ·) := by
 cases B with
 | blk fl m xs => cases m <;> rfl
 | _ => rfl
theorem Xeb (n : Option Nat) (x v : Opd) : opR T (.st n x v) fr h = (stV h n (x.ev fr) (v.ev fr)).map (.tu [], ·) := _root_.id rfl
theorem qbl (l : List AB) (k o : Nat) (v : AV) : stV (h ++ l) none (.p (h.length + k) o) v = if v.one = true then (ownW l k o [v]).map (h ++ ·) else none := by
 simp only [stV, KpI]
theorem KPX (l : List AB) (k o n : Nat) (vs : List AV) : stV (h ++ l) (some n) (.p (h.length + k) o) (.ag vs) = if vs.length = n then (ownW l k o vs).map (h ++ ·) else none := by
 simp only [stV, KpI]
theorem Qu9 (x : AV) (xs : List AV) (v : AV) : over (x :: xs) 0 [v] = v :: xs := _root_.id rfl
theorem QWx (x : AV) (xs : List AV) (o : Nat) (vs : List AV) : over (x :: xs) (o + 1) vs = x :: over xs o vs := by
 simp only [over, List.take_succ_cons, List.cons_append, List.append_assoc]
 rw [show o + 1 + vs.length = (o + vs.length) + 1 by omega, List.drop_succ_cons]
theorem q7L (x : AV) (xs : List AV) (v : AV) (vs : List AV) : over (x :: xs) 0 (v :: vs) = v :: over xs 0 vs := by
 simp [over, Nat.add_comm]
theorem KeQ (xs : List AV) : over xs 0 [] = xs := by simp [over]
theorem Jvm : ([] : List AV).length = 0 := _root_.id rfl
theorem JQT (B : AV) (l : List AV) : (B :: l).length = l.length + 1 := _root_.id rfl
theorem zG2 {α : Type} (l : List α) : l.take 0 = [] := _root_.id rfl
theorem Q16 {α : Type} (a : α) (l : List α) (n : Nat) : (a :: l).take (n + 1) = a :: l.take n := _root_.id rfl
theorem Ks6 {α : Type} (l : List α) : l.drop 0 = l := _root_.id rfl
theorem zFX {α : Type} (a : α) (l : List α) (n : Nat) : (a :: l).drop (n + 1) = l.drop n := _root_.id rfl
theorem K9O (x : Opd) : opR T (.nck x) fr h = (match x.ev fr with
  | .p id off => some (.p id off, h)
  | .f (.func f) fst cap => some (.f (.func f) fst cap, h)
  | .f (.yield l) fst cap => some (.f (.yield l) fst cap, h)
  | .ifc t v => some (.ifc t v, h)
  | _ => none) := rfl
theorem Xtk (n : Bool) (x y : Opd) : opR T (.eqb n x y) fr h = (match x.ev fr, y.ev fr with
  | .b p, .b q => some (.b ((p == q) ^^ n), h)
  | _, _ => none) := rfl
theorem YtK (ks : List CK) (n : Bool) (x y : Opd) : opR T (.eqc ks n x y) fr h = (match x.ev fr, y.ev fr with
  | .ag l, .ag l' => (qE2 ks l l').map fun r => (.b (r ^^ n), h)
  | _, _ => none) := rfl
theorem qrf (k : IntKind) (x : Opd) : opR T (.cvi k x) fr h = (x.ev fr).int?.map fun n => (.i k (k.wrap n), h) := _root_.id rfl
theorem Z2c (fn : Fn) (a b : List Opd) : opR T (.mkf fn a b) fr h = some (.f fn (a.map (Opd.ev fr)) (b.map (Opd.ev fr)), h) := _root_.id rfl
theorem KAR (sz : Nat) (x : Opd) (lo hi mx : Option Opd) : opR T (.sll sz x lo hi mx) fr h = (slL sz (x.ev fr) (lo.map (Opd.ev fr)) (hi.map (Opd.ev fr)) (mx.map (Opd.ev fr))).map (·, h) := _root_.id rfl
theorem YVg (zs : List AV) (ps : List (Nat × Nat × Opd)) : opR T (.bld zs ps) fr h = (YwX (Opd.ev fr) zs ps).map fun cs => (.ag cs, h) := _root_.id rfl
theorem ZWu (fl : Bool) (n : Nat) (zs : List AV) (ps : List (Nat × Nat × Opd)) : opR T (.bls fl n zs ps) fr h = (YwX (Opd.ev fr) zs ps).bind fun cs => newB h fl cs (fun m => .sl m 0 n n none) := _root_.id rfl
theorem Js6 (str fl : Bool) (sz by_ : Nat) (s x : Opd) : opR T (.app str fl sz by_ s x) fr h = if (x.ev fr).isStr = str then appV h fl sz by_ (s.ev fr) (x.ev fr) else none := _root_.id rfl
theorem JEu (f : Opd) (args : List Opd) : opR T (.call f args) fr h = QPB T (f.ev fr) (args.map (Opd.ev fr)) h := _root_.id rfl
theorem ZNd (g : Nat) (a b args : List AV) : QPB T (.f (.func g) a b) args h = T.fns.at g (a ++ args ++ b) h := _root_.id rfl
theorem YUo (id : Nat) (args : List AV) : QPB T (.y id) args h = T.rds.at id args h := _root_.id rfl
theorem zeG {α β : Type} (f : α → β) : [].map f = [] := _root_.id rfl
theorem YJY {α β : Type} (f : α → β) (a : α) (l : List α) : (a :: l).map f = f a :: l.map f := _root_.id rfl
theorem zAT (ev : Opd → AV) (cs : List AV) : YwX ev cs [] = some cs := _root_.id rfl
theorem zkA (ev : Opd → AV) (cs : List AV) (o n : Nat) (x : Opd) (l : List (Nat × Nat × Opd)) : YwX ev cs ((o, n, x) :: l) = if (ev x).cells.length = n ∧ o + n ≤ cs.length ∧ (ev x).known = true then YwX ev (over cs o (ev x).cells) l else none := _root_.id rfl
theorem zQy (p : Prop) [Decidable p] : unV .not (.b (decide p)) = some (.b (decide (¬ p))) := by simp [unV]
theorem Xd6 : unV .not (.b true) = some (.b false) := _root_.id rfl
theorem QP9 : unV .not (.b false) = some (.b true) := _root_.id rfl
theorem XwC {P : Program} {p : Nat} {res : List RC} {a : AV} {h' : List AB} : Fin P p res a h' .r fr h = ∃ v, resV fr h res = some v ∧ Bt P p [v] h [a] h' := _root_.id rfl
theorem QYE {P : Program} {p : Nat} {res : List RC} {a : AV} {h' : List AB} : Fin P p res a h' .n fr h = ∃ v, resV fr h res = some v ∧ Bt P p [v] h [a] h' := _root_.id rfl
theorem KDH {P : Program} {p n : Nat} {a : AV} {h' : List AB} : (∃ v, resV fr h [RC.t n] = some v ∧ Bt P p [v] h [a] h') = Bt P p [pl fr n] h [a] h' := by
 simp only [resV, JBx, qdM, Option.bind_some, Option.map_some, Option.some.injEq, exists_eq_left', Jnt]
theorem Jor {P : Program} {p n m : Nat} {a : AV} {h' : List AB} : (∃ v, resV fr h [RC.t n, RC.t m] = some v ∧ Bt P p [v] h [a] h') = Bt P p [.tu [pl fr n, pl fr m]] h [a] h' := by
 simp only [resV, JBx, qdM, Option.bind_some, Option.map_some, Option.some.injEq, exists_eq_left', Jnt]
theorem KLg {P : Program} {p : Nat} {a : AV} {h' : List AB} : (∃ v, resV fr h [] = some v ∧ Bt P p [v] h [a] h') = Bt P p [.tu []] h [a] h' := by
 simp only [resV, JBx, Option.map_some, Option.some.injEq, exists_eq_left']
theorem XSG (a : AV) : List.replicate 0 a = [] := _root_.id rfl
theorem YPr (n : Nat) (a : AV) : List.replicate (n + 1) a = a :: List.replicate n a := _root_.id rfl
theorem KWo (l : List AV) : [] ++ l = l := _root_.id rfl
theorem YgD (a : AV) (l l' : List AV) : (a :: l) ++ l' = a :: (l ++ l') := _root_.id rfl
end
end Go.Proofs.YthhghdebjiiliaaDoor
end
section
namespace Go.Proofs.YthhghdebjiiliaaDoor
open Go.RowKit
section
variable {T : Env} {fr : List AV} {h : List AB}
theorem Zit (a b : Nat) : Nat.blt a b = decide (a < b) := by
 by_cases e : a < b
 ·rw [decide_eq_true e, (show Nat.blt a b = true from by rw [Nat.blt_eq]; exact e)]
 ·rw [decide_eq_false e]
  cases hb : Nat.blt a b with
  | true => exact absurd (by rw [Nat.blt_eq] at hb; exact hb) e
  | false => rfl
theorem JNR (a b : Nat) : Nat.ble a b = decide (a ≤ b) := by
 by_cases e : a ≤ b
 ·rw [decide_eq_true e, (show Nat.ble a b = true from by rw [Nat.ble_eq]; exact e)]
 ·rw [decide_eq_false e]
  cases hb : Nat.ble a b with
  | true => exact absurd (by rw [Nat.ble_eq] at hb; exact hb) e
  | false => rfl
theorem zYO (n : Nat) : memN n [] = false := _root_.id rfl
theorem ZYj (n m : Nat) (l : List Nat) : memN n (m :: l) = (decide (n = m) || memN n l) := by
 rw [memN]
 by_cases e : n = m
 ·subst e
  simp
 ·have : Nat.beq m n = false := by
   cases hb : Nat.beq m n with
   | false => rfl
   | true => exact absurd (Nat.eq_of_beq_eq_true hb).symm e
  rw [this]
  simp [e]
theorem qfU (n : Nat) : ∀ (l l' : List Nat), memN n (l ++ l') = (memN n l || memN n l')
 | [], l' => rfl
 | m :: l, l' => by rw [List.cons_append, ZYj, ZYj, qfU n l l', Bool.or_assoc]
theorem qRX (id len0 anc n : Nat) (past : List Pt) : memN id (seen len0 anc past n) = (decide (id < n) && qOk len0 0 0 anc past id) := by
 cases h1 : memN id (seen len0 anc past n) with
 | true =>
  have := List.mem_filter.1 (zKV.1 h1)
  rw [this.2, decide_eq_true (List.mem_range.1 this.1)]
  rfl
 | false =>
  cases h2 : (decide (id < n) && qOk len0 0 0 anc past id) with
  | false => rfl
  | true =>
   simp only [Bool.and_eq_true, decide_eq_true_eq] at h2
   have : memN id (seen len0 anc past n) = true := zKV.2 (List.mem_filter.2 ⟨List.mem_range.2 h2.1, h2.2⟩)
   rw [h1] at this
   cases this
theorem zir (len0 lo hi anc : Nat) (past : List Pt) (id : Nat) : qOk len0 lo hi anc past id = (decide (id < len0) || (decide (lo ≤ id) && decide (id < hi)) || past.any fun p => bit p.k anc && decide (p.lo ≤ id) && decide (id < p.hi)) := by
 simp only [qOk, Zit, JNR]
theorem ZD6 (k m : Nat) : bit k m = decide (m / 2 ^ k % 2 = 1) := by
 rw [XAT, Nat.testBit_eq_decide_div_mod_eq]
theorem z93 (len0 anc : Nat) (past : List Pt) (ws : List Nat) (p : Pt) : qUm len0 anc past ws p = (bit p.k anc || (p.ws.all (fun id => !qOk len0 0 0 anc past id) && (decide (p.hi ≤ p.lo) || (decide (len0 ≤ p.lo) && past.all fun p' => !bit p'.k anc || decide (p'.hi ≤ p.lo) || decide (p.hi ≤ p'.lo))) && ws.all fun id => !X72 p id && !memN id (p.rs ++ p.ws))) := by
 simp only [qUm, JNR]
theorem QaH (p : Pt) (id : Nat) : X72 p id = (memN id p.ws || (decide (p.lo ≤ id) && decide (id < p.hi))) := by
 simp only [X72, Zit, JNR]
def mskL (base c anc : Nat) (past : List Pt) (ws : List Nat) : Nat → List AB → List AB
 | _, [] => []
 | i, B :: l => (if memN (base + i) ws then B else if qOk (base + c) 0 0 anc past (base + i) then B.freeze else .dead) :: mskL base c anc past ws (i + 1) l
theorem qT2 (base c anc : Nat) (past : List Pt) (ws : List Nat) : ∀ (l : List AB) (i j : Nat), (mskL base c anc past ws i l)[j]? = (l[j]?).map fun B => if memN (base + (i + j)) ws then B else if qOk (base + c) 0 0 anc past (base + (i + j)) then B.freeze else .dead
 | [], i, j => by simp [mskL]
 | B :: l, i, 0 => by simp [mskL]
 | B :: l, i, j + 1 => by
  simp only [mskL, List.getElem?_cons_succ]
  rw [qT2 base c anc past ws l (i + 1) j, show i + 1 + j = i + (j + 1) by omega]
theorem Jf1 (hz : h.map AB.freeze = h) (c anc n : Nat) (past : List Pt) (ws : List Nat) (l : List AB) (hn : n = h.length + l.length) (hw : (ws.all fun id => decide (h.length ≤ id)) = true) : YWe (seen (h.length + c) anc past n) ws 0 (h ++ l) = h ++ mskL h.length c anc past ws 0 l := by
 have fz : ∀ (i : Nat) B, h[i]? = some B → B.freeze = B := fun i B hB => by
  have := congrArg (fun x => x[i]?) hz
  simp only [List.getElem?_map, hB, Option.map_some, Option.some.injEq] at this
  exact this
 refine List.ext_getElem? fun i => ?_
 rw [qza, Nat.zero_add]
 have h1 : ∀ j, j < h.length → j ∉ ws := fun j hj hm => by
  have := List.all_eq_true.1 hw j hm
  simp only [decide_eq_true_eq] at this
  omega
 by_cases hi : i < h.length
 ·rw [List.getElem?_append_left hi, List.getElem?_append_left hi, List.getElem?_eq_getElem hi, Option.map_some, if_neg (h1 i hi), if_pos]
  ·rw [fz i _ (List.getElem?_eq_getElem hi)]
  ·refine List.mem_filter.2 ⟨List.mem_range.2 (by omega), ?_⟩
   exact QUH (by omega)
 ·rw [List.getElem?_append_right (by omega), List.getElem?_append_right (by omega), qT2]
  cases hB : l[i - h.length]? with
  | none => rfl
  | some B =>
   have hlt := (List.getElem?_eq_some_iff.1 hB).1
   simp only [Option.map_some, Option.some.injEq, show h.length + (0 + (i - h.length)) = i by omega]
   by_cases hm : i ∈ ws
   ·rw [if_pos hm, if_pos (zKV.2 hm)]
   ·rw [if_neg hm, if_neg (fun q => hm (zKV.1 q))]
    by_cases hq : qOk (h.length + c) 0 0 anc past i = true
    ·rw [if_pos hq, if_pos]
     exact List.mem_filter.2 ⟨List.mem_range.2 (by omega), hq⟩
    ·rw [if_neg hq, if_neg]
     exact fun q => hq (List.mem_filter.1 q).2
theorem QTM (base c anc : Nat) (past : List Pt) (ws : List Nat) (i : Nat) : mskL base c anc past ws i [] = [] := _root_.id rfl
theorem YK8 (base c anc : Nat) (past : List Pt) (ws : List Nat) (i : Nat) (B : AB) (l : List AB) : mskL base c anc past ws i (B :: l) = (if memN (base + i) ws then B else if qOk (base + c) 0 0 anc past (base + i) then B.freeze else .dead) :: mskL base c anc past ws (i + 1) l := _root_.id rfl
theorem zaz (fl m : Bool) (xs : List AV) : (AB.blk fl m xs).freeze = .blk fl false xs := _root_.id rfl
theorem QQ7 : AB.dead.freeze = .dead := _root_.id rfl
def mrgL (base : Nat) (ws : List Nat) : Nat → List AB → List AB → List AB
 | _, G, [] => G
 | i, [], B :: l => (if memN (base + i) ws then .dead else B) :: mrgL base ws (i + 1) [] l
 | i, C :: G, B :: l => (if memN (base + i) ws then C else B) :: mrgL base ws (i + 1) G l
theorem qNu (base : Nat) (ws : List Nat) : ∀ (l G : List AB) (i j : Nat), (mrgL base ws i G l)[j]? = if j < l.length then (if base + (i + j) ∈ ws then some ((G[j]?).getD .dead) else l[j]?) else G[j]?
 | [], G, i, j => by simp [mrgL]
 | B :: l, [], i, 0 => by
  by_cases hm : base + i ∈ ws <;> simp [mrgL, zKV, hm]
 | B :: l, C :: G, i, 0 => by
  by_cases hm : base + i ∈ ws <;> simp [mrgL, zKV, hm]
 | B :: l, [], i, j + 1 => by
  have := qNu base ws l [] (i + 1) j
  simp only [mrgL, List.getElem?_cons_succ, List.length_cons, Nat.add_lt_add_iff_right] at this ⊢
  rw [this, show i + 1 + j = i + (j + 1) by omega]
  simp
 | B :: l, C :: G, i, j + 1 => by
  have := qNu base ws l G (i + 1) j
  simp only [mrgL, List.getElem?_cons_succ, List.length_cons, Nat.add_lt_add_iff_right] at this ⊢
  rw [this, show i + 1 + j = i + (j + 1) by omega]
theorem XNQ (ws : List Nat) (G l : List AB) (hw : (ws.all fun id => decide (h.length ≤ id)) = true) : Yjq ws (h ++ G) 0 (h ++ l) = h ++ mrgL h.length ws 0 G l := by
 have h1 : ∀ j, j < h.length → j ∉ ws := fun j hj hm => by
  have := List.all_eq_true.1 hw j hm
  simp only [decide_eq_true_eq] at this
  omega
 refine List.ext_getElem? fun i => ?_
 rw [zcu, Nat.zero_add]
 by_cases hi : i < h.length
 ·rw [if_pos (by rw [List.length_append]; omega), if_neg (h1 i hi), List.getElem?_append_left hi, List.getElem?_append_left hi]
 ·rw [List.getElem?_append_right (by omega), List.getElem?_append_right (by omega), List.getElem?_append_right (by omega), qNu, List.length_append, show h.length + (0 + (i - h.length)) = i by omega]
  by_cases hl : i - h.length < l.length
  ·rw [if_pos hl, if_pos (by omega)]
  ·rw [if_neg hl, if_neg (by omega)]
theorem zud (base : Nat) (ws : List Nat) (i : Nat) (G : List AB) : mrgL base ws i G [] = G := by cases G <;> rfl
theorem Z2p (base : Nat) (ws : List Nat) (i : Nat) (C : AB) (G : List AB) (B : AB) (l : List AB) : mrgL base ws i (C :: G) (B :: l) = (if memN (base + i) ws then C else B) :: mrgL base ws (i + 1) G l := _root_.id rfl
theorem zwn (l : List AB) (n : Nat) : (h ++ l).drop (h.length + n) = l.drop n := by
 rw [List.drop_append, List.drop_eq_nil_of_le (by omega), List.nil_append, Nat.add_sub_cancel_left]
theorem ZXZ (l : List AB) (n : Nat) : (h ++ l).getD (h.length + n) .dead = l.getD n .dead := by
 rw [List.getD_eq_getElem?_getD, List.getElem?_append_right (by omega), Nat.add_sub_cancel_left, List.getD_eq_getElem?_getD]
theorem QZu (B : AB) (l : List AB) : (B :: l).getD 0 .dead = B := _root_.id rfl
theorem qYN (B : AB) (l : List AB) (n : Nat) : (B :: l).getD (n + 1) .dead = l.getD n .dead := by simp
theorem K8I (hh : HOk h) (l : List AB) : HOk (h ++ l) = ((l.all fun B => B.ok (fun i => decide (i < h.length + l.length))) = true) := by
 refine propext ⟨fun q => List.all_eq_true.2 fun B hB => ?_, fun q i B hB => ?_⟩
 ·obtain ⟨j, hj⟩ := List.mem_iff_getElem?.1 hB
  have := q (h.length + j) B (by rw [List.getElem?_append_right (by omega), Nat.add_sub_cancel_left]; exact hj)
  rw [List.length_append] at this
  exact this
 ·rw [List.length_append]
  rw [List.getElem?_append] at hB
  split at hB
  ·exact AB.ok_mono (fun i hi => by simp only [decide_eq_true_eq] at hi ⊢; omega) B (hh i B hB)
  ·exact List.all_eq_true.1 q B (List.mem_of_getElem? hB)
theorem ZYp (q : Nat → Bool) (m : Bool) (xs : List AV) : (AB.blk true m xs).ok q = true := _root_.id rfl
theorem z3q (q : Nat → Bool) (m : Bool) (xs : List AV) : (AB.blk false m xs).ok q = okL q xs := _root_.id rfl
theorem Jmj (q : Nat → Bool) : AB.dead.ok q = true := _root_.id rfl
theorem ok_i (q : Nat → Bool) (k : IntKind) (n : Int) : (AV.i k n).ok q = true := by simp [AV.ok]
theorem ok_b (q : Nat → Bool) (x : Bool) : (AV.b x).ok q = true := by simp [AV.ok]
theorem ok_s (q : Nat → Bool) (x : List UInt8) : (AV.s x).ok q = true := by simp [AV.ok]
theorem JEQ (q : Nat → Bool) : AV.ns.ok q = true := by simp [AV.ok]
theorem KYI (q : Nat → Bool) : AV.np.ok q = true := by simp [AV.ok]
theorem XYT (q : Nat → Bool) : AV.nf.ok q = true := by simp [AV.ok]
theorem ok_p (q : Nat → Bool) (id o : Nat) : (AV.p id o).ok q = q id := by simp [AV.ok]
theorem ok_y (q : Nat → Bool) (id : Nat) : (AV.y id).ok q = q id := by simp [AV.ok]
theorem ZsV (q : Nat → Bool) (id o n c : Nat) (k : Option Nat) (hq : q id = true) : (AV.sl id o n c k).ok q = true := by simp [AV.ok, hq]
theorem ok_f (q : Nat → Bool) (f : Fn) (a b : List AV) : (AV.f f a b).ok q = (okL q a && okL q b) := by simp [AV.ok]
theorem Knd (q : Nat → Bool) (l : List AV) : (AV.ag l).ok q = okL q l := by simp [AV.ok]
theorem qRZ (q : Nat → Bool) (l : List AV) : (AV.tu l).ok q = okL q l := by simp [AV.ok]
theorem XIo (q : Nat → Bool) : okL q [] = true := by simp [okL]
theorem Juy (q : Nat → Bool) (a : AV) (l : List AV) : okL q (a :: l) = (a.ok q && okL q l) := by simp [okL]
theorem qbk (n : Nat) : nthA fr n = pl fr n := by rw [← Jnt, qiA]
theorem qqd (a b c : Nat) : (a + b < a + c) = (b < c) := propext (by omega)
theorem QeI (a b c : Nat) : (a + b ≤ a + c) = (b ≤ c) := propext (by omega)
theorem Yfy (a b c : Nat) : (a + b = a + c) = (b = c) := propext (by omega)
theorem zfD (a : Nat) : (a < 0) = False := eq_false (by omega)
theorem QW0 (a : Nat) : (0 ≤ a) = True := eq_true (by omega)
theorem z5U (a b : Nat) : (a ≤ a + b) = True := eq_true (by omega)
theorem Z3F {α : Type} (p : α → Bool) : ([] : List α).any p = false := _root_.id rfl
theorem any_cons {α : Type} (p : α → Bool) (a : α) (l : List α) : (a :: l).any p = (p a || l.any p) := _root_.id rfl
theorem Zc6 (id o : Nat) : idOf (.p id o) = [id] := _root_.id rfl
theorem JsJ (id o n c : Nat) (k : Option Nat) : idOf (.sl id o n c k) = [id] := _root_.id rfl
theorem qSz : idOf .ns = [] := _root_.id rfl
theorem QOw (f : Opd) (args : List Opd) : wsC T (Opd.ev fr) (.call f args) = match f.ev fr with
  | .f (.func g) fst cap => T.fns.ws g (fst ++ args.map (Opd.ev fr) ++ cap)
  | .y id => T.rds.ws id (args.map (Opd.ev fr))
  | _ => [] := rfl
theorem KOI (n : Option Nat) (x v : Opd) : wsC T (Opd.ev fr) (.st n x v) = idOf (x.ev fr) := _root_.id rfl
theorem ZZE (a b : Bool) (n m : Nat) (s x : Opd) : wsC T (Opd.ev fr) (.app a b n m s x) = idOf (s.ev fr) := _root_.id rfl
theorem z5w (fl : Bool) (zs : List AV) : wsC T (Opd.ev fr) (.new fl zs) = [] := _root_.id rfl
theorem Ztb (fl : Bool) (n : Nat) (x : Opd) : wsC T (Opd.ev fr) (.box fl n x) = [] := _root_.id rfl
theorem K6H (fl : Bool) (n : Nat) (zs : List AV) (ps : List (Nat × Nat × Opd)) : wsC T (Opd.ev fr) (.bls fl n zs ps) = [] := _root_.id rfl
theorem X2s (fl : Bool) (z : List AV) (n : Nat) (a b : Opd) : wsC T (Opd.ev fr) (.mks fl z n a b) = [] := _root_.id rfl
theorem Z5t {a} : (CO.mv a).mk = .free := _root_.id rfl
theorem YuL {a b c} : (CO.pick a b c).mk = .free := _root_.id rfl
theorem XbE {a b c} : (CO.bin a b c).mk = .free := _root_.id rfl
theorem z0G {a b c} : (CO.eqb a b c).mk = .free := _root_.id rfl
theorem KPt {a b c d} : (CO.eqc a b c d).mk = .free := _root_.id rfl
theorem zpz {a b c} : (CO.eqn a b c).mk = .free := _root_.id rfl
theorem JUm {a b} : (CO.un a b).mk = .free := _root_.id rfl
theorem ZJi {a b} : (CO.cvi a b).mk = .free := _root_.id rfl
theorem ZGk {a} : (CO.cvs a).mk = .free := _root_.id rfl
theorem Kpm {a b} : (CO.fad a b).mk = .free := _root_.id rfl
theorem zgw {a b c} : (CO.fld a b c).mk = .free := _root_.id rfl
theorem ZPA {a b c} : (CO.iad a b c).mk = .free := _root_.id rfl
theorem Z4g {a b c d} : (CO.iaa a b c d).mk = .free := _root_.id rfl
theorem ZDu {a b} : (CO.ixs a b).mk = .free := _root_.id rfl
theorem KdZ {a b c d e} : (CO.ixa a b c d e).mk = .free := _root_.id rfl
theorem YEa {a b c} : (CO.sls a b c).mk = .free := _root_.id rfl
theorem Kuo {a b c d e} : (CO.sll a b c d e).mk = .free := _root_.id rfl
theorem YnF {a b c d e f} : (CO.sla a b c d e f).mk = .free := _root_.id rfl
theorem QKF {a b} : (CO.ifc a b).mk = .free := _root_.id rfl
theorem qTx {a b c} : (CO.mkf a b c).mk = .free := _root_.id rfl
theorem K7M {a b} : (CO.ext a b).mk = .free := _root_.id rfl
theorem YDN {a b} : (CO.len a b).mk = .free := _root_.id rfl
theorem JKW {a} : (CO.lnc a).mk = .free := _root_.id rfl
theorem ZLt {a b c} : (CO.mm a b c).mk = .free := _root_.id rfl
theorem YA2 {a} : (CO.nck a).mk = .free := _root_.id rfl
theorem JR5 {a b c d} : (CO.tas a b c d).mk = .free := _root_.id rfl
theorem Xrv {a b} : (CO.bld a b).mk = .free := _root_.id rfl
theorem Q7O {a} : (CO.capo a).mk = .free := _root_.id rfl
theorem YEd {a b} : (CO.new a b).mk = .mem := _root_.id rfl
theorem X0V {a b c} : (CO.box a b c).isM = true := _root_.id rfl
theorem Zat {a b c d} : (CO.bls a b c d).isM = true := _root_.id rfl
theorem QvS {a b c d e} : (CO.mks a b c d e).isM = true := _root_.id rfl
theorem JAL {a b c d e f} : (CO.app a b c d e f).isM = true := _root_.id rfl
theorem Xpi {a b c d} : (CO.cpy a b c d).isM = true := _root_.id rfl
theorem zZg {a b c d e} : (CO.apz a b c d e).isM = true := _root_.id rfl
theorem QD4 {a} : (CO.b2s a).isM = true := _root_.id rfl
theorem ZuX {a b} : (CO.clr a b).isM = true := _root_.id rfl
theorem KMV {a b} : (CO.bcmp a b).isM = true := _root_.id rfl
theorem QvA {a b c} : (CO.st a b c).isM = true := _root_.id rfl
theorem KGQ {α : Type} (l : List α) : [] ++ l = l := _root_.id rfl
theorem X8X {α : Type} (a : α) (l l' : List α) : (a :: l) ++ l' = a :: (l ++ l') := _root_.id rfl
theorem YSS {α β : Type} (f : α → List β) : [].flatMap f = [] := by simp
theorem Q3u {α β : Type} (f : α → List β) (a : α) (l : List α) : (a :: l).flatMap f = f a ++ l.flatMap f := by simp
theorem FnAt.frz {P : Program} {g : Nat} {args : List AV} {h : List AB} {a : AV} {new : List AB} (e : ∀ _ : (h.map AB.freeze).map AB.freeze = h.map AB.freeze, FnAt P g args (h.map AB.freeze) a (h.map AB.freeze ++ new)) : FnAt P g args h a (h ++ new) := by
 have ff : ∀ B : AB, B.freeze.freeze = B.freeze := fun B => by cases B <;> rfl
 have hz : (h.map AB.freeze).map AB.freeze = h.map AB.freeze := by rw [List.map_map]; congr 1; funext B; exact ff B
 obtain ⟨fn, cf, hf, hc, am⟩ := e hz
 refine ⟨fn, cf, hf, hc, ?_⟩
 intro ρ w tmps items b cs rs hfn hk hro hpl hi hv hr hmk
 have gM : ∀ (i : Nat) B, (h.map AB.freeze)[i]? = some B → ∃ C, h[i]? = some C ∧ B = C.freeze := fun i B hB => by
  rw [List.getElem?_map] at hB
  obtain ⟨C, hC, rfl⟩ := Option.map_eq_some_iff.1 hB
  exact ⟨C, hC, rfl⟩
 have nm : ∀ C : AB, C.freeze.mut = false := fun C => by cases C <;> rfl
 have lv : ∀ C : AB, C.freeze.live = true → C.live = true := fun C hl => by cases C <;> first | rfl | cases hl
 have hrM : Rel (KC P) ρ (h.map AB.freeze) w := ⟨by rw [hr.len, List.length_map], fun i B b o n h1 h2 => by
  obtain ⟨C, hC, rfl⟩ := gM i B h1
  exact (hr.blk i C b o n hC h2).le (.inr (.inl rfl)), fun i j bi oi bj oj Bi Bj hne h1 h2 h3 h4 hm hl => by
  obtain ⟨C, hC, rfl⟩ := gM i Bi h1
  rw [nm] at hm
  exact (Bool.false_ne_true hm).elim, hr.gl.sub fun b hb => by
  obtain ⟨i, B, o, h1, h2, _⟩ := hb
  obtain ⟨C, _, rfl⟩ := gM i B h1
  rw [nm] at h2
  cases h2⟩
 have noOwn : ∀ b, ¬ Own ρ (h.map AB.freeze) b := fun b ⟨i, B, o, h1, h2, _⟩ => by
  obtain ⟨C, _, rfl⟩ := gM i B h1
  rw [nm] at h2
  cases h2
 have atM : ∀ i b, At ρ (h.map AB.freeze) i b → At ρ h i b := fun i b ⟨B, o, h1, h2, h3⟩ => by
  obtain ⟨C, hC, rfl⟩ := gM i B h1
  exact ⟨C, o, hC, lv C h2, h3⟩
 have hmk' : Marks ρ (h.map AB.freeze) w rs := ⟨hmk.1, fun r hr' => ⟨(hmk.2 r hr').1, fun i ha => (hmk.2 r hr').2 i (atM i r ha)⟩⟩
 rw [List.length_map] at am
 refine (am ρ w tmps items b cs rs hfn hk hro (by rw [List.length_map]; exact Nat.le_refl _) hi hv hrM hmk').mono ?_
 rintro v w' ⟨a0, G0, ρ1, ⟨rfl, rfl⟩, hva, r1, q4⟩
 have l1 : ρ1.length = h.length + new.length := by rw [r1.len, List.length_append, List.length_map]
 have sm : ∀ (i : Nat) B b (on : Nat × Nat), h[i]? = some B → B.live = true → ρ[i]? = some (b, on) → w'.heap[b]? = w.heap[b]? := fun i B b on hB hl hb =>
  q4.keep b ((hr.blk i B b on.1 on.2 hB hb).lt hl) (noOwn b) (fun hx => (hmk.2 b hx).2 i ⟨B, on, hB, hl, hb⟩)
 have cls : ∀ (i : Nat) B x, (h ++ new)[i]? = some B → ρ1[i]? = some x → (i < h.length ∧ h[i]? = some B ∧ ρ[i]? = some x) ∨ (h.length ≤ i ∧ (h.map AB.freeze ++ new)[i]? = some B) := fun i B x hB hx => by
  rw [List.getElem?_append] at hB
  split at hB
  ·rename_i hlt
   exact .inl ⟨hlt, hB, by rw [← q4.fix i hlt]; exact hx⟩
  ·rename_i hge
   refine .inr ⟨by omega, ?_⟩
   rw [List.getElem?_append_right (by rw [List.length_map]; omega), List.length_map]
   exact hB
 have extN : ∀ (i : Nat), i < ρ.length → ρ1[i]? = ρ[i]? := fun i hi => q4.fix i (by rw [← hr.len]; exact hi)
 have ext : Ext ρ ρ1 := fun i x hx => by
  rw [extN i (List.getElem?_eq_some_iff.1 hx).1]
  exact hx
 have newB : ∀ (i : Nat) B b (on : Nat × Nat), h.length ≤ i → (h.map AB.freeze ++ new)[i]? = some B → B.live = true → ρ1[i]? = some (b, on) → (∃ j, h.length ≤ j ∧ At ρ (h.map AB.freeze) j b) ∨ w.heap.size ≤ b := fun i B b on hge hB hl hb => by
  rcases q4.acc i b ⟨B, on, hB, hl, hb⟩ with ⟨j, z, _, z2⟩ | z | z
  ·exact .inl ⟨j, z2 hge, z⟩
  ·exact absurd z (noOwn b)
  ·exact .inr z
 have newB' : ∀ (i : Nat) B b (on : Nat × Nat), h.length ≤ i → (h.map AB.freeze ++ new)[i]? = some B → B.live = true → ρ1[i]? = some (b, on) → w.heap.size ≤ b := fun i B b on hge hB hl hb => by
  rcases newB i B b on hge hB hl hb with ⟨j, hj, C, o, h1, _, _⟩ | z
  ·have := (List.getElem?_eq_some_iff.1 h1).1
   rw [List.length_map] at this
   omega
  ·exact z
 have ownF : ∀ b, Own ρ1 (h ++ new) b → Own ρ h b ∨ w.heap.size ≤ b := fun b ⟨i, B, o, h1, h2, h3⟩ => by
  rcases cls i B _ h1 h3 with ⟨hi, g1, g2⟩ | ⟨hi, g1⟩
  ·exact .inl ⟨i, B, o, g1, h2, g2⟩
  ·exact .inr (newB' i B b o hi g1 (AB.live_of_mut h2) h3)
 refine ⟨_, h ++ new, ρ1, ⟨rfl, rfl⟩, hva, ⟨by rw [l1, List.length_append], fun i B b o n h1 h2 => ?_, fun i j bi oi bj oj Bi Bj hne h1 h2 h3 h4 hm hl => ?_,
  hr.gl.keepC q4.size (fun b cs' e' fz hb hn hc => (q4.keep b hb (noOwn b) (fun hx => by rw [(hmk.2 b hx).1] at hc; cases hc)).trans hc) ownF⟩, q4.os, q4.tape, q4.output, q4.size, fun b hb hn hx => q4.keep b hb (noOwn b) hx, ownF, fun i b ⟨B, o, h1, h2, h3⟩ => ?_, q4.fix⟩
 ·rcases cls i B _ h1 h2 with ⟨hi, g1, g2⟩ | ⟨hi, g1⟩
  ·exact (hr.blk i B b o n g1 g2).same ext (fun hl => sm i B b (o, n) g1 hl g2)
  ·exact r1.blk i B b o n g1 h2
 ·rcases cls i Bi _ h1 h3 with ⟨hi, g1, g2⟩ | ⟨hi, g1⟩
  ·rcases cls j Bj _ h2 h4 with ⟨hj, k1, k2⟩ | ⟨hj, k1⟩
   ·exact hr.sep i j bi oi bj oj Bi Bj hne g1 k1 g2 k2 hm hl
   ·have := newB' j Bj bj oj hj k1 hl h4
    have := (hr.blk i Bi bi oi.1 oi.2 g1 g2).lt (AB.live_of_mut hm)
    omega
  ·rcases cls j Bj _ h2 h4 with ⟨hj, k1, k2⟩ | ⟨hj, k1⟩
   ·have := newB' i Bi bi oi hi g1 (AB.live_of_mut hm) h3
    have := (hr.blk j Bj bj oj.1 oj.2 k1 k2).lt hl
    omega
   ·exact r1.sep i j bi oi bj oj Bi Bj hne g1 k1 h3 h4 hm hl
 ·rcases cls i B _ h1 h3 with ⟨hi, g1, g2⟩ | ⟨hi, g1⟩
  ·exact .inl ⟨i, ⟨B, o, g1, h2, g2⟩, fun _ => rfl, fun z => z⟩
  ·exact .inr (.inr (newB' i B b o hi g1 h2 h3))
theorem FnAt.frz0 {P : Program} {g : Nat} {args : List AV} {h : List AB} {a : AV} (e : ∀ _ : (h.map AB.freeze).map AB.freeze = h.map AB.freeze, FnAt P g args (h.map AB.freeze) a (h.map AB.freeze)) : FnAt P g args h a h := by
 have := FnAt.frz (P := P) (g := g) (args := args) (h := h) (a := a) (new := []) fun hz => by rw [List.append_nil]; exact e hz
 rw [List.append_nil] at this
 exact this
end
end Go.Proofs.YthhghdebjiiliaaDoor
end
section
namespace Go.Proofs.YthhghdebjiiliaaDoor
open Go.RowKit
def tp (n : Nat) : List AV := List.replicate n .top
theorem tp_0 : tp 0 = [] := _root_.id rfl
theorem tp_s (n : Nat) : tp (n + 1) = .top :: tp n := _root_.id rfl
theorem qUd : WkL [] [] = True := _root_.id rfl
theorem zRV (a' a : AV) (l' l : List AV) : WkL (a' :: l') (a :: l) = (Wk a' a ∧ WkL l' l) := _root_.id rfl
theorem Z0S (a : AV) : Wk .top a = True := eq_true (Wk.top a)
theorem ZFL (a : AV) : Wk a a = True := eq_true (Wk.refl a)
section
variable {c : Ctx} {k : List IT} {fr : List AV} {h : List AB}
def zcs {S : Type} (c : Ctx) (μ : S → Nat) (F : S → List AV) (H : S → List AB) (Inv : S → Prop) (s : S) (fr : List AV) (h : List AB) : Prop := ∃ s', Inv s' ∧ μ s' < μ s ∧ Bt c.P c.p fr h (F s') (H s')
theorem q2Y {S : Type} {a : CC} (μ : S → Nat) (F : S → List AV) (H : S → List AB) (Inv : S → Prop) (s0 : S) (h0 : Inv s0) (hg : Bt c.P c.p fr h (F s0) (H s0))
  (hs : ∀ s, Inv s → W c (.code a :: .lpe (zcs c μ F H Inv s) :: k) (F s) (H s)) : W c (.code (.loop a) :: k) fr h := by
 refine ZG6 (fun n fr h => ∃ s, Inv s ∧ μ s = n ∧ fr = F s ∧ h = H s) (μ s0) (F s0) (H s0) hg ⟨s0, h0, rfl, rfl, rfl⟩ fun n fr h hI => ?_
 obtain ⟨s, hi, rfl, rfl, rfl⟩ := hI
 have e : zcs c μ F H Inv s = Back c (fun n fr h => ∃ s, Inv s ∧ μ s = n ∧ fr = F s ∧ h = H s) (μ s) := by
  funext fr h
  refine propext ⟨fun ⟨s', q1, q2, q3⟩ => ⟨μ s', F s', H s', q2, q3, s', q1, rfl, rfl, rfl⟩, fun ⟨m, fr', h', q2, q3, s', q1, e1, e2, e3⟩ => ?_⟩
  subst e1 e2 e3
  exact ⟨s', q1, q2, q3⟩
 rw [← e]
 exact hs s hi
end
end Go.Proofs.YthhghdebjiiliaaDoor
end
