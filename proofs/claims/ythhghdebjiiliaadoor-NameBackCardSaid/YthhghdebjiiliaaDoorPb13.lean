/- Part 13 of what the laws' proofs rest on. No condition. -/
import Derived.WalkLawsBesides
import Derived.Deep.QuietTactic
import Derived.BigQuiet
import Derived.Lib.Hide
import Derived.Deep.WholeRow
import Derived.Test.YthhghdebjiiliaaDoorPb12
set_option linter.all false
section
namespace Go.Proofs.YthhghdebjiiliaaDoor
open Go.RowKit
section
variable {T : Env} {fr : List AV} {h : List AB} {α : Type} {r : Row α}
def rsl (r : Row α) (id : Nat) (l : List α) : AV := if l.length = 0 then .sl id 0 0 0 (some 0) else .sl id 0 l.length l.length (some r.sz)
def resB (r : Row α) (m : Bool) (l : List α) : AB := if l.length = 0 then .dead else .blk true m (r.cells l)
theorem ZNo (id : Nat) (l : List α) : (rsl r id l).isSl = true := by unfold rsl; split <;> rfl
theorem Xo3 (id : Nat) (l : List α) : (rsl r id l).isStr = false := QtI (ZNo id l)
theorem zIm (id : Nat) (l : List α) : (rsl r id l).one = true := ZYZ (ZNo id l)
theorem ZiP (id : Nat) (l : List α) : (rsl r id l).known = true := qVX (ZNo id l)
theorem Jrr (id : Nat) (l : List α) : (rsl r id l).cells = [rsl r id l] := KXj (ZNo id l)
theorem YnT (id : Nat) (l : List α) : lenV (rsl r id l) = some (l.length : Int) := by
 unfold rsl
 split
 ·rename_i e; rw [e]; rfl
 ·rfl
theorem ZUp (q : Nat → Bool) (id : Nat) (l : List α) (hq : q id = true) : (rsl r id l).ok q = true := by unfold rsl; split <;> simp [AV.ok, hq]
theorem zfG (f : Nat → Nat) (id : Nat) (l : List α) : (rsl r id l).ren f = rsl r (f id) l := by unfold rsl; split <;> simp [AV.ren]
theorem QfG (id : Nat) (l : List α) : idOf (rsl r id l) = [id] := by unfold rsl; split <;> rfl
theorem JcV : lenV .ns = some 0 := _root_.id rfl
theorem QAK (m : Bool) (l : List α) : (resB r m l).freeze = resB r false l := by unfold resB; split <;> rfl
theorem Xkl (q : Nat → Bool) (m : Bool) (l : List α) : (resB r m l).ok q = true := by unfold resB; split <;> rfl
def ownR (r : Row α) (l : List α) : List AB → Nat → Prop
 | [], _ => False
 | B :: _, 0 => ∃ m, B = resB r m l
 | _ :: L, k + 1 => ownR r l L k
theorem XCK (m : Bool) (l : List α) (L : List AB) : ownR r l (resB r m l :: L) 0 = True := eq_true ⟨m, rfl⟩
theorem Xo2 (l : List α) (B : AB) (L : List AB) (k : Nat) : ownR r l (B :: L) (k + 1) = ownR r l L k := _root_.id rfl
theorem J68 (l : List α) : ∀ (L : List AB) (k : Nat), ownR r l L k → ∃ m, L[k]? = some (resB r m l)
 | [], _, e => e.elim
 | B :: _, 0, ⟨m, e⟩ => ⟨m, by rw [e]; rfl⟩
 | _ :: L, k + 1, e => by simpa using J68 l L k e
theorem Z4z {H : List AB} {id : Nat} {m : Bool} {l : List α} (e : H[id]? = some (resB r m l)) : rdS H r.sz (rsl r id l) = some (l.length, r.cells l) := by
 unfold rsl
 by_cases h0 : l.length = 0
 ·rw [if_pos h0]
  have : l = [] := List.eq_nil_of_length_eq_zero h0
  subst this
  simp [rdS, Row.cells]
 ·rw [if_neg h0]
  simp only [rdS]
  rw [if_neg h0]
  unfold resB at e
  rw [if_neg h0] at e
  simp only [JZy, e, Option.bind_some, Nat.zero_add, List.drop_zero, r.cells_len]
  rw [if_pos (Nat.le_refl _), List.take_of_length_le (by rw [r.cells_len]; exact Nat.le_refl _)]
theorem QZ9 {H : List AB} {id : Nat} {m : Bool} {l : List α} (e : H[id]? = some (resB r m l)) (hl : l.length ≤ maxLen) : Rd r H (rsl r id l) l := ⟨Z4z e, hl⟩
theorem zu6 (L : List AB) (k : Nat) : (h ++ L)[h.length + k]? = L[k]? := by rw [List.getElem?_append_right (by omega), Nat.add_sub_cancel_left]
theorem qhb (L : List AB) (k : Nat) (l : List α) (e : ownR r l L k) (hl : l.length ≤ maxLen) : getS r (h ++ L) (rsl r (h.length + k) l) = some l := by
 obtain ⟨m, hm⟩ := J68 l L k e
 exact (QZ9 (by rw [zu6]; exact hm) hl).get
theorem zq4 (o sz n j : Nat) (id : Nat) (l : List α) : fadV o (elP sz (rsl r id l) n j) = some (elP sz (rsl r id l) n (j + o)) := by
 unfold rsl
 split <;> simp [elP, fadV, Nat.add_assoc]
theorem YwY (q : Nat → Bool) (id sz n j : Nat) (l : List α) (hq : q id = true) : (elP sz (rsl r id l) n j).ok q = true := by unfold rsl; split <;> simp [elP, AV.ok, hq]
theorem Zpw (n : Bool) (x y : Opd) : opR T (.eqn n x y) fr h = (KoA (x.ev fr) (y.ev fr)).map fun r => (.b (r ^^ n), h) := _root_.id rfl
theorem Jie : KoA .ns .ns = some true := _root_.id rfl
theorem JOT : KoA .se .ns = some false := _root_.id rfl
theorem JnI : AV.ns.isStr = false := _root_.id rfl
theorem zqX : AV.se.isStr = false := _root_.id rfl
theorem Jnm (a b c d : Nat) (k : Option Nat) : (AV.sl a b c d k).isStr = false := _root_.id rfl
theorem z8w (q : Nat → Bool) (f : Nat → Nat) (m : Bool) (l : List α) : BWk q f (resB r m l) (resB r m l) = True := by
 unfold resB
 split
 ·exact eq_true trivial
 ·exact eq_true ⟨fun z => z, rfl⟩
theorem qFD (q : Nat → Bool) (f : Nat → Nat) (m' m : Bool) (xs' xs : List AV) : BWk q f (.blk true m' xs') (.blk true m xs) = ((m' = true → m = true) ∧ xs' = xs) := _root_.id rfl
theorem Zfr (q : Nat → Bool) (f : Nat → Nat) (m' m : Bool) (xs' xs : List AV) : BWk q f (.blk false m' xs') (.blk false m xs) = ((m' = true → m = true) ∧ okL q xs' = true ∧ WkL (renL f xs') xs) := _root_.id rfl
theorem qiv (q : Nat → Bool) (f : Nat → Nat) (B : AB) : BWk q f .dead B = True := by cases B <;> rfl
theorem JsA (q : Nat → Bool) (f : Nat → Nat) (st' st : LoopState) (pd' pd : XE) (fr' fr : List AV) (ps' ps : List Nat) (a' a b' b : CC) : BWk q f (.lp st' pd' fr' ps' a' b') (.lp st pd fr ps a b) = ((st' = st ∧ pd' = pd ∧ ps' = ps ∧ a' = a ∧ b' = b) ∧ okL q fr' = true ∧ WkL (renL f fr') fr) := _root_.id rfl
theorem q0e (q : Nat → Bool) (id : Nat) (l : List α) (hq : q id = true) : (rsl r id l).ok q = True := eq_true (ZUp q id l hq)
theorem ZRU (p k : Nat) (sel : List Nat) : selN p sel (p + k) = p + sel.getD k 0 := QT6 k
theorem XBY (p : Nat) (sel : List Nat) : selN p sel p = p + sel.getD 0 0 := QT6 (p := p) 0
theorem nd_0 (a : Nat) (l : List Nat) : (a :: l).getD 0 0 = a := _root_.id rfl
theorem nd_s (a : Nat) (l : List Nat) (k : Nat) : (a :: l).getD (k + 1) 0 = l.getD k 0 := by simp
theorem KC5 : intR.sz = 1 := _root_.id rfl
theorem qrQ : dotR.sz = 2 := _root_.id rfl
theorem X3B : r.cells [] = [] := _root_.id rfl
theorem J4W (k : IntKind) (n : Int) : (AV.i k n).known = true := _root_.id rfl
theorem Yzp (x : Bool) : (AV.b x).known = true := _root_.id rfl
theorem YG4 (x : List UInt8) : (AV.s x).known = true := _root_.id rfl
theorem YuJ (a b : Nat) : (AV.p a b).known = true := _root_.id rfl
theorem zO4 : AV.ns.known = true := _root_.id rfl
theorem Xsq (a b c d : Nat) (k : Option Nat) : (AV.sl a b c d k).known = true := _root_.id rfl
theorem Kn6 (f : Fn) (a b : List AV) : (AV.f f a b).known = true := _root_.id rfl
theorem zSu (l : List AV) : (AV.ag l).known = true := _root_.id rfl
def chkI : Nat → Option (List AV) → Bool
 | 0, some [] => true
 | n + 1, some (.i .i64 _ :: l) => chkI n (some l)
 | _, _ => false
def valI : Option (List AV) → List Int
 | some (.i _ a :: l) => a :: valI (some l)
 | _ => []
theorem YlL : chkI 0 (some []) = true := by simp [chkI]
theorem YLo (n : Nat) (a : Int) (l : List AV) : chkI (n + 1) (some (.i .i64 a :: l)) = chkI n (some l) := by simp [chkI]
theorem Qav : valI (some []) = [] := by simp [valI]
theorem YkA (k : IntKind) (a : Int) (l : List AV) : valI (some (.i k a :: l)) = a :: valI (some l) := by simp [valI]
theorem qe5 : ∀ (n : Nat) (l : List AV), chkI n (some l) = true → l = intR.cells (valI (some l)) ∧ (valI (some l)).length = n
 | 0, [], _ => by simp [valI, X3B]
 | 0, _ :: _, e => by simp [chkI] at e
 | n + 1, [], e => by simp [chkI] at e
 | n + 1, .i .i64 a :: l, e => by
  rw [YLo] at e
  obtain ⟨h1, h2⟩ := qe5 n l e
  rw [YkA]
  refine ⟨?_, by simp [h2]⟩
  simp only [Row.cells, List.flatMap_cons, qZi, List.cons_append, List.nil_append]
  congr 1
 | n + 1, .i .u8 _ :: _, e | n + 1, .i .u16 _ :: _, e | n + 1, .i .u32 _ :: _, e | n + 1, .i .u64 _ :: _, e | n + 1, .i .i8 _ :: _, e | n + 1, .i .i16 _ :: _, e | n + 1, .i .i32 _ :: _, e => by simp [chkI] at e
 | n + 1, .b _ :: _, e | n + 1, .s _ :: _, e | n + 1, .p _ _ :: _, e | n + 1, .np :: _, e | n + 1, .sl _ _ _ _ _ :: _, e | n + 1, .se :: _, e | n + 1, .ns :: _, e | n + 1, .f _ _ _ :: _, e | n + 1, .nf :: _, e | n + 1, .ifc _ _ :: _, e | n + 1, .ni :: _, e | n + 1, .ag _ :: _, e | n + 1, .tu _ :: _, e | n + 1, .top :: _, e | n + 1, .y _ :: _, e => by simp [chkI] at e
theorem zW5 (L : List AB) (k n c : Nat) (kk : Option Nat) (e : chkI n (ownC L k) = true) (hn : n ≤ 1000) : getS intR (h ++ L) (.sl (h.length + k) 0 n c kk) = some (valI (ownC L k)) := by
 refine Rd.get ⟨?_, ?_⟩
 ·cases hc : ownC L k with
  | none => rw [hc] at e; cases n <;> simp [chkI] at e
  | some l =>
   rw [hc] at e
   obtain ⟨h1, h2⟩ := qe5 n l e
   have hb : JZy (h ++ L) (h.length + k) = some l := by rw [YNX, hc]
   have hl : l.length = n := by rw [h1, Row.cells_len, h2]; exact Nat.mul_one n
   simp only [rdS, hb, Option.bind_some, Nat.zero_add, List.drop_zero, show intR.sz = 1 from rfl, Nat.mul_one, hl]
   split
   ·rename_i h0
    subst h0
    have : l = [] := List.eq_nil_of_length_eq_zero hl
    subst this
    simp [valI, X3B]
   ·rw [if_pos (Nat.le_refl _), List.take_of_length_le (by omega), ← h1, h2]
 ·cases hc : ownC L k with
  | none => simp [valI]
  | some l =>
   rw [hc] at e
   obtain ⟨h1, h2⟩ := qe5 n l e
   rw [h2]
   unfold maxLen
   omega
theorem Bt.drop {P : Program} {h : List AB} {v a : AV} (L : List AB) (hh : HOk h) (e : v = a) (hok : v.ok (fun i => decide (i < h.length)) = true) : Bt P h.length [v] (h ++ L) [a] h := by
 subst e
 have := Bt.sel (P := P) (h := h) (l := L) (l' := []) (fr := [v]) (fr' := [v]) [] hh (by simp) trivial ⟨.inr ⟨hok, Wk.ren (fun i hi => qvy hi) hok⟩, trivial⟩
 rw [List.append_nil] at this
 exact this
theorem Bt.dropB {P : Program} {h : List AB} {x y : Bool} (L : List AB) (hh : HOk h) (e : x = y) : Bt P h.length [.b x] (h ++ L) [.b y] h := Bt.drop L hh (by rw [e]) (by simp [AV.ok])
def FinO (P : Program) (p : Nat) (o : Option AV) (h : List AB) (a : AV) (h' : List AB) : Prop := ∃ v, o = some v ∧ Bt P p [v] h [a] h'
theorem QRe {P : Program} {p : Nat} {v a : AV} {h' : List AB} : FinO P p (some v) h a h' = Bt P p [v] h [a] h' := by simp [FinO]
theorem zsk {P : Program} {p n : Nat} {sz : Option Nat} {a : AV} {h' : List AB} : (∃ v, resV fr h [RC.cell n sz] = some v ∧ Bt P p [v] h [a] h') = FinO P p (ldV h sz (pl fr n)) h a h' := by
 have e : resV fr h [RC.cell n sz] = ldV h sz (pl fr n) := by
  simp only [resV, JBx, qdM, Jnt]
  cases ldV h sz (pl fr n) <;> rfl
 rw [e]
 rfl
theorem YiN {P : Program} {p n m : Nat} {sz : Option Nat} {a : AV} {h' : List AB} : (∃ v, resV fr h [RC.cell n sz, RC.t m] = some v ∧ Bt P p [v] h [a] h') = FinO P p ((ldV h sz (pl fr n)).map fun x => .tu [x, pl fr m]) h a h' := by
 have e : resV fr h [RC.cell n sz, RC.t m] = (ldV h sz (pl fr n)).map fun x => .tu [x, pl fr m] := by
  simp only [resV, JBx, qdM, Jnt, Option.bind_some]
  cases ldV h sz (pl fr n) <;> rfl
 rw [e]
 rfl
def appW (H : List AB) (fl : Bool) (sz by_ : Nat) (s : AV) (m : Nat) (ys : List AV) : Option (AV × List AB) :=
 match s with
 | .ns => if m = 0 then some (.ns, H) else if m * by_ ≤ 140737488355328 ∧ m ≤ maxLen then some (.sl H.length 0 m m (some sz), H ++ [.blk fl true ys]) else none
 | .sl id off len cap k =>
  if m = 0 then some (.sl id off len cap k, H)
  else if len + m ≤ cap then (stB H id (off + len * sz) ys).map fun h' => (.sl id off (len + m) cap k, h')
  else match H[id]? with
   | some (.blk fl' mu xs) =>
    if fl' = fl ∧ off + len * sz ≤ xs.length ∧ (len + m) * by_ ≤ 140737488355328 ∧ len + m ≤ maxLen then
     if k = none then some (.sl H.length 0 (len + m) (len + m) (some sz), H ++ [.blk fl true ((xs.drop off).take (len * sz) ++ ys)])
     else if k = some sz ∧ sz ≠ 0 ∧ mu = true ∧ off + len * sz = xs.length then some (.sl H.length 0 (len + m) (len + m) (some sz), H.set id .dead ++ [.blk fl true (xs.drop off ++ ys)])
     else if k = some sz ∧ sz ≠ 0 ∧ mu = true then some (.sl H.length 0 (len + m) (len + m) (some sz), H.set id .dead ++ [.blk fl true ((xs.drop off).take (len * sz) ++ ys)])
     else none
    else none
   | _ => none
 | _ => none
theorem YR8 (H : List AB) (fl : Bool) (sz by_ : Nat) (s x : AV) : appV H fl sz by_ s x = (srcV H sz x).bind fun my => if my.2.all (wrOk fl) = true then appW H fl sz by_ s my.1 my.2 else none := _root_.id rfl
def flB (fl : Bool) : List AB → Nat → Prop
 | [], _ => False
 | B :: _, 0 => ∃ m xs, B = .blk fl m xs
 | _ :: L, k + 1 => flB fl L k
theorem Qei (fl m : Bool) (xs : List AV) (L : List AB) : flB fl (.blk fl m xs :: L) 0 = True := eq_true ⟨m, xs, rfl⟩
theorem zHV (fl : Bool) (B : AB) (L : List AB) (k : Nat) : flB fl (B :: L) (k + 1) = flB fl L k := _root_.id rfl
theorem Zd7 (fl : Bool) : ∀ (L : List AB) (k : Nat), flB fl L k → ∃ m xs, L[k]? = some (.blk fl m xs)
 | [], _, e => e.elim
 | B :: _, 0, ⟨m, xs, e⟩ => ⟨m, xs, by rw [e]; rfl⟩
 | _ :: L, k + 1, e => by simpa using Zd7 fl L k e
theorem Jz6 (L : List AB) (k : Nat) (fl : Bool) (sz by_ m : Nat) (ys : List AV) (hb : flB fl L k) : appW (h ++ L) fl sz by_ (.sl (h.length + k) 0 0 0 none) m ys = if m = 0 then some (.sl (h.length + k) 0 0 0 none, h ++ L) else if m * by_ ≤ 140737488355328 ∧ m ≤ maxLen then some (.sl (h.length + L.length) 0 m m (some sz), h ++ (L ++ [.blk fl true ys])) else none := by
 obtain ⟨mu, xs, hx⟩ := Zd7 fl L k hb
 unfold appW
 dsimp only
 split
 ·rfl
 ·rename_i hm
  rw [if_neg (by omega), zu6, hx]
  simp only [true_and, Nat.zero_add, Nat.zero_mul, Nat.zero_le, List.take_zero, List.nil_append, if_true, List.length_append, List.append_assoc]
theorem ZJy (L : List AB) (fl : Bool) (sz by_ m : Nat) (ys : List AV) : appW (h ++ L) fl sz by_ .ns m ys = if m = 0 then some (.ns, h ++ L) else if m * by_ ≤ 140737488355328 ∧ m ≤ maxLen then some (.sl (h.length + L.length) 0 m m (some sz), h ++ (L ++ [.blk fl true ys])) else none := by
 unfold appW
 simp only [List.length_append, List.append_assoc]
theorem X8U (l : List Int) : (intR.cells l).all (wrOk true) = true := by
 induction l with
 | nil => rfl
 | cons a l ih =>
  simp only [Row.cells, List.flatMap_cons, List.all_append] at ih ⊢
  rw [ih]
  rfl
theorem q2i (l : List (Int × Int)) : (dotR.cells l).all (wrOk true) = true := by
 induction l with
 | nil => rfl
 | cons a l ih =>
  simp only [Row.cells, List.flatMap_cons, List.all_append] at ih ⊢
  rw [ih]
  rfl
def apS (r : Row α) (id : Nat) (l : List α) : AV := if l.length = 0 then .ns else .sl id 0 l.length l.length (some r.sz)
theorem Kqj (q : Nat → Bool) (id : Nat) (l : List α) (hq : q id = true) : (apS r id l).ok q = true := by unfold apS; split <;> simp [AV.ok, hq]
theorem QUE (f : Nat → Nat) (id : Nat) (l : List α) : (apS r id l).ren f = apS r (f id) l := by unfold apS; split <;> simp [AV.ren]
theorem Qas (id : Nat) (l : List α) : (apS r id l).isSl = true := by unfold apS; split <;> rfl
theorem zNW (id : Nat) (l : List α) : lenV (apS r id l) = some (l.length : Int) := by
 unfold apS
 split
 ·rename_i e; rw [e]; rfl
 ·rfl
theorem QcP (id : Nat) : apS r id [] = .ns := _root_.id rfl
theorem zyF (id : Nat) (l : List α) : (apS r id l).isStr = false := QtI (Qas id l)
theorem Ket (id : Nat) (l : List α) : (apS r id l).one = true := ZYZ (Qas id l)
theorem QcO (id : Nat) (l : List α) : (apS r id l).known = true := qVX (Qas id l)
theorem Kbx (id : Nat) (l : List α) : (apS r id l).cells = [apS r id l] := KXj (Qas id l)
theorem Z1y (d : Int × Int) : (d.1, d.2) = d := _root_.id rfl
theorem zwm (id : Nat) (x : α) : apS r id [x] = .sl id 0 1 1 (some r.sz) := _root_.id rfl
theorem Q2S (m : Bool) (x : α) : resB r m [x] = .blk true m (r.f x) := by
 unfold resB
 rw [if_neg (by simp)]
 simp [Row.cells]
def zW4 : List AB → Nat → List AB
 | [], _ => []
 | _ :: L, 0 => .dead :: L
 | B :: L, k + 1 => B :: zW4 L k
theorem YNo (B : AB) (L : List AB) : zW4 (B :: L) 0 = .dead :: L := _root_.id rfl
theorem qAs (B : AB) (L : List AB) (k : Nat) : zW4 (B :: L) (k + 1) = B :: zW4 L k := _root_.id rfl
def ownM (r : Row α) (l : List α) : List AB → Nat → Prop
 | [], _ => False
 | B :: _, 0 => B = resB r true l
 | _ :: L, k + 1 => ownM r l L k
theorem qqB (l : List α) (L : List AB) : ownM r l (resB r true l :: L) 0 = True := eq_true rfl
theorem QHX (l : List α) (B : AB) (L : List AB) (k : Nat) : ownM r l (B :: L) (k + 1) = ownM r l L k := _root_.id rfl
end
end Go.Proofs.YthhghdebjiiliaaDoor
end
section
namespace Go.Proofs.YthhghdebjiiliaaDoor
open Go.RowKit
def mksV (h : List AB) (fl : Bool) (z : List AV) (by_ : Nat) (le ca : AV) : Option (AV × List AB) :=
 match le, ca with
 | .i _ l, .i _ c => if 0 ≤ l ∧ l ≤ c ∧ (by_ : Int) * c ≤ 2 ^ 47 ∧ c ≤ maxLen then newB h fl ((List.replicate c.toNat z).flatten) (fun n => .sl n 0 l.toNat c.toNat none) else none
 | _, _ => none
theorem QgU {h : List AB} (L : List AB) (k off n cap sz : Nat) (kk : Option Nat) : srcV (h ++ L) sz (.sl (h.length + k) off n cap kk) = if n = 0 then some (0, []) else (ownC L k).bind fun xs => if off + n * sz ≤ xs.length then some (n, (xs.drop off).take (n * sz)) else none := by
 simp only [srcV, YNX]
theorem qXj {h : List AB} (L : List AB) (k : Nat) (B : AB) : (h ++ L).set (h.length + k) B = h ++ L.set k B := by
 rw [List.set_append_right _ _ (by omega), Nat.add_sub_cancel_left]
theorem JiL {α : Type} (a b : α) (l : List α) : (a :: l).set 0 b = b :: l := _root_.id rfl
theorem QjM {α : Type} (a b : α) (l : List α) (n : Nat) : (a :: l).set (n + 1) b = a :: l.set n b := _root_.id rfl
theorem YrU {α : Type} (r : Row α) (h : List AB) : Rd r h .ns [] := ⟨rfl, Nat.zero_le _⟩
theorem QsU {α : Type} (r : Row α) (h : List AB) : getS r h .ns = some [] := (YrU r h).get
theorem qyz (sz id off n c : Nat) (k : Option Nat) (kk : IntKind) (m : Int) : iadV sz (.sl id off n c k) (.i kk m) = if 0 ≤ m ∧ m < (n : Int) then some (.p id (off + m.toNat * sz)) else none := _root_.id rfl
theorem z1B {T : Env} {fr : List AV} {h : List AB} (fl : Bool) (z : List AV) (by_ : Nat) (le ca : Opd) : opR T (.mks fl z by_ le ca) fr h = mksV h fl z by_ (le.ev fr) (ca.ev fr) := by
 show (match le.ev fr, ca.ev fr with
  | .i _ l, .i _ c => if 0 ≤ l ∧ l ≤ c ∧ (by_ : Int) * c ≤ 2 ^ 47 ∧ c ≤ maxLen then newB h fl ((List.replicate c.toNat z).flatten) (fun n => .sl n 0 l.toNat c.toNat none) else none
  | _, _ => none) = _
 rfl
theorem qXb (h : List AB) (fl : Bool) (z : List AV) (by_ : Nat) (k k' : IntKind) (l c : Int) : mksV h fl z by_ (.i k l) (.i k' c) = if 0 ≤ l ∧ l ≤ c ∧ (by_ : Int) * c ≤ 2 ^ 47 ∧ c ≤ maxLen then newB h fl ((List.replicate c.toNat z).flatten) (fun n => .sl n 0 l.toNat c.toNat none) else none := _root_.id rfl
def bxS (h : List AB) (i : Nat) : Option AV :=
 match h[i]? with
 | some (.blk false _ [v]) => some v
 | _ => none
def bxL : List AB → Nat → Option AV
 | [], _ => none
 | .blk false _ [v] :: _, 0 => some v
 | _ :: _, 0 => none
 | _ :: L, k + 1 => bxL L k
theorem XIs : ∀ (L : List AB) (k : Nat), bxS L k = bxL L k
 | [], k => by simp [bxS, bxL]
 | B :: L, 0 => by
  cases B with
  | blk fl m xs => cases fl <;> (cases xs with | nil => simp [bxS, bxL] | cons a l => cases l <;> simp [bxS, bxL])
  | _ => simp [bxS, bxL]
 | B :: L, k + 1 => by
  have := XIs L k
  have e : bxL (B :: L) (k + 1) = bxL L k := by
   cases B with
   | blk fl m xs => cases fl <;> (cases xs with | nil => rfl | cons a l => cases l <;> rfl)
   | _ => rfl
  rw [e, ← this]
  unfold bxS
  rw [List.getElem?_cons_succ]
theorem QkM {h : List AB} (L : List AB) (k : Nat) : bxS (h ++ L) (h.length + k) = bxL L k := by
 rw [← XIs]
 unfold bxS
 rw [zu6]
theorem JOp (m : Bool) (v : AV) (L : List AB) : bxL (.blk false m [v] :: L) 0 = some v := _root_.id rfl
theorem KgJ (B : AB) (L : List AB) (k : Nat) : bxL (B :: L) (k + 1) = bxL L k := by
 cases B with
 | blk fl m xs => cases fl <;> (cases xs with | nil => rfl | cons a l => cases l <;> rfl)
 | _ => rfl
theorem X42 (q : Nat → Bool) (st : LoopState) (pd : XE) (fr : List AV) (ps : List Nat) (a b : CC) : (AB.lp st pd fr ps a b).ok q = okL q fr := _root_.id rfl
section
variable {c : Ctx} {k : List IT} {fr : List AV} {h : List AB}
end
def Yk8 : List Pt → List Pt
 | [] => []
 | p :: l => ⟨p.k, p.lo, p.hi, [], []⟩ :: Yk8 l
theorem X8b : Yk8 [] = [] := _root_.id rfl
theorem za8 (k lo hi : Nat) (rs ws : List Nat) (l : List Pt) : Yk8 (⟨k, lo, hi, rs, ws⟩ :: l) = ⟨k, lo, hi, [], []⟩ :: Yk8 l := _root_.id rfl
theorem zru (len0 lo hi anc : Nat) (past : List Pt) (id : Nat) : qOk len0 lo hi anc (Yk8 past) id = qOk len0 lo hi anc past id := by
 unfold qOk
 congr 1
 induction past with
 | nil => rfl
 | cons p l ih => simp only [Yk8, List.any_cons, ih]
theorem JO1 (len0 anc n : Nat) (past : List Pt) : seen len0 anc (Yk8 past) n = seen len0 anc past n := by
 unfold seen
 congr 1
 funext id
 exact zru len0 0 0 anc past id
theorem XoI {c : Ctx} {k : List IT} {fr : List AV} {h : List AB} {len0 n anc : Nat} {past : List Pt} {d : Option Nat} {l : List DOp} (ws : List Nat) (vs : List AV) (v : AV) (G : List AB) : W c (.dmk ws vs (some (v, G)) len0 n anc past d l :: k) fr h = (okL (fun i => decide (i < h.length)) vs = true ∧ HOk h ∧ past.all (qUm len0 anc past ws) = true ∧ (ws.all fun id => decide (id < h.length)) = true ∧ h.length ≤ G.length ∧ v.ok (qOk len0 h.length G.length anc past) = true ∧
      (ws.all fun id => (G.getD id .dead).ok (qOk len0 h.length G.length anc past)) = true ∧ ((G.drop h.length).all fun B => B.ok (qOk len0 h.length G.length anc past)) = true ∧
      W c (.drw len0 (n + 1) (⟨n, h.length, G.length, seen len0 anc (Yk8 past) h.length, ws⟩ :: past) l :: k) (put fr d v) (Yjq ws G 0 h)) := by
  rw [JO1]
  exact Y3n ws vs v G
end Go.Proofs.YthhghdebjiiliaaDoor
end
section
namespace Go.Proofs.YthhghdebjiiliaaDoor
set_option maxRecDepth 100000
section
variable {T : Env} {fr : List AV} {h : List AB}
def itr (l : List UInt8) (pos : Nat) : AB := .iter ⟨l.toArray⟩ pos
theorem qlo (x : Opd) : opR T (.rng x) fr h = (match x.ev fr with
  | .s l => some (.p h.length 0, h ++ [itr l 0])
  | _ => none) := _root_.id rfl
noncomputable def nxV (h : List AB) (v : AV) : Option (AV × List AB) := match v with
 | .p id 0 => match h[id]? with
  | some (.iter s pos) => if pos < s.size then some (.tu [.b true, .i .i64 (pos : Int), .i .i32 ((Utf8.decode s pos).1 : Int)], h.set id (.iter s (pos + (Utf8.decode s pos).2))) else some (.tu [.b false], h)
  | _ => none
 | _ => none
theorem Y1Q (x : Opd) : opR T (.nxt x) fr h = nxV h (x.ev fr) := by
 show nxV h (x.ev fr) = _
 rfl
theorem Jhu (L : List AB) (k : Nat) (l : List UInt8) (pos : Nat) (hb : L[k]? = some (itr l pos)) : nxV (h ++ L) (.p (h.length + k) 0) = if pos < l.length then some (.tu [.b true, .i .i64 (pos : Int), .i .i32 ((Utf8.decode ⟨l.toArray⟩ pos).1 : Int)], h ++ L.set k (itr l (pos + (Utf8.decode ⟨l.toArray⟩ pos).2))) else some (.tu [.b false], h ++ L) := by
 have hg : (h ++ L)[h.length + k]? = some (.iter ⟨l.toArray⟩ pos) := by
  rw [List.getElem?_append_right (by omega), Nat.add_sub_cancel_left]
  exact hb
 have hs : (⟨l.toArray⟩ : ByteArray).size = l.length := by simp [ByteArray.size]
 simp only [nxV, hg, hs]
 rw [List.set_append_right _ _ (by omega), Nat.add_sub_cancel_left]
 rfl
theorem QS3 (x : Opd) : opR T (.s2s x) fr h = (match x.ev fr with
  | .sl id off n c k => if n = 0 then none else match h[id]? with
   | some (.blk fl true xs) => some (.sl id off n c k, h.set id (.blk fl false xs))
   | _ => none
  | _ => none) := _root_.id rfl
def bixV (l : List UInt8) (n : Int) : Int := match (List.range l.length).find? fun i => (⟨l.toArray⟩ : ByteArray)[i]! == UInt8.ofNat n.toNat with
 | some i => (i : Int)
 | none => -1
theorem qRe (x y : Opd) : opR T (.bix x y) fr h = (match x.ev fr, y.ev fr with
  | .s l, .i .u8 n => some (.i .i64 (bixV l n), h)
  | _, _ => none) := _root_.id rfl
end
theorem ZLa {l : List UInt8} {pos : Nat} (h : pos < l.length) (ha : (l[pos]).toNat < 128) : Utf8.decode ⟨l.toArray⟩ pos = ((l[pos]).toNat, 1) := by
 have hs : pos < (⟨l.toArray⟩ : ByteArray).size := by simpa [ByteArray.size] using h
 exact decode_ascii ⟨l.toArray⟩ pos hs ha
def ixsV (x i : AV) : Option AV := match x, i with
 | .s l, .i _ n => if 0 ≤ n then (l[n.toNat]?).map fun b : UInt8 => .i .u8 (b.toNat : Int) else none
 | _, _ => none
theorem QgH {T : Env} {fr : List AV} {h : List AB} (x i : Opd) : opR T (.ixs x i) fr h = (ixsV (x.ev fr) (i.ev fr)).map (·, h) := by
 show (match x.ev fr, i.ev fr with
  | .s l, .i _ n => if 0 ≤ n then (l[n.toNat]?).map fun b : UInt8 => (AV.i .u8 (b.toNat : Int), h) else none
  | _, _ => none) = _
 unfold ixsV
 split
 ·split
  ·rw [Option.map_map]; rfl
  ·rfl
 ·rfl
theorem z29 {l : List UInt8} {n : Nat} (k : IntKind) (h : n < l.length) : ixsV (.s l) (.i k (n : Int)) = some (.i .u8 ((l.getD n 0).toNat : Int)) := by
 unfold ixsV
 dsimp only
 rw [if_pos (by omega), Int.toNat_natCast, List.getElem?_eq_getElem h, List.getD_eq_getElem?_getD, List.getElem?_eq_getElem h]
 rfl
theorem YMd {l : List UInt8} {n : Nat} (k : IntKind) (h : n ≤ l.length) : slS l none (some (.i k (n : Int))) = some (.s (l.take n)) := by
 simp only [slS, bnd]
 rw [if_pos (by omega)]
 simp
theorem KeA {l : List UInt8} {n : Nat} (k : IntKind) (h : n ≤ l.length) : slS l (some (.i k (n : Int))) none = some (.s (l.drop n)) := by
 simp only [slS, bnd, Option.bind_some]
 rw [if_pos (by omega)]
 simp
theorem ZPX {l : List UInt8} {n m : Nat} (k k' : IntKind) (h : n ≤ m) (h2 : m ≤ l.length) : slS l (some (.i k (n : Int))) (some (.i k' (m : Int))) = some (.s ((l.take m).drop n)) := by
 simp only [slS, bnd]
 rw [if_pos (by omega), Option.bind_some, Int.toNat_natCast, if_pos (by omega)]
 simp
theorem qTS {T : Env} {fr : List AV} {h : List AB} (x : Opd) (lo hi : Option Opd) : opR T (.sls x lo hi) fr h = (match x.ev fr with
  | .s l => (slS l (lo.map (Opd.ev fr)) (hi.map (Opd.ev fr))).map (·, h)
  | _ => none) := _root_.id rfl
end Go.Proofs.YthhghdebjiiliaaDoor
end
section
namespace Go.Proofs.YthhghdebjiiliaaDoor
def XUb := (And.intro (And.intro (And.intro (And.intro (And.intro (And.intro (And.intro @KBX (And.intro @Xko @QUN)) (And.intro (And.intro @YJJ @KnJ) (And.intro @zlx @zSp))) (And.intro (And.intro @Zcq (And.intro @X7t @Yyv)) (And.intro (And.intro @J20 @Q3N) (And.intro @qsb @ZDY)))) (And.intro (And.intro (And.intro @Y2j (And.intro @KXI @Yv8)) (And.intro (And.intro @JsW @JY2) (And.intro @ZeF @z5f))) (And.intro (And.intro (And.intro @JOV @W_op) (And.intro @K14 @XLj)) (And.intro (And.intro @KFv @z87) (And.intro @X7q @JOK))))) (And.intro (And.intro (And.intro (And.intro @QF3 (And.intro @KQf @XFA)) (And.intro (And.intro @YGT @XHP) (And.intro @pl_0 @pl_s))) (And.intro (And.intro @JcR (And.intro @QiT @KWy)) (And.intro (And.intro @QPT @ev_t) (And.intro @ev_c @Ymx)))) (And.intro (And.intro (And.intro @XUs (And.intro @YC9 @JGW)) (And.intro (And.intro @K5A @zsQ) (And.intro @z6c @Xeb))) (And.intro (And.intro (And.intro @ZtQ @JHM) (And.intro @YVg @ZWu)) (And.intro (And.intro @Kw9 @zzQ) (And.intro @K9O @Qlt)))))) (And.intro (And.intro (And.intro (And.intro (And.intro @Xtk (And.intro @YtK @qrf)) (And.intro (And.intro @Z2c @KAR) (And.intro @Js6 @JEu))) (And.intro (And.intro @ZNd (And.intro @YUo @J5c)) (And.intro (And.intro @qVx @X2B) (And.intro @Qfd @QdC)))) (And.intro (And.intro (And.intro @zxb (And.intro @X7B @KYF)) (And.intro (And.intro @YGS @QZe) (And.intro @Yul @Yqh))) (And.intro (And.intro (And.intro @QSa @zOS) (And.intro @YC1 @JGa)) (And.intro (And.intro @JnF @Yrn) (And.intro @zQy @Xd6))))) (And.intro (And.intro (And.intro (And.intro @QP9 (And.intro @Tab.at_nil @Tab.at_cons)) (And.intro (And.intro @zeG @YJY) (And.intro @KWo @YgD))) (And.intro (And.intro (And.intro @zAT @zkA) (And.intro @zrk @qZy)) (And.intro (And.intro @Ku9 @J5k) (And.intro @QVg @J3q)))) (And.intro (And.intro (And.intro @ZKv (And.intro @qiR @qcy)) (And.intro (And.intro @all_nil @all_cons) (And.intro @XU5 @Kht))) (And.intro (And.intro (And.intro @zti @q2A) (And.intro @J5W @Qzw)) (And.intro (And.intro @Q3i @qUo) (And.intro @qEF @zqZ))))))) (And.intro (And.intro (And.intro (And.intro (And.intro (And.intro @Qjg (And.intro @XLZ @Kfq)) (And.intro (And.intro @Yk9 @zgY) (And.intro @K67 @XFM))) (And.intro (And.intro @Qu9 (And.intro @QWx @q7L)) (And.intro (And.intro @KeQ @zG2) (And.intro @Q16 @Ks6)))) (And.intro (And.intro (And.intro @zFX (And.intro @Zwg @JHL)) (And.intro (And.intro @KkF @XEJ) (And.intro @Jvm @JQT))) (And.intro (And.intro (And.intro @YpF @KiV) (And.intro @qnI @XwC)) (And.intro (And.intro @QYE @KLg) (And.intro @KDH @Jor))))) (And.intro (And.intro (And.intro (And.intro @true_and (And.intro @and_true @true_implies)) (And.intro (And.intro @Bool.true_and @Bool.and_true) (And.intro @Bool.false_and @Bool.and_false))) (And.intro (And.intro (And.intro @Nat.lt_add_one @tp_0) (And.intro @tp_s @qUd)) (And.intro (And.intro @zRV @Z0S) (And.intro @ZFL @Int.cast_ofNat_Int)))) (And.intro (And.intro (And.intro @Int.natCast_inj (And.intro @Int.ofNat_lt @Int.ofNat_le)) (And.intro (And.intro @Int.toNat_natCast @Int.natCast_nonneg) (And.intro @not_false_eq_true @not_true_eq_false))) (And.intro (And.intro (And.intro @Bool.false_eq_true @Xo3) (And.intro @zIm @ZiP)) (And.intro (And.intro @Jrr @YnT) (And.intro @zq4 @QAK)))))) (And.intro (And.intro (And.intro (And.intro (And.intro @XCK (And.intro @Xo2 @YR8)) (And.intro (And.intro @Qei @zHV) (And.intro @Jz6 @ZJy))) (And.intro (And.intro @X8U (And.intro @q2i @YNo)) (And.intro (And.intro @qAs @qqB) (And.intro @QHX @zNW)))) (And.intro (And.intro (And.intro @Zpw (And.intro @Jie @JOT)) (And.intro (And.intro @JnI @zqX) (And.intro @Jnm @qSe))) (And.intro (And.intro (And.intro @KbF @XgG) (And.intro @YHN @KvD)) (And.intro (And.intro @J8P @QRe) (And.intro @zsk @YiN))))) (And.intro (And.intro (And.intro (And.intro @J4W (And.intro @Yzp @YG4)) (And.intro (And.intro @YuJ @zO4) (And.intro @Xsq @Kn6))) (And.intro (And.intro (And.intro @zSu @zW5) (And.intro @YlL @YLo)) (And.intro (And.intro @Qav @YkA) (And.intro @qXj @JiL)))) (And.intro (And.intro (And.intro @QjM (And.intro @Nat.add_assoc @QkM)) (And.intro (And.intro @JOp @KgJ) (And.intro @YNX @QsU))) (And.intro (And.intro (And.intro @qyz @z1B) (And.intro @qXb @zyF)) (And.intro (And.intro @Ket @QcO) (And.intro @Kbx @JcV))))))))
def YvX := (And.intro (And.intro (And.intro (And.intro (And.intro @z8w @zfG) (And.intro @QUE (And.intro @ZRU @XBY))) (And.intro (And.intro @nd_0 (And.intro @nd_s @q0e)) (And.intro @ZFL (And.intro @Z0S @Zwg)))) (And.intro (And.intro (And.intro @JHL (And.intro @decide_eq_true_eq @Bool.and_eq_true)) (And.intro @Bool.and_true (And.intro @Bool.true_and @Nat.lt_add_right_iff_pos))) (And.intro (And.intro @Nat.lt_add_one (And.intro @Nat.add_lt_add_iff_left @Nat.zero_lt_succ)) (And.intro @or_true (And.intro @true_or @and_true))))) (And.intro (And.intro (And.intro (And.intro @true_and @and_self) (And.intro @Nat.zero_add (And.intro @Nat.add_zero @false_or))) (And.intro (And.intro @qFD (And.intro @Zfr @qiv)) (And.intro @JsA (And.intro @zRV @qUd)))) (And.intro (And.intro (And.intro @imp_self (And.intro @KC5 @qrQ)) (And.intro @qZi (And.intro @zTb @decide_true))) (And.intro (And.intro @Bool.or_true (And.intro @Z1y @QcP)) (And.intro @zwm (And.intro @Q2S @Nat.lt_irrefl))))))
def Xgj := (And.intro (And.intro (And.intro @ZA0 @ZaI) (And.intro @qbl (And.intro @KPX @QgU))) (And.intro (And.intro @qhb @qTL) (And.intro @zwn (And.intro @ZXZ @XNQ))))
end Go.Proofs.YthhghdebjiiliaaDoor
end
section
namespace Go.Proofs.YthhghdebjiiliaaDoor
section
variable {α : Type} {r : Row α} {h l : List AB}
def mskQ (base c anc : Nat) (past : List Pt) (l : List AB) : List AB := mskL base c anc past [] 0 l
def vis (base c anc : Nat) (past : List Pt) (k : Nat) : Bool := decide (k < c) || past.any (fun p => bit p.k anc && decide (p.lo ≤ base + k) && decide (base + k < p.hi))
theorem KUb (base c anc : Nat) (past : List Pt) (k : Nat) : qOk (base + c) 0 0 anc past (base + k) = vis base c anc past k := by
 rw [zir]
 unfold vis
 have e1 : decide (base + k < base + c) = decide (k < c) := decide_eq_decide.2 (by omega)
 have e2 : decide (base + k < 0) = false := decide_eq_false (by omega)
 rw [e1, e2, Bool.and_false, Bool.or_false]
theorem Xp9 (base c anc : Nat) (past : List Pt) (l : List AB) (k : Nat) : (mskQ base c anc past l)[k]? = (l[k]?).map fun B => if vis base c anc past k = true then B.freeze else .dead := by
 unfold mskQ
 rw [qT2, Nat.zero_add]
 congr 1
 funext B
 rw [KUb]
 simp [zYO]
theorem Yho (base c anc : Nat) (past : List Pt) (l : List AB) : (mskQ base c anc past l).length = l.length := by
 rcases Nat.lt_trichotomy (mskQ base c anc past l).length l.length with q | q | q
 ·have := Xp9 base c anc past l (mskQ base c anc past l).length
  rw [List.getElem?_eq_none (Nat.le_refl _), List.getElem?_eq_getElem q] at this
  cases this
 ·exact q
 ·have := Xp9 base c anc past l l.length
  rw [List.getElem?_eq_none (Nat.le_refl _), List.getElem?_eq_getElem q] at this
  cases this
theorem Juw (L : List AB) (k : Nat) : ownC L k = match L[k]? with
  | some (.blk _ _ xs) => some xs
  | _ => none := by rw [← YAm]; rfl
theorem Kgq {base c anc : Nat} {past : List Pt} {k : Nat} (hv : vis base c anc past k = true) : ownC (mskQ base c anc past l) k = ownC l k := by
 rw [Juw, Juw, Xp9]
 cases l[k]? with
 | none => rfl
 | some B => simp only [Option.map_some, hv, if_true]; cases B <;> rfl
theorem YtH {base c anc : Nat} {past : List Pt} {k : Nat} (hv : vis base c anc past k = true) : bxL (mskQ base c anc past l) k = bxL l k := by
 rw [← XIs, ← XIs]
 unfold bxS
 rw [Xp9]
 cases l[k]? with
 | none => rfl
 | some B =>
  simp only [Option.map_some, hv, if_true]
  cases B with
  | blk fl m xs => cases fl <;> (cases xs with | nil => rfl | cons a t => cases t <;> rfl)
  | _ => rfl
theorem Zx2 (x : List α) : ∀ (L : List AB) (k : Nat), ownR r x L k ↔ ∃ m, L[k]? = some (resB r m x)
 | [], k => by simp [ownR]
 | B :: L, 0 => by simp [ownR]
 | B :: L, k + 1 => by simpa [ownR] using Zx2 x L k
theorem ZdC {base c anc : Nat} {past : List Pt} {k : Nat} (x : List α) (hv : vis base c anc past k = true) (hr : ownR r x l k) : ownR r x (mskQ base c anc past l) k = True := by
 refine eq_true ?_
 rw [Zx2] at hr ⊢
 obtain ⟨m, e⟩ := hr
 exact ⟨false, by rw [Xp9, e, Option.map_some, if_pos hv, QAK]⟩
theorem qnX (hz : h.map AB.freeze = h) (c anc n : Nat) (past : List Pt) (l : List AB) (hn : n = h.length + l.length) : YWe (seen (h.length + c) anc past n) [] 0 (h ++ l) = h ++ mskQ h.length c anc past l := Jf1 hz c anc n past [] l hn rfl
theorem Jod (hz : h.map AB.freeze = h) (anc n : Nat) (past : List Pt) (l : List AB) (hn : n = h.length + l.length) : YWe (seen h.length anc past n) [] 0 (h ++ l) = h ++ mskQ h.length 0 anc past l := Jf1 hz 0 anc n past [] l hn rfl
theorem KAP (hz : h.map AB.freeze = h) (c anc n : Nat) (past : List Pt) (w0 : Nat) (ws : List Nat) (l : List AB) (hn : n = h.length + l.length) (hw : ((w0 :: ws).all fun id => decide (h.length ≤ id)) = true) : YWe (seen (h.length + c) anc past n) (w0 :: ws) 0 (h ++ l) = h ++ mskL h.length c anc past (w0 :: ws) 0 l := Jf1 hz c anc n past (w0 :: ws) l hn hw
theorem KjI (G x l : List AB) (hG : G.length = l.length) : Yjq [] (h ++ (G ++ x)) 0 (h ++ l) = h ++ (l ++ x) := by
 rw [XNQ [] (G ++ x) l rfl]
 congr 1
 refine List.ext_getElem? fun j => ?_
 rw [qNu]
 by_cases hj : j < l.length
 ·rw [if_pos hj, if_neg (by simp), List.getElem?_append_left hj]
 ·rw [if_neg hj, List.getElem?_append_right (by omega), List.getElem?_append_right (by omega), hG]
def qP (anc : Nat) : List Pt → Nat → Bool
 | [], _ => false
 | ⟨k, lo, hi, _, _⟩ :: l, id => if lo ≤ id ∧ id < hi then (if anc / 2 ^ k % 2 = 1 then true else qP anc l id) else qP anc l id
theorem YmW (anc id : Nat) : qP anc [] id = false := _root_.id rfl
theorem Y0k (anc k lo hi : Nat) (rs ws : List Nat) (l : List Pt) (id : Nat) : qP anc (⟨k, lo, hi, rs, ws⟩ :: l) id = if lo ≤ id ∧ id < hi then (if anc / 2 ^ k % 2 = 1 then true else qP anc l id) else qP anc l id := _root_.id rfl
theorem zPq (anc id : Nat) : ∀ past : List Pt, qP anc past id = past.any fun p => bit p.k anc && decide (p.lo ≤ id) && decide (id < p.hi)
 | [] => rfl
 | ⟨k, lo, hi, rs, ws⟩ :: l => by
  rw [Y0k, List.any_cons, zPq anc id l, ZD6]
  by_cases h1 : lo ≤ id <;> by_cases h2 : id < hi <;> by_cases h3 : anc / 2 ^ k % 2 = 1 <;> simp [h1, h2, h3]
theorem XTn (len0 lo hi anc : Nat) (past : List Pt) (id : Nat) : qOk len0 lo hi anc past id = if id < len0 then true else if lo ≤ id ∧ id < hi then true else qP anc past id := by
 rw [zir, zPq]
 by_cases h1 : id < len0 <;> by_cases h2 : lo ≤ id <;> by_cases h3 : id < hi <;> simp [h1, h2, h3]
theorem QkT (base c anc : Nat) (past : List Pt) (k : Nat) : vis base c anc past k = if k < c then true else qP anc past (base + k) := by
 unfold vis
 rw [zPq]
 by_cases h1 : k < c <;> simp [h1]
def sepA (anc lo hi : Nat) : List Pt → Bool
 | [] => true
 | ⟨k, lo', hi', _, _⟩ :: l => if hi' ≤ lo ∨ hi ≤ lo' then sepA anc lo hi l else if anc / 2 ^ k % 2 = 1 then false else sepA anc lo hi l
theorem Jnz (anc lo hi : Nat) : sepA anc lo hi [] = true := _root_.id rfl
theorem z6s (anc lo hi k lo' hi' : Nat) (rs ws : List Nat) (l : List Pt) : sepA anc lo hi (⟨k, lo', hi', rs, ws⟩ :: l) = if hi' ≤ lo ∨ hi ≤ lo' then sepA anc lo hi l else if anc / 2 ^ k % 2 = 1 then false else sepA anc lo hi l := _root_.id rfl
theorem Xuh (anc lo hi : Nat) : ∀ past : List Pt, sepA anc lo hi past = past.all fun p' => !bit p'.k anc || decide (p'.hi ≤ lo) || decide (hi ≤ p'.lo)
 | [] => rfl
 | ⟨k, lo', hi', rs, ws⟩ :: l => by
  rw [z6s, List.all_cons, Xuh anc lo hi l, ZD6]
  by_cases h1 : hi' ≤ lo <;> by_cases h2 : hi ≤ lo' <;> by_cases h3 : anc / 2 ^ k % 2 = 1 <;> simp [h1, h2, h3]
def indA (len0 anc : Nat) (past0 : List Pt) (ws0 : List Nat) : List Pt → Bool
 | [] => true
 | ⟨k, lo, hi, rs, ws⟩ :: l => if anc / 2 ^ k % 2 = 1 then indA len0 anc past0 ws0 l else
   if (ws.all fun id => !qOk len0 0 0 anc past0 id) = true then
    if hi ≤ lo ∨ (len0 ≤ lo ∧ sepA anc lo hi past0 = true) then
     if (ws0.all fun id => !X72 ⟨k, lo, hi, rs, ws⟩ id && !memN id (rs ++ ws)) = true then indA len0 anc past0 ws0 l else false
    else false
   else false
theorem Ztj (len0 anc : Nat) (past0 : List Pt) (ws0 : List Nat) : indA len0 anc past0 ws0 [] = true := _root_.id rfl
theorem Kqv (len0 anc : Nat) (past0 : List Pt) (ws0 : List Nat) (k lo hi : Nat) (rs ws : List Nat) (l : List Pt) : indA len0 anc past0 ws0 (⟨k, lo, hi, rs, ws⟩ :: l) = if anc / 2 ^ k % 2 = 1 then indA len0 anc past0 ws0 l else
      if (ws.all fun id => !qOk len0 0 0 anc past0 id) = true then
        if hi ≤ lo ∨ (len0 ≤ lo ∧ sepA anc lo hi past0 = true) then
          if (ws0.all fun id => !X72 ⟨k, lo, hi, rs, ws⟩ id && !memN id (rs ++ ws)) = true then indA len0 anc past0 ws0 l else false
        else false
      else false := _root_.id rfl
theorem ZGy (len0 anc : Nat) (past0 : List Pt) (ws0 : List Nat) : ∀ past : List Pt, past.all (qUm len0 anc past0 ws0) = indA len0 anc past0 ws0 past
 | [] => rfl
 | ⟨k, lo, hi, rs, ws⟩ :: l => by
  rw [Kqv, List.all_cons, ZGy len0 anc past0 ws0 l, z93, Xuh, ZD6]
  by_cases h1 : anc / 2 ^ k % 2 = 1
  ·simp [h1]
  ·simp only [h1, decide_false, Bool.false_or, if_false]
   generalize (ws.all fun id => !qOk len0 0 0 anc past0 id) = a
   generalize (past0.all fun p' => !bit p'.k anc || decide (p'.hi ≤ lo) || decide (hi ≤ p'.lo)) = b
   generalize (ws0.all fun id => !X72 ⟨k, lo, hi, rs, ws⟩ id && !memN id (rs ++ ws)) = e
   by_cases h2 : hi ≤ lo <;> by_cases h3 : len0 ≤ lo <;> cases a <;> cases b <;> cases e <;> simp [h2, h3]
def indL (anc : Nat) (rs : List Nat) : List Pt → Bool
 | [] => true
 | ⟨k, lo, hi, rs', ws⟩ :: l => if anc / 2 ^ k % 2 = 1 then indL anc rs l else
   if (rs.all fun id => !X72 ⟨k, lo, hi, rs', ws⟩ id) = true then indL anc rs l else false
theorem Z4k (anc : Nat) (rs : List Nat) : indL anc rs [] = true := _root_.id rfl
theorem Xs7 (anc : Nat) (rs : List Nat) (k lo hi : Nat) (rs' ws : List Nat) (l : List Pt) : indL anc rs (⟨k, lo, hi, rs', ws⟩ :: l) = if anc / 2 ^ k % 2 = 1 then indL anc rs l else
      if (rs.all fun id => !X72 ⟨k, lo, hi, rs', ws⟩ id) = true then indL anc rs l else false := _root_.id rfl
theorem Q7c (anc : Nat) (rs : List Nat) : ∀ past : List Pt, past.all (XOE anc rs []) = indL anc rs past
 | [] => rfl
 | ⟨k, lo, hi, rs', ws⟩ :: l => by
  rw [Xs7, List.all_cons, Q7c anc rs l]
  unfold XOE
  rw [ZD6, List.append_nil]
  by_cases h1 : anc / 2 ^ k % 2 = 1
  ·simp [h1]
  ·simp only [h1, decide_false, if_false, List.all_nil, Bool.and_true, Bool.false_eq_true]
   generalize (rs.all fun id => !X72 ⟨k, lo, hi, rs', ws⟩ id) = a
   cases a <;> simp
variable {c : Ctx} {k : List IT} {fr : List AV} {len0 n anc : Nat} {past : List Pt} {d : Option Nat} {ops : List DOp}
theorem KmL (w0 : Nat) (ws : List Nat) (vs : List AV) (v : AV) (G : List AB) : W c (.dmk (w0 :: ws) vs (some (v, G)) len0 n anc past d ops :: k) fr h = (okL (fun i => decide (i < h.length)) vs = true ∧ HOk h ∧ indA len0 anc past (w0 :: ws) past = true ∧ ((w0 :: ws).all fun id => decide (id < h.length)) = true ∧ h.length ≤ G.length ∧ v.ok (qOk len0 h.length G.length anc past) = true ∧
      ((w0 :: ws).all fun id => (G.getD id .dead).ok (qOk len0 h.length G.length anc past)) = true ∧ ((G.drop h.length).all fun B => B.ok (qOk len0 h.length G.length anc past)) = true ∧
      W c (.drw len0 (n + 1) (⟨n, h.length, G.length, seen len0 anc (Yk8 past) h.length, w0 :: ws⟩ :: past) ops :: k) (put fr d v) (Yjq (w0 :: ws) G 0 h)) := by
  rw [← ZGy]
  exact XoI (w0 :: ws) vs v G
theorem QYf (vs : List AV) (v : AV) (c0 anc' : Nat) (past' : List Pt) (x : List AB) : W c (.dmk [] vs (some (v, h ++ (mskQ h.length c0 anc' past' l ++ x))) len0 n anc past d ops :: k) fr (h ++ l) = (okL (fun i => decide (i < h.length + l.length)) vs = true ∧ HOk (h ++ l) ∧ indA len0 anc past [] past = true ∧ v.ok (qOk len0 (h.length + l.length) (h.length + (l.length + x.length)) anc past) = true ∧
      (x.all fun B => B.ok (qOk len0 (h.length + l.length) (h.length + (l.length + x.length)) anc past)) = true ∧
      W c (.drw len0 (n + 1) (⟨n, h.length + l.length, h.length + (l.length + x.length), seen len0 anc (Yk8 past) (h.length + l.length), []⟩ :: past) ops :: k) (put fr d v) (h ++ (l ++ x))) := by
  rw [← ZGy, XoI, KjI _ _ _ (Yho _ _ _ _ _)]
  have e1 : (h ++ l).length = h.length + l.length := List.length_append
  have e2 : (h ++ (mskQ h.length c0 anc' past' l ++ x)).length = h.length + (l.length + x.length) := by rw [List.length_append, List.length_append, Yho]
  have e3 : (h ++ (mskQ h.length c0 anc' past' l ++ x)).drop (h ++ l).length = x := by
    rw [e1, zwn, List.drop_append_of_le_length (by rw [Yho]; exact Nat.le_refl _), List.drop_eq_nil_of_le (by rw [Yho]; exact Nat.le_refl _), List.nil_append]
  rw [e3, e2, e1]
  have e4 : (h.length + l.length ≤ h.length + (l.length + x.length)) = True := eq_true (by omega)
  simp only [List.all_nil, e4, true_and]
theorem ZJb (vs : List AV) (v : AV) (c0 anc' : Nat) (past' : List Pt) : W c (.dmk [] vs (some (v, h ++ mskQ h.length c0 anc' past' l)) len0 n anc past d ops :: k) fr (h ++ l) = (okL (fun i => decide (i < h.length + l.length)) vs = true ∧ HOk (h ++ l) ∧ indA len0 anc past [] past = true ∧ v.ok (qOk len0 (h.length + l.length) (h.length + l.length) anc past) = true ∧
      W c (.drw len0 (n + 1) (⟨n, h.length + l.length, h.length + l.length, seen len0 anc (Yk8 past) (h.length + l.length), []⟩ :: past) ops :: k) (put fr d v) (h ++ l)) := by
  have := QYf (c := c) (k := k) (fr := fr) (len0 := len0) (n := n) (anc := anc) (past := past) (d := d) (ops := ops) (h := h) (l := l) vs v c0 anc' past' []
  simpa only [List.append_nil, List.length_nil, Nat.add_zero, List.all_nil, true_and] using this
theorem zUa (v : AV) (h' : List AB) (x : AV) : W c (.dld (some (v, h')) x len0 n anc past d ops :: k) fr h = ((if indA len0 anc past [] past = true then True else indL anc (idOf x) past = true) ∧ x.ok (qOk len0 0 0 anc past) = true ∧ v.ok (qOk len0 0 0 anc past) = true ∧ W c (.drw len0 (n + 1) (⟨n, 0, 0, idOf x, []⟩ :: past) ops :: k) (put fr d v) h) := by
 rw [← ZGy, ← Q7c]
 exact KvZ v h' x
theorem Qqb {n : Nat} (h : n ≤ 1000000) : (n ≤ maxLen) = True := eq_true (by unfold maxLen; omega)
end
def KIu := (And.intro (And.intro (And.intro (And.intro (And.intro (And.intro (And.intro @ZGX @YhU) (And.intro @YOS @ZKY)) (And.intro (And.intro @QSL @qwP) (And.intro @ZnH (And.intro @YBr @QeR)))) (And.intro (And.intro (And.intro @Km4 @KVl) (And.intro @X3E (And.intro @ZL7 @KuD))) (And.intro (And.intro @zoe @JXA) (And.intro @Qw4 (And.intro @K7G @zUa))))) (And.intro (And.intro (And.intro (And.intro @X8b @za8) (And.intro @Y4q @Z5t)) (And.intro (And.intro @YuL @XbE) (And.intro @z0G (And.intro @KPt @zpz)))) (And.intro (And.intro (And.intro @JUm @ZJi) (And.intro @ZGk (And.intro @Kpm @zgw))) (And.intro (And.intro @ZPA @Z4g) (And.intro @ZDu (And.intro @KdZ @YEa)))))) (And.intro (And.intro (And.intro (And.intro (And.intro @Kuo @YnF) (And.intro @QKF @qTx)) (And.intro (And.intro @K7M @YDN) (And.intro @JKW (And.intro @ZLt @YA2)))) (And.intro (And.intro (And.intro @JR5 @Xrv) (And.intro @Q7O (And.intro @YEd @X0V))) (And.intro (And.intro @Zat @QvS) (And.intro @JAL (And.intro @Xpi @zZg))))) (And.intro (And.intro (And.intro (And.intro @QD4 @ZuX) (And.intro @KMV (And.intro @QvA @zYO))) (And.intro (And.intro @ZYj @qfU) (And.intro @qRX (And.intro @QaH @QTM)))) (And.intro (And.intro (And.intro @YK8 @zaz) (And.intro @QQ7 (And.intro @zud @Z2p))) (And.intro (And.intro @QZu @qYN) (And.intro @ZYp (And.intro @z3q @Jmj))))))) (And.intro (And.intro (And.intro (And.intro (And.intro (And.intro @ok_i @ok_b) (And.intro @ok_s @JEQ)) (And.intro (And.intro @KYI @XYT) (And.intro @ok_p (And.intro @ok_y @ZsV)))) (And.intro (And.intro (And.intro @ok_f @Knd) (And.intro @qRZ (And.intro @XIo @Juy))) (And.intro (And.intro @qbk @qqd) (And.intro @QeI (And.intro @Yfy @zfD))))) (And.intro (And.intro (And.intro (And.intro @QW0 @z5U) (And.intro @Z3F (And.intro @any_cons @Zc6))) (And.intro (And.intro @JsJ @qSz) (And.intro @QOw (And.intro @KOI @ZZE)))) (And.intro (And.intro (And.intro @z5w @Ztb) (And.intro @K6H (And.intro @X2s @Tab.ws_nil))) (And.intro (And.intro @Tab.ws_cons @decide_true) (And.intro @decide_false (And.intro @Bool.or_true @Bool.or_false)))))) (And.intro (And.intro (And.intro (And.intro (And.intro @Bool.true_or @Bool.false_or) (And.intro @Bool.not_true @Bool.not_false)) (And.intro (And.intro @Xkl @ZUp) (And.intro @YwY (And.intro @KGQ @X8X)))) (And.intro (And.intro (And.intro @YSS @Q3u) (And.intro @X42 (And.intro @Kqj @QfG))) (And.intro (And.intro @KmL @QYf) (And.intro @ZJb (And.intro @Kgq @YtH))))) (And.intro (And.intro (And.intro (And.intro @ZdC @Yho) (And.intro @QkT (And.intro @YmW @Y0k))) (And.intro (And.intro @XTn @Jnz) (And.intro @z6s (And.intro @Ztj @Kqv)))) (And.intro (And.intro (And.intro @Z4k @Xs7) (And.intro @and_self (And.intro @false_and @and_false))) (And.intro (And.intro @or_true @true_or) (And.intro @false_or (And.intro @or_false @Qqb))))))))
end Go.Proofs.YthhghdebjiiliaaDoor
end
section
namespace Go.Proofs.YthhghdebjiiliaaDoor
open Go.RowKit
structure Kept (S : Nat → Prop) (w w' : World) : Prop where
 os : w'.os = w.os
 tape : w'.tape = w.tape
 output : w'.output = w.output
 size : w.heap.size ≤ w'.heap.size
 block : ∀ k, k < w.heap.size → ¬ S k → w'.heap[k]? = w.heap[k]?
def NoS : Nat → Prop := fun _ => False
theorem Kept.below {S : Nat → Prop} {B : Nat} {a b : World} (h : Kept S a b) (hB : B ≤ a.heap.size) (hs : ∀ k, k < a.heap.size → S k → B ≤ k) : Below B a b :=
 ⟨h.os, h.tape, h.output, h.size, fun k hk => h.block k (by omega) fun e => by have := hs k (by omega) e; omega⟩
section
variable {P : Program} (w : World)
end
end Go.Proofs.YthhghdebjiiliaaDoor
end
section
namespace Go.Proofs.YthhghdebjiiliaaDoor
open Go.RowKit
def AV.val : AV → Value
 | .b t => .bool t
 | .i k n => .int k n
 | .s l => .string ⟨l.toArray⟩
 | _ => undef
def AV.fl : AV → Bool
 | .b _ | .i _ _ | .s _ => true
 | _ => false
theorem zVt (ρ : Mp) {a : AV} (h : a.fl = true) : VR ρ a a.val := by
 cases a <;> first | (cases h; done) | skip
 ·exact .b _
 ·exact .i _ _
 ·exact .s _ _ rfl
theorem KFG (ρ : Mp) : ∀ (l : List AV), (∀ a ∈ l, a.fl = true) → VL ρ l (l.map AV.val).toArray
 | [], _ => VL.nil ρ
 | a :: l, h => VL.cons (zVt ρ (h a (.head _))) (KFG ρ l fun b hb => h b (.tail _ hb))
theorem zea {ρ : Mp} {l : List AV} {cs : Array Value} (h : VL ρ l cs) : VR ρ (.ag l) (.agg cs) := .ag l cs h.1 h.2
structure In (K : Code → CC → Prop) (ρ : Mp) (h : List AB) (w : World) : Prop where
 rel : Rel K ρ h w
 frz : ∀ B ∈ h, B.mut = false
variable {K : Code → CC → Prop} {ρ : Mp} {h : List AB} {w : World}
theorem In.nil (w : World) (g0 : ∃ N, GG N w) : In K [] [] w := ⟨⟨rfl, fun i B b o n h => by simp at h, fun i j bi oi bj oj Bi Bj _ h => by simp at h, GL.nil g0⟩, fun B h => by simp at h⟩
theorem JJB {P : Program} {g : Nat} {az : List AV} {vals : Array Value} {h' : List AB} (i : In (KC P) ρ h w) (hv : VL ρ az vals) (e : FnC P g az h (.b true) h') : Calls P g vals w (fun e w' => e = .returned (.bool true) ∧ Kept NoS w w') := by
 refine (e.2 ρ w vals i.rel hv).mono ?_
 rintro e w' ⟨v', ρ', rfl, hva, _, heff⟩
 cases hva
 refine ⟨rfl, heff.os, heff.tape, heff.output.1, heff.size, fun b hb _ => heff.keep b hb fun ⟨j, B, o, h1, h2, _⟩ => ?_⟩
 rw [i.frz B (List.mem_of_getElem? h1)] at h2
 cases h2
end Go.Proofs.YthhghdebjiiliaaDoor
end
section
namespace Go.Proofs.YthhghdebjiiliaaDoor
structure Dg where
 l : List UInt8
 h : l.length = 32
deriving DecidableEq
def u8A (b : UInt8) : AV := .i .u8 (b.toNat : Int)
theorem Z2Z {a b : UInt8} (e : u8A a = u8A b) : a = b := by
 unfold u8A at e
 have e2 : (a.toNat : Int) = (b.toNat : Int) := by
  injection e
 exact UInt8.toNat.inj (by omega)
theorem Y04 {α β : Type} {f : α → β} (hf : ∀ a b, f a = f b → a = b) : ∀ {l l' : List α}, l.map f = l'.map f → l = l'
 | [], [], _ => rfl
 | [], _ :: _, e => by simp at e
 | _ :: _, [], e => by simp at e
 | a :: l, b :: l', e => by
  simp only [List.map_cons, List.cons.injEq] at e
  rw [hf a b e.1, Y04 hf e.2]
theorem Dg.ext {a b : Dg} (e : a.l = b.l) : a = b := by
 cases a; cases b
 cases e
 rfl
def XB5 : Dg := ⟨List.replicate 32 0, by simp⟩
def idR : Row Dg := ⟨fun x => x.l.map u8A, 32, fun x => by rw [List.length_map]; exact x.h, by decide, XB5, fun x y e => Dg.ext (Y04 (fun a b => Z2Z) e)⟩
theorem XSv : idR.sz = 32 := _root_.id rfl
theorem eqcB : ∀ (l l' : List UInt8), l.length = l'.length → qE2 (List.replicate l.length .i) (l.map u8A) (l'.map u8A) = some (decide (l = l'))
 | [], [], _ => by simp [qE2]
 | [], _ :: _, e => by simp at e
 | _ :: _, [], e => by simp at e
 | a :: l, b :: l', e => by
  simp only [List.length_cons, List.replicate_succ, List.map_cons, qE2, u8A, YLt, if_true, Option.bind_some]
  have ih := eqcB l l' (by simpa using e)
  rw [ih, Option.map_some]
  congr 1
  have h1 : ((a.toNat : Int) == (b.toNat : Int)) = decide (a = b) := by
   rw [Bool.eq_iff_iff]
   simp only [beq_iff_eq, decide_eq_true_eq]
   exact ⟨fun q => UInt8.toNat.inj (by omega), fun q => by rw [q]⟩
  rw [h1, Bool.eq_iff_iff]
  simp
theorem Xrx (a b : Dg) : qE2 [.i, .i, .i, .i, .i, .i, .i, .i, .i, .i, .i, .i, .i, .i, .i, .i, .i, .i, .i, .i, .i, .i, .i, .i, .i, .i, .i, .i, .i, .i, .i, .i] (idR.f a) (idR.f b) = some (decide (a = b)) := by
 have := eqcB a.l b.l (a.h.trans b.h.symm)
 rw [a.h] at this
 refine (show qE2 [.i, .i, .i, .i, .i, .i, .i, .i, .i, .i, .i, .i, .i, .i, .i, .i, .i, .i, .i, .i, .i, .i, .i, .i, .i, .i, .i, .i, .i, .i, .i, .i] (idR.f a) (idR.f b) = some (decide (a.l = b.l)) from this).trans ?_
 congr 1
 exact decide_eq_decide.2 ⟨Dg.ext, fun q => by rw [q]⟩
theorem zww (q : Nat → Bool) : ∀ l : List UInt8, okL q (l.map u8A) = true
 | [] => by simp [okL]
 | a :: l => by simp [okL, u8A, AV.ok, zww q l]
theorem XiP (q : Nat → Bool) (d : Dg) : okL q (idR.f d) = true := zww q d.l
theorem ZHr : ∀ l : List UInt8, (l.map u8A).all (wrOk true) = true
 | [] => rfl
 | a :: l => by rw [List.map_cons, List.all_cons, ZHr l]; rfl
theorem QGw (d : Dg) : (idR.f d).all (wrOk true) = true := ZHr d.l
theorem Xom (x : Dg) : ∀ a ∈ idR.f x, a.fl = true := fun a ha => by
 obtain ⟨b, _, rfl⟩ := List.mem_map.1 (show a ∈ x.l.map u8A from ha)
 rfl
end Go.Proofs.YthhghdebjiiliaaDoor
end
section
namespace Go.Proofs.YthhghdebjiiliaaDoor
open Go.Extern
theorem XED : ∀ l : List UInt8, bytesOf (l.map u8A) = some l
 | [] => rfl
 | a :: l => by
  show (bytesOf (l.map u8A)).map (UInt8.ofNat ((a.toNat : Int)).toNat :: ·) = _
  rw [XED l, Int.toNat_natCast, UInt8.ofNat_toNat]
  rfl
end Go.Proofs.YthhghdebjiiliaaDoor
end
section
namespace Go.Proofs.YthhghdebjiiliaaDoor
theorem Xov (a b : List UInt8) : (a == b) = decide (a = b) := by
 rw [Bool.eq_iff_iff]
 simp
theorem KHr (a b : List UInt8) : binV .eql (.s a) (.s b) = some (.b (decide (a = b))) := by
 show some (AV.b (a == b)) = _
 rw [Xov]
section
variable {α : Type}
end
end Go.Proofs.YthhghdebjiiliaaDoor
end
