/- Part 13 of what the laws' proofs rest on. No condition. -/
import Derived.WalkLawsBesides
import Derived.Deep.QuietTactic
import Derived.BigQuiet
import Derived.Lib.Hide
import Derived.Deep.WholeRow
import Derived.Test.YthhghdebjiiliaaDoorPl12
set_option linter.all false
section
namespace Go.Proofs.YthhghdebjiiliaaDoor
open Go.RowKit
section
variable {T : Env} {fr : List AV} {h : List AB} {α : Type} {r : Row α}
def rsl (r : Row α) (id : Nat) (l : List α) : AV := if l.length = 0 then .sl id 0 0 0 (some 0) else .sl id 0 l.length l.length (some r.sz)
def resB (r : Row α) (m : Bool) (l : List α) : AB := if l.length = 0 then .dead else .blk true m (r.cells l)
theorem X2a (id : Nat) (l : List α) : (rsl r id l).isSl = true := by unfold rsl; split <;> rfl
theorem ZsK (id : Nat) (l : List α) : (rsl r id l).isStr = false := zup (X2a id l)
theorem JUX (id : Nat) (l : List α) : (rsl r id l).one = true := YWW (X2a id l)
theorem Xn5 (id : Nat) (l : List α) : (rsl r id l).known = true := QCN (X2a id l)
theorem Z62 (id : Nat) (l : List α) : (rsl r id l).cells = [rsl r id l] := KAK (X2a id l)
theorem QeP (id : Nat) (l : List α) : lenV (rsl r id l) = some (l.length : Int) := by
 unfold rsl
 split
 ·rename_i e; rw [e]; rfl
 ·rfl
theorem YAj (q : Nat → Bool) (id : Nat) (l : List α) (hq : q id = true) : (rsl r id l).ok q = true := by unfold rsl; split <;> simp [AV.ok, hq]
theorem qSu (f : Nat → Nat) (id : Nat) (l : List α) : (rsl r id l).ren f = rsl r (f id) l := by unfold rsl; split <;> simp [AV.ren]
theorem z2r (id : Nat) (l : List α) : idOf (rsl r id l) = [id] := by unfold rsl; split <;> rfl
theorem Q2r : lenV .ns = some 0 := _root_.id rfl
theorem qeF (m : Bool) (l : List α) : (resB r m l).freeze = resB r false l := by unfold resB; split <;> rfl
theorem Ks8 (q : Nat → Bool) (m : Bool) (l : List α) : (resB r m l).ok q = true := by unfold resB; split <;> rfl
def ownR (r : Row α) (l : List α) : List AB → Nat → Prop
 | [], _ => False
 | B :: _, 0 => ∃ m, B = resB r m l
 | _ :: L, k + 1 => ownR r l L k
theorem KkU (m : Bool) (l : List α) (L : List AB) : ownR r l (resB r m l :: L) 0 = True := eq_true ⟨m, rfl⟩
theorem QIY (l : List α) (B : AB) (L : List AB) (k : Nat) : ownR r l (B :: L) (k + 1) = ownR r l L k := _root_.id rfl
theorem JHf (l : List α) : ∀ (L : List AB) (k : Nat), ownR r l L k → ∃ m, L[k]? = some (resB r m l)
 | [], _, e => e.elim
 | B :: _, 0, ⟨m, e⟩ => ⟨m, by rw [e]; rfl⟩
 | _ :: L, k + 1, e => by simpa using JHf l L k e
theorem ZeV {H : List AB} {id : Nat} {m : Bool} {l : List α} (e : H[id]? = some (resB r m l)) : rdS H r.sz (rsl r id l) = some (l.length, r.cells l) := by
 unfold rsl
 by_cases h0 : l.length = 0
 ·rw [if_pos h0]
  have : l = [] := List.eq_nil_of_length_eq_zero h0
  subst this
  simp [rdS, Row.cells]
 ·rw [if_neg h0]
  simp only [rdS]
  rw [if_neg h0]
  unfold resB at e
  rw [if_neg h0] at e
  simp only [Za1, e, Option.bind_some, Nat.zero_add, List.drop_zero, r.cells_len]
  rw [if_pos (Nat.le_refl _), List.take_of_length_le (by rw [r.cells_len]; exact Nat.le_refl _)]
theorem Y2Q {H : List AB} {id : Nat} {m : Bool} {l : List α} (e : H[id]? = some (resB r m l)) (hl : l.length ≤ maxLen) : Rd r H (rsl r id l) l := ⟨ZeV e, hl⟩
theorem YOx (L : List AB) (k : Nat) : (h ++ L)[h.length + k]? = L[k]? := by rw [List.getElem?_append_right (by omega), Nat.add_sub_cancel_left]
theorem KY4 (L : List AB) (k : Nat) (l : List α) (e : ownR r l L k) (hl : l.length ≤ maxLen) : getS r (h ++ L) (rsl r (h.length + k) l) = some l := by
 obtain ⟨m, hm⟩ := JHf l L k e
 exact (Y2Q (by rw [YOx]; exact hm) hl).get
theorem Qrx (o sz n j : Nat) (id : Nat) (l : List α) : fadV o (elP sz (rsl r id l) n j) = some (elP sz (rsl r id l) n (j + o)) := by
 unfold rsl
 split <;> simp [elP, fadV, Nat.add_assoc]
theorem zO4 (q : Nat → Bool) (id sz n j : Nat) (l : List α) (hq : q id = true) : (elP sz (rsl r id l) n j).ok q = true := by unfold rsl; split <;> simp [elP, AV.ok, hq]
theorem Z0W (n : Bool) (x y : Opd) : opR T (.eqn n x y) fr h = (Jx5 (x.ev fr) (y.ev fr)).map fun r => (.b (r ^^ n), h) := _root_.id rfl
theorem q6X : Jx5 .ns .ns = some true := _root_.id rfl
theorem YJJ : Jx5 .se .ns = some false := _root_.id rfl
theorem Yn2 : AV.ns.isStr = false := _root_.id rfl
theorem QGg : AV.se.isStr = false := _root_.id rfl
theorem K2A (a b c d : Nat) (k : Option Nat) : (AV.sl a b c d k).isStr = false := _root_.id rfl
theorem Q11 (q : Nat → Bool) (f : Nat → Nat) (m : Bool) (l : List α) : BWk q f (resB r m l) (resB r m l) = True := by
 unfold resB
 split
 ·exact eq_true trivial
 ·exact eq_true ⟨fun z => z, rfl⟩
theorem QtK (q : Nat → Bool) (f : Nat → Nat) (m' m : Bool) (xs' xs : List AV) : BWk q f (.blk true m' xs') (.blk true m xs) = ((m' = true → m = true) ∧ xs' = xs) := _root_.id rfl
theorem Jg6 (q : Nat → Bool) (f : Nat → Nat) (m' m : Bool) (xs' xs : List AV) : BWk q f (.blk false m' xs') (.blk false m xs) = ((m' = true → m = true) ∧ okL q xs' = true ∧ WkL (renL f xs') xs) := _root_.id rfl
theorem JYw (q : Nat → Bool) (f : Nat → Nat) (s' s : ByteArray) (p' p : Nat) : BWk q f (.iter s' p') (.iter s p) = (s' = s ∧ p' = p) := _root_.id rfl
theorem K7j (q : Nat → Bool) (f : Nat → Nat) (B : AB) : BWk q f .dead B = True := by cases B <;> rfl
theorem JMQ (q : Nat → Bool) (f : Nat → Nat) (st' st : LoopState) (pd' pd : XE) (fr' fr : List AV) (ps' ps : List Nat) (a' a b' b : CC) : BWk q f (.lp st' pd' fr' ps' a' b') (.lp st pd fr ps a b) = ((st' = st ∧ pd' = pd ∧ ps' = ps ∧ a' = a ∧ b' = b) ∧ okL q fr' = true ∧ WkL (renL f fr') fr) := _root_.id rfl
theorem QyY (q : Nat → Bool) (id : Nat) (l : List α) (hq : q id = true) : (rsl r id l).ok q = True := eq_true (YAj q id l hq)
theorem Jxp (p k : Nat) (sel : List Nat) : selN p sel (p + k) = p + sel.getD k 0 := YiE k
theorem KAJ (p : Nat) (sel : List Nat) : selN p sel p = p + sel.getD 0 0 := YiE (p := p) 0
theorem nd_0 (a : Nat) (l : List Nat) : (a :: l).getD 0 0 = a := _root_.id rfl
theorem nd_s (a : Nat) (l : List Nat) (k : Nat) : (a :: l).getD (k + 1) 0 = l.getD k 0 := by simp
theorem qLz : intR.sz = 1 := _root_.id rfl
theorem Xvc : dotR.sz = 2 := _root_.id rfl
theorem zgv : r.cells [] = [] := _root_.id rfl
theorem Q7X (k : IntKind) (n : Int) : (AV.i k n).known = true := _root_.id rfl
theorem KeP (x : Bool) : (AV.b x).known = true := _root_.id rfl
theorem qrF (x : List UInt8) : (AV.s x).known = true := _root_.id rfl
theorem zum (a b : Nat) : (AV.p a b).known = true := _root_.id rfl
theorem QcI : AV.ns.known = true := _root_.id rfl
theorem JS0 (a b c d : Nat) (k : Option Nat) : (AV.sl a b c d k).known = true := _root_.id rfl
theorem Yi5 (f : Fn) (a b : List AV) : (AV.f f a b).known = true := _root_.id rfl
theorem YkB (l : List AV) : (AV.ag l).known = true := _root_.id rfl
def chkI : Nat → Option (List AV) → Bool
 | 0, some [] => true
 | n + 1, some (.i .i64 _ :: l) => chkI n (some l)
 | _, _ => false
def valI : Option (List AV) → List Int
 | some (.i _ a :: l) => a :: valI (some l)
 | _ => []
theorem zog : chkI 0 (some []) = true := by simp [chkI]
theorem zd1 (n : Nat) (a : Int) (l : List AV) : chkI (n + 1) (some (.i .i64 a :: l)) = chkI n (some l) := by simp [chkI]
theorem qAl : valI (some []) = [] := by simp [valI]
theorem q50 (k : IntKind) (a : Int) (l : List AV) : valI (some (.i k a :: l)) = a :: valI (some l) := by simp [valI]
theorem qYf : ∀ (n : Nat) (l : List AV), chkI n (some l) = true → l = intR.cells (valI (some l)) ∧ (valI (some l)).length = n
 | 0, [], _ => by simp [valI, zgv]
 | 0, _ :: _, e => by simp [chkI] at e
 | n + 1, [], e => by simp [chkI] at e
 | n + 1, .i .i64 a :: l, e => by
  rw [zd1] at e
  obtain ⟨h1, h2⟩ := qYf n l e
  rw [q50]
  refine ⟨?_, by simp [h2]⟩
  simp only [Row.cells, List.flatMap_cons, YHC, List.cons_append, List.nil_append]
  congr 1
 | n + 1, .i .u8 _ :: _, e | n + 1, .i .u16 _ :: _, e | n + 1, .i .u32 _ :: _, e | n + 1, .i .u64 _ :: _, e | n + 1, .i .i8 _ :: _, e | n + 1, .i .i16 _ :: _, e | n + 1, .i .i32 _ :: _, e => by simp [chkI] at e
 | n + 1, .b _ :: _, e | n + 1, .s _ :: _, e | n + 1, .p _ _ :: _, e | n + 1, .np :: _, e | n + 1, .sl _ _ _ _ _ :: _, e | n + 1, .se :: _, e | n + 1, .ns :: _, e | n + 1, .f _ _ _ :: _, e | n + 1, .nf :: _, e | n + 1, .ifc _ _ :: _, e | n + 1, .ni :: _, e | n + 1, .ag _ :: _, e | n + 1, .tu _ :: _, e | n + 1, .top :: _, e | n + 1, .y _ :: _, e => by simp [chkI] at e
theorem QoO (L : List AB) (k n c : Nat) (kk : Option Nat) (e : chkI n (ownC L k) = true) (hn : n ≤ 1000) : getS intR (h ++ L) (.sl (h.length + k) 0 n c kk) = some (valI (ownC L k)) := by
 refine Rd.get ⟨?_, ?_⟩
 ·cases hc : ownC L k with
  | none => rw [hc] at e; cases n <;> simp [chkI] at e
  | some l =>
   rw [hc] at e
   obtain ⟨h1, h2⟩ := qYf n l e
   have hb : Za1 (h ++ L) (h.length + k) = some l := by rw [YHG, hc]
   have hl : l.length = n := by rw [h1, Row.cells_len, h2]; exact Nat.mul_one n
   simp only [rdS, hb, Option.bind_some, Nat.zero_add, List.drop_zero, show intR.sz = 1 from rfl, Nat.mul_one, hl]
   split
   ·rename_i h0
    subst h0
    have : l = [] := List.eq_nil_of_length_eq_zero hl
    subst this
    simp [valI, zgv]
   ·rw [if_pos (Nat.le_refl _), List.take_of_length_le (by omega), ← h1, h2]
 ·cases hc : ownC L k with
  | none => simp [valI]
  | some l =>
   rw [hc] at e
   obtain ⟨h1, h2⟩ := qYf n l e
   rw [h2]
   unfold maxLen
   omega
theorem Bt.drop {P : Program} {h : List AB} {v a : AV} (L : List AB) (hh : HOk h) (e : v = a) (hok : v.ok (fun i => decide (i < h.length)) = true) : Bt P h.length [v] (h ++ L) [a] h := by
 subst e
 have := Bt.sel (P := P) (h := h) (l := L) (l' := []) (fr := [v]) (fr' := [v]) [] hh (by simp) trivial ⟨.inr ⟨hok, Wk.ren (fun i hi => Zas hi) hok⟩, trivial⟩
 rw [List.append_nil] at this
 exact this
theorem Bt.dropB {P : Program} {h : List AB} {x y : Bool} (L : List AB) (hh : HOk h) (e : x = y) : Bt P h.length [.b x] (h ++ L) [.b y] h := Bt.drop L hh (by rw [e]) (by simp [AV.ok])
def FinO (P : Program) (p : Nat) (o : Option AV) (h : List AB) (a : AV) (h' : List AB) : Prop := ∃ v, o = some v ∧ Bt P p [v] h [a] h'
theorem qMj {P : Program} {p : Nat} {v a : AV} {h' : List AB} : FinO P p (some v) h a h' = Bt P p [v] h [a] h' := by simp [FinO]
theorem Kow {P : Program} {p n : Nat} {sz : Option Nat} {a : AV} {h' : List AB} : (∃ v, resV fr h [RC.cell n sz] = some v ∧ Bt P p [v] h [a] h') = FinO P p (ldV h sz (pl fr n)) h a h' := by
 have e : resV fr h [RC.cell n sz] = ldV h sz (pl fr n) := by
  simp only [resV, XPi, YfB, zLr]
  cases ldV h sz (pl fr n) <;> rfl
 rw [e]
 rfl
theorem zEp {P : Program} {p n m : Nat} {sz : Option Nat} {a : AV} {h' : List AB} : (∃ v, resV fr h [RC.cell n sz, RC.t m] = some v ∧ Bt P p [v] h [a] h') = FinO P p ((ldV h sz (pl fr n)).map fun x => .tu [x, pl fr m]) h a h' := by
 have e : resV fr h [RC.cell n sz, RC.t m] = (ldV h sz (pl fr n)).map fun x => .tu [x, pl fr m] := by
  simp only [resV, XPi, YfB, zLr, Option.bind_some]
  cases ldV h sz (pl fr n) <;> rfl
 rw [e]
 rfl
def appW (H : List AB) (fl : Bool) (sz by_ : Nat) (s : AV) (m : Nat) (ys : List AV) : Option (AV × List AB) :=
 match s with
 | .ns => if m = 0 then some (.ns, H) else if m * by_ ≤ 140737488355328 ∧ m ≤ maxLen then some (.sl H.length 0 m m (some sz), H ++ [.blk fl true ys]) else none
 | .sl id off len cap k =>
  if m = 0 then some (.sl id off len cap k, H)
  else if len + m ≤ cap then (stB H id (off + len * sz) ys).map fun h' => (.sl id off (len + m) cap k, h')
  else match H[id]? with
   | some (.blk fl' mu xs) =>
    if fl' = fl ∧ off + len * sz ≤ xs.length ∧ (len + m) * by_ ≤ 140737488355328 ∧ len + m ≤ maxLen then
     if k = none then some (.sl H.length 0 (len + m) (len + m) (some sz), H ++ [.blk fl true ((xs.drop off).take (len * sz) ++ ys)])
     else if k = some sz ∧ sz ≠ 0 ∧ mu = true ∧ off + len * sz = xs.length then some (.sl H.length 0 (len + m) (len + m) (some sz), H.set id .dead ++ [.blk fl true (xs.drop off ++ ys)])
     else if k = some sz ∧ sz ≠ 0 ∧ mu = true then some (.sl H.length 0 (len + m) (len + m) (some sz), H.set id .dead ++ [.blk fl true ((xs.drop off).take (len * sz) ++ ys)])
     else none
    else none
   | _ => none
 | _ => none
theorem QYY (H : List AB) (fl : Bool) (sz by_ : Nat) (s x : AV) : appV H fl sz by_ s x = (srcV H sz x).bind fun my => if my.2.all (wrOk fl) = true then appW H fl sz by_ s my.1 my.2 else none := _root_.id rfl
def flB (fl : Bool) : List AB → Nat → Prop
 | [], _ => False
 | B :: _, 0 => ∃ m xs, B = .blk fl m xs
 | _ :: L, k + 1 => flB fl L k
theorem XGs (fl m : Bool) (xs : List AV) (L : List AB) : flB fl (.blk fl m xs :: L) 0 = True := eq_true ⟨m, xs, rfl⟩
theorem ZGo (fl : Bool) (B : AB) (L : List AB) (k : Nat) : flB fl (B :: L) (k + 1) = flB fl L k := _root_.id rfl
theorem XJF (fl : Bool) : ∀ (L : List AB) (k : Nat), flB fl L k → ∃ m xs, L[k]? = some (.blk fl m xs)
 | [], _, e => e.elim
 | B :: _, 0, ⟨m, xs, e⟩ => ⟨m, xs, by rw [e]; rfl⟩
 | _ :: L, k + 1, e => by simpa using XJF fl L k e
theorem qIH (L : List AB) (k : Nat) (fl : Bool) (sz by_ m : Nat) (ys : List AV) (hb : flB fl L k) : appW (h ++ L) fl sz by_ (.sl (h.length + k) 0 0 0 none) m ys = if m = 0 then some (.sl (h.length + k) 0 0 0 none, h ++ L) else if m * by_ ≤ 140737488355328 ∧ m ≤ maxLen then some (.sl (h.length + L.length) 0 m m (some sz), h ++ (L ++ [.blk fl true ys])) else none := by
 obtain ⟨mu, xs, hx⟩ := XJF fl L k hb
 unfold appW
 dsimp only
 split
 ·rfl
 ·rename_i hm
  rw [if_neg (by omega), YOx, hx]
  simp only [true_and, Nat.zero_add, Nat.zero_mul, Nat.zero_le, List.take_zero, List.nil_append, if_true, List.length_append, List.append_assoc]
theorem Ykd (L : List AB) (fl : Bool) (sz by_ m : Nat) (ys : List AV) : appW (h ++ L) fl sz by_ .ns m ys = if m = 0 then some (.ns, h ++ L) else if m * by_ ≤ 140737488355328 ∧ m ≤ maxLen then some (.sl (h.length + L.length) 0 m m (some sz), h ++ (L ++ [.blk fl true ys])) else none := by
 unfold appW
 simp only [List.length_append, List.append_assoc]
theorem J7c (l : List Int) : (intR.cells l).all (wrOk true) = true := by
 induction l with
 | nil => rfl
 | cons a l ih =>
  simp only [Row.cells, List.flatMap_cons, List.all_append] at ih ⊢
  rw [ih]
  rfl
theorem Yuv (l : List (Int × Int)) : (dotR.cells l).all (wrOk true) = true := by
 induction l with
 | nil => rfl
 | cons a l ih =>
  simp only [Row.cells, List.flatMap_cons, List.all_append] at ih ⊢
  rw [ih]
  rfl
def apS (r : Row α) (id : Nat) (l : List α) : AV := if l.length = 0 then .ns else .sl id 0 l.length l.length (some r.sz)
theorem qQd (q : Nat → Bool) (id : Nat) (l : List α) (hq : q id = true) : (apS r id l).ok q = true := by unfold apS; split <;> simp [AV.ok, hq]
theorem JF2 (f : Nat → Nat) (id : Nat) (l : List α) : (apS r id l).ren f = apS r (f id) l := by unfold apS; split <;> simp [AV.ren]
theorem KRy (id : Nat) (l : List α) : (apS r id l).isSl = true := by unfold apS; split <;> rfl
theorem XbL (id : Nat) (l : List α) : lenV (apS r id l) = some (l.length : Int) := by
 unfold apS
 split
 ·rename_i e; rw [e]; rfl
 ·rfl
theorem qnO (id : Nat) : apS r id [] = .ns := _root_.id rfl
theorem qwC (id : Nat) (l : List α) : (apS r id l).isStr = false := zup (KRy id l)
theorem JBK (id : Nat) (l : List α) : (apS r id l).one = true := YWW (KRy id l)
theorem JgP (id : Nat) (l : List α) : (apS r id l).known = true := QCN (KRy id l)
theorem zR0 (id : Nat) (l : List α) : (apS r id l).cells = [apS r id l] := KAK (KRy id l)
theorem KRv (d : Int × Int) : (d.1, d.2) = d := _root_.id rfl
theorem zWr (id : Nat) (x : α) : apS r id [x] = .sl id 0 1 1 (some r.sz) := _root_.id rfl
theorem qce (m : Bool) (x : α) : resB r m [x] = .blk true m (r.f x) := by
 unfold resB
 rw [if_neg (by simp)]
 simp [Row.cells]
def zhE : List AB → Nat → List AB
 | [], _ => []
 | _ :: L, 0 => .dead :: L
 | B :: L, k + 1 => B :: zhE L k
theorem zbi (B : AB) (L : List AB) : zhE (B :: L) 0 = .dead :: L := _root_.id rfl
theorem KhC (B : AB) (L : List AB) (k : Nat) : zhE (B :: L) (k + 1) = B :: zhE L k := _root_.id rfl
def ownM (r : Row α) (l : List α) : List AB → Nat → Prop
 | [], _ => False
 | B :: _, 0 => B = resB r true l
 | _ :: L, k + 1 => ownM r l L k
theorem QQL (l : List α) (L : List AB) : ownM r l (resB r true l :: L) 0 = True := eq_true rfl
theorem JHw (l : List α) (B : AB) (L : List AB) (k : Nat) : ownM r l (B :: L) (k + 1) = ownM r l L k := _root_.id rfl
end
end Go.Proofs.YthhghdebjiiliaaDoor
end
section
namespace Go.Proofs.YthhghdebjiiliaaDoor
open Go.RowKit
def mksV (h : List AB) (fl : Bool) (z : List AV) (by_ : Nat) (le ca : AV) : Option (AV × List AB) :=
 match le, ca with
 | .i _ l, .i _ c => if 0 ≤ l ∧ l ≤ c ∧ (by_ : Int) * c ≤ 2 ^ 47 ∧ c ≤ maxLen then newB h fl ((List.replicate c.toNat z).flatten) (fun n => .sl n 0 l.toNat c.toNat none) else none
 | _, _ => none
theorem Keq {h : List AB} (L : List AB) (k off n cap sz : Nat) (kk : Option Nat) : srcV (h ++ L) sz (.sl (h.length + k) off n cap kk) = if n = 0 then some (0, []) else (ownC L k).bind fun xs => if off + n * sz ≤ xs.length then some (n, (xs.drop off).take (n * sz)) else none := by
 simp only [srcV, YHG]
theorem Y2J {h : List AB} (L : List AB) (k : Nat) (B : AB) : (h ++ L).set (h.length + k) B = h ++ L.set k B := by
 rw [List.set_append_right _ _ (by omega), Nat.add_sub_cancel_left]
theorem ZID {α : Type} (a b : α) (l : List α) : (a :: l).set 0 b = b :: l := _root_.id rfl
theorem XxD {α : Type} (a b : α) (l : List α) (n : Nat) : (a :: l).set (n + 1) b = a :: l.set n b := _root_.id rfl
theorem QHd {α : Type} (r : Row α) (h : List AB) : Rd r h .ns [] := ⟨rfl, Nat.zero_le _⟩
theorem JSB {α : Type} (r : Row α) (h : List AB) : getS r h .ns = some [] := (QHd r h).get
theorem zt1 (sz id off n c : Nat) (k : Option Nat) (kk : IntKind) (m : Int) : iadV sz (.sl id off n c k) (.i kk m) = if 0 ≤ m ∧ m < (n : Int) then some (.p id (off + m.toNat * sz)) else none := _root_.id rfl
theorem Z06 {T : Env} {fr : List AV} {h : List AB} (fl : Bool) (z : List AV) (by_ : Nat) (le ca : Opd) : opR T (.mks fl z by_ le ca) fr h = mksV h fl z by_ (le.ev fr) (ca.ev fr) := by
 show (match le.ev fr, ca.ev fr with
  | .i _ l, .i _ c => if 0 ≤ l ∧ l ≤ c ∧ (by_ : Int) * c ≤ 2 ^ 47 ∧ c ≤ maxLen then newB h fl ((List.replicate c.toNat z).flatten) (fun n => .sl n 0 l.toNat c.toNat none) else none
  | _, _ => none) = _
 rfl
theorem YsO (h : List AB) (fl : Bool) (z : List AV) (by_ : Nat) (k k' : IntKind) (l c : Int) : mksV h fl z by_ (.i k l) (.i k' c) = if 0 ≤ l ∧ l ≤ c ∧ (by_ : Int) * c ≤ 2 ^ 47 ∧ c ≤ maxLen then newB h fl ((List.replicate c.toNat z).flatten) (fun n => .sl n 0 l.toNat c.toNat none) else none := _root_.id rfl
def bxS (h : List AB) (i : Nat) : Option AV :=
 match h[i]? with
 | some (.blk false _ [v]) => some v
 | _ => none
def bxL : List AB → Nat → Option AV
 | [], _ => none
 | .blk false _ [v] :: _, 0 => some v
 | _ :: _, 0 => none
 | _ :: L, k + 1 => bxL L k
theorem QJl : ∀ (L : List AB) (k : Nat), bxS L k = bxL L k
 | [], k => by simp [bxS, bxL]
 | B :: L, 0 => by
  cases B with
  | blk fl m xs => cases fl <;> (cases xs with | nil => simp [bxS, bxL] | cons a l => cases l <;> simp [bxS, bxL])
  | _ => simp [bxS, bxL]
 | B :: L, k + 1 => by
  have := QJl L k
  have e : bxL (B :: L) (k + 1) = bxL L k := by
   cases B with
   | blk fl m xs => cases fl <;> (cases xs with | nil => rfl | cons a l => cases l <;> rfl)
   | _ => rfl
  rw [e, ← this]
  unfold bxS
  rw [List.getElem?_cons_succ]
theorem ze8 {h : List AB} (L : List AB) (k : Nat) : bxS (h ++ L) (h.length + k) = bxL L k := by
 rw [← QJl]
 unfold bxS
 rw [YOx]
theorem Jj7 (m : Bool) (v : AV) (L : List AB) : bxL (.blk false m [v] :: L) 0 = some v := _root_.id rfl
theorem YE7 (B : AB) (L : List AB) (k : Nat) : bxL (B :: L) (k + 1) = bxL L k := by
 cases B with
 | blk fl m xs => cases fl <;> (cases xs with | nil => rfl | cons a l => cases l <;> rfl)
 | _ => rfl
theorem QD2 (q : Nat → Bool) (st : LoopState) (pd : XE) (fr : List AV) (ps : List Nat) (a b : CC) : (AB.lp st pd fr ps a b).ok q = okL q fr := _root_.id rfl
section
variable {c : Ctx} {k : List IT} {fr : List AV} {h : List AB}
end
def J89 : List Pt → List Pt
 | [] => []
 | p :: l => ⟨p.k, p.lo, p.hi, [], []⟩ :: J89 l
theorem JS9 : J89 [] = [] := _root_.id rfl
theorem ZYb (k lo hi : Nat) (rs ws : List Nat) (l : List Pt) : J89 (⟨k, lo, hi, rs, ws⟩ :: l) = ⟨k, lo, hi, [], []⟩ :: J89 l := _root_.id rfl
theorem ZkE (len0 lo hi anc : Nat) (past : List Pt) (id : Nat) : qOk len0 lo hi anc (J89 past) id = qOk len0 lo hi anc past id := by
 unfold qOk
 congr 1
 induction past with
 | nil => rfl
 | cons p l ih => simp only [J89, List.any_cons, ih]
theorem q2n (len0 anc n : Nat) (past : List Pt) : seen len0 anc (J89 past) n = seen len0 anc past n := by
 unfold seen
 congr 1
 funext id
 exact ZkE len0 0 0 anc past id
theorem J9M {c : Ctx} {k : List IT} {fr : List AV} {h : List AB} {len0 n anc : Nat} {past : List Pt} {d : Option Nat} {l : List DOp} (ws : List Nat) (vs : List AV) (v : AV) (G : List AB) : W c (.dmk ws vs (some (v, G)) len0 n anc past d l :: k) fr h = (okL (fun i => decide (i < h.length)) vs = true ∧ HOk h ∧ past.all (qvz len0 anc past ws) = true ∧ (ws.all fun id => decide (id < h.length)) = true ∧ h.length ≤ G.length ∧ v.ok (qOk len0 h.length G.length anc past) = true ∧
      (ws.all fun id => (G.getD id .dead).ok (qOk len0 h.length G.length anc past)) = true ∧ ((G.drop h.length).all fun B => B.ok (qOk len0 h.length G.length anc past)) = true ∧
      W c (.drw len0 (n + 1) (⟨n, h.length, G.length, seen len0 anc (J89 past) h.length, ws⟩ :: past) l :: k) (put fr d v) (Jlf ws G 0 h)) := by
  rw [q2n]
  exact zZO ws vs v G
end Go.Proofs.YthhghdebjiiliaaDoor
end
section
namespace Go.Proofs.YthhghdebjiiliaaDoor
set_option maxRecDepth 100000
section
variable {T : Env} {fr : List AV} {h : List AB}
def itr (l : List UInt8) (pos : Nat) : AB := .iter ⟨l.toArray⟩ pos
theorem Z7X (x : Opd) : opR T (.rng x) fr h = (match x.ev fr with
  | .s l => some (.p h.length 0, h ++ [itr l 0])
  | _ => none) := _root_.id rfl
noncomputable def nxV (h : List AB) (v : AV) : Option (AV × List AB) := match v with
 | .p id 0 => match h[id]? with
  | some (.iter s pos) => if pos < s.size then some (.tu [.b true, .i .i64 (pos : Int), .i .i32 ((Utf8.decode s pos).1 : Int)], h.set id (.iter s (pos + (Utf8.decode s pos).2))) else some (.tu [.b false], h)
  | _ => none
 | _ => none
theorem Xq2 (x : Opd) : opR T (.nxt x) fr h = nxV h (x.ev fr) := by
 show nxV h (x.ev fr) = _
 rfl
theorem Zl5 (L : List AB) (k : Nat) (l : List UInt8) (pos : Nat) (hb : L[k]? = some (itr l pos)) : nxV (h ++ L) (.p (h.length + k) 0) = if pos < l.length then some (.tu [.b true, .i .i64 (pos : Int), .i .i32 ((Utf8.decode ⟨l.toArray⟩ pos).1 : Int)], h ++ L.set k (itr l (pos + (Utf8.decode ⟨l.toArray⟩ pos).2))) else some (.tu [.b false], h ++ L) := by
 have hg : (h ++ L)[h.length + k]? = some (.iter ⟨l.toArray⟩ pos) := by
  rw [List.getElem?_append_right (by omega), Nat.add_sub_cancel_left]
  exact hb
 have hs : (⟨l.toArray⟩ : ByteArray).size = l.length := by simp [ByteArray.size]
 simp only [nxV, hg, hs]
 rw [List.set_append_right _ _ (by omega), Nat.add_sub_cancel_left]
 rfl
def bixV (l : List UInt8) (n : Int) : Int := match (List.range l.length).find? fun i => (⟨l.toArray⟩ : ByteArray)[i]! == UInt8.ofNat n.toNat with
 | some i => (i : Int)
 | none => -1
theorem YlI (x y : Opd) : opR T (.bix x y) fr h = (match x.ev fr, y.ev fr with
  | .s l, .i .u8 n => some (.i .i64 (bixV l n), h)
  | _, _ => none) := _root_.id rfl
end
theorem zbT {l : List UInt8} {pos : Nat} (h : pos < l.length) (ha : (l[pos]).toNat < 128) : Utf8.decode ⟨l.toArray⟩ pos = ((l[pos]).toNat, 1) := by
 have hs : pos < (⟨l.toArray⟩ : ByteArray).size := by simpa [ByteArray.size] using h
 exact decode_ascii ⟨l.toArray⟩ pos hs ha
def ixsV (x i : AV) : Option AV := match x, i with
 | .s l, .i _ n => if 0 ≤ n then (l[n.toNat]?).map fun b : UInt8 => .i .u8 (b.toNat : Int) else none
 | _, _ => none
theorem YCt {T : Env} {fr : List AV} {h : List AB} (x i : Opd) : opR T (.ixs x i) fr h = (ixsV (x.ev fr) (i.ev fr)).map (·, h) := by
 show (match x.ev fr, i.ev fr with
  | .s l, .i _ n => if 0 ≤ n then (l[n.toNat]?).map fun b : UInt8 => (AV.i .u8 (b.toNat : Int), h) else none
  | _, _ => none) = _
 unfold ixsV
 split
 ·split
  ·rw [Option.map_map]; rfl
  ·rfl
 ·rfl
theorem YME {l : List UInt8} {n : Nat} (k : IntKind) (h : n < l.length) : ixsV (.s l) (.i k (n : Int)) = some (.i .u8 ((l.getD n 0).toNat : Int)) := by
 unfold ixsV
 dsimp only
 rw [if_pos (by omega), Int.toNat_natCast, List.getElem?_eq_getElem h, List.getD_eq_getElem?_getD, List.getElem?_eq_getElem h]
 rfl
theorem z3j {l : List UInt8} {n : Nat} (k : IntKind) (h : n ≤ l.length) : slS l none (some (.i k (n : Int))) = some (.s (l.take n)) := by
 simp only [slS, bnd]
 rw [if_pos (by omega)]
 simp
theorem YIx {T : Env} {fr : List AV} {h : List AB} (x : Opd) (lo hi : Option Opd) : opR T (.sls x lo hi) fr h = (match x.ev fr with
  | .s l => (slS l (lo.map (Opd.ev fr)) (hi.map (Opd.ev fr))).map (·, h)
  | _ => none) := _root_.id rfl
end Go.Proofs.YthhghdebjiiliaaDoor
end
section
namespace Go.Proofs.YthhghdebjiiliaaDoor
def Zsy := (And.intro (And.intro (And.intro (And.intro (And.intro (And.intro (And.intro @KR7 (And.intro @ZfQ @KoH)) (And.intro (And.intro @Q7G @JN3) (And.intro @KQs @KOg))) (And.intro (And.intro @XX3 (And.intro @Y6z @Zu3)) (And.intro (And.intro @Jca @KcE) (And.intro @KVx @YaZ)))) (And.intro (And.intro (And.intro @Q3q (And.intro @zm6 @Qmx)) (And.intro (And.intro @QmF @quB) (And.intro @QnA @YZw))) (And.intro (And.intro (And.intro @Kry @W_op) (And.intro @YHL @z8s)) (And.intro (And.intro @Kjx @KEb) (And.intro @Jt7 @QZr))))) (And.intro (And.intro (And.intro (And.intro @zvO (And.intro @qFC @zlX)) (And.intro (And.intro @JLT @qcH) (And.intro @pl_0 @pl_s))) (And.intro (And.intro @zin (And.intro @zS1 @zYq)) (And.intro (And.intro @QTr @ev_t) (And.intro @ev_c @qyy)))) (And.intro (And.intro (And.intro @YQb (And.intro @ZsN @QvS)) (And.intro (And.intro @QH6 @YpE) (And.intro @zVo @qGo))) (And.intro (And.intro (And.intro @q4v @QQq) (And.intro @qVv @qAK)) (And.intro (And.intro @JnS @ZPb) (And.intro @YW7 @qNc)))))) (And.intro (And.intro (And.intro (And.intro (And.intro @qG0 (And.intro @Qa2 @KAo)) (And.intro (And.intro @XVq @QwP) (And.intro @qOP @zSF))) (And.intro (And.intro @Yjc (And.intro @YiP @qxP)) (And.intro (And.intro @XCu @Xo3) (And.intro @Qxr @YbL)))) (And.intro (And.intro (And.intro @XA5 (And.intro @znR @Xqi)) (And.intro (And.intro @QtE @q8v) (And.intro @qZ3 @qMb))) (And.intro (And.intro (And.intro @KgH @ZMj) (And.intro @Yek @XHZ)) (And.intro (And.intro @q1W @q45) (And.intro @Jt3 @Qek))))) (And.intro (And.intro (And.intro (And.intro @Knt (And.intro @Tab.at_nil @Tab.at_cons)) (And.intro (And.intro @qvr @YNm) (And.intro @ZsE @YR9))) (And.intro (And.intro (And.intro @Ymy @QAv) (And.intro @XwD @Yqd)) (And.intro (And.intro @Xhu @zn1) (And.intro @X9q @YA5)))) (And.intro (And.intro (And.intro @ZME (And.intro @KNH @qxZ)) (And.intro (And.intro @all_nil @all_cons) (And.intro @Ys9 @XHH))) (And.intro (And.intro (And.intro @zRT @ZwA) (And.intro @XcQ @zQz)) (And.intro (And.intro @ZPN @Zvb) (And.intro @KaD @zJV))))))) (And.intro (And.intro (And.intro (And.intro (And.intro (And.intro @zle (And.intro @YOV @Xpl)) (And.intro (And.intro @Q9w @J5e) (And.intro @zJI @Xt0))) (And.intro (And.intro @ZeU (And.intro @zBV @zzA)) (And.intro (And.intro @XiG @XWR) (And.intro @Ywi @ZmS)))) (And.intro (And.intro (And.intro @Ytx (And.intro @q0j @qSr)) (And.intro (And.intro @XEy @qxo) (And.intro @Y5a @JiQ))) (And.intro (And.intro (And.intro @Y50 @Za4) (And.intro @Yc9 @KMm)) (And.intro (And.intro @qVt @zSJ) (And.intro @QyX @q3K))))) (And.intro (And.intro (And.intro (And.intro @true_and (And.intro @and_true @true_implies)) (And.intro (And.intro @Bool.true_and @Bool.and_true) (And.intro @Bool.false_and @Bool.and_false))) (And.intro (And.intro (And.intro @Nat.lt_add_one @tp_0) (And.intro @tp_s @Yrg)) (And.intro (And.intro @QEB @zw4) (And.intro @Yii @Int.cast_ofNat_Int)))) (And.intro (And.intro (And.intro @Int.natCast_inj (And.intro @Int.ofNat_lt @Int.ofNat_le)) (And.intro (And.intro @Int.toNat_natCast @Int.natCast_nonneg) (And.intro @not_false_eq_true @not_true_eq_false))) (And.intro (And.intro (And.intro @Bool.false_eq_true @ZsK) (And.intro @JUX @Xn5)) (And.intro (And.intro @Z62 @QeP) (And.intro @Qrx @qeF)))))) (And.intro (And.intro (And.intro (And.intro (And.intro @KkU (And.intro @QIY @QYY)) (And.intro (And.intro @XGs @ZGo) (And.intro @qIH @Ykd))) (And.intro (And.intro @J7c (And.intro @Yuv @zbi)) (And.intro (And.intro @KhC @QQL) (And.intro @JHw @XbL)))) (And.intro (And.intro (And.intro @Z0W (And.intro @q6X @YJJ)) (And.intro (And.intro @Yn2 @QGg) (And.intro @K2A @Yw4))) (And.intro (And.intro (And.intro @ZSJ @KKy) (And.intro @Yai @Qye)) (And.intro (And.intro @zkc @qMj) (And.intro @Kow @zEp))))) (And.intro (And.intro (And.intro (And.intro @Q7X (And.intro @KeP @qrF)) (And.intro (And.intro @zum @QcI) (And.intro @JS0 @Yi5))) (And.intro (And.intro (And.intro @YkB @QoO) (And.intro @zog @zd1)) (And.intro (And.intro @qAl @q50) (And.intro @Y2J @ZID)))) (And.intro (And.intro (And.intro @XxD (And.intro @Nat.add_assoc @ze8)) (And.intro (And.intro @Jj7 @YE7) (And.intro @YHG @JSB))) (And.intro (And.intro (And.intro @zt1 @Z06) (And.intro @YsO @qwC)) (And.intro (And.intro @JBK @JgP) (And.intro @zR0 @Q2r))))))))
def YmD := (And.intro (And.intro (And.intro (And.intro (And.intro @Q11 @qSu) (And.intro @JF2 (And.intro @Jxp @KAJ))) (And.intro (And.intro @nd_0 (And.intro @nd_s @QyY)) (And.intro @Yii (And.intro @zw4 @q0j)))) (And.intro (And.intro (And.intro @qSr (And.intro @decide_eq_true_eq @Bool.and_eq_true)) (And.intro @Bool.and_true (And.intro @Bool.true_and @Nat.lt_add_right_iff_pos))) (And.intro (And.intro @Nat.lt_add_one (And.intro @Nat.add_lt_add_iff_left @Nat.zero_lt_succ)) (And.intro @or_true (And.intro @true_or @and_true))))) (And.intro (And.intro (And.intro (And.intro @true_and @and_self) (And.intro @Nat.zero_add (And.intro @Nat.add_zero @false_or))) (And.intro (And.intro @QtK (And.intro @Jg6 @K7j)) (And.intro @JMQ (And.intro @QEB @Yrg)))) (And.intro (And.intro (And.intro @imp_self (And.intro @qLz @Xvc)) (And.intro @YHC (And.intro @KsJ @decide_true))) (And.intro (And.intro @Bool.or_true (And.intro @KRv @qnO)) (And.intro @zWr (And.intro @qce @Nat.lt_irrefl))))))
def qup := (And.intro (And.intro (And.intro @ZuO @Kn4) (And.intro @qFI (And.intro @XRl @Keq))) (And.intro (And.intro @KY4 @qbY) (And.intro @zCk (And.intro @Xkp @Zi8))))
end Go.Proofs.YthhghdebjiiliaaDoor
end
section
namespace Go.Proofs.YthhghdebjiiliaaDoor
section
variable {α : Type} {r : Row α} {h l : List AB}
def mskQ (base c anc : Nat) (past : List Pt) (l : List AB) : List AB := mskL base c anc past [] 0 l
def vis (base c anc : Nat) (past : List Pt) (k : Nat) : Bool := decide (k < c) || past.any (fun p => bit p.k anc && decide (p.lo ≤ base + k) && decide (base + k < p.hi))
theorem QIK (base c anc : Nat) (past : List Pt) (k : Nat) : qOk (base + c) 0 0 anc past (base + k) = vis base c anc past k := by
 rw [qII]
 unfold vis
 have e1 : decide (base + k < base + c) = decide (k < c) := decide_eq_decide.2 (by omega)
 have e2 : decide (base + k < 0) = false := decide_eq_false (by omega)
 rw [e1, e2, Bool.and_false, Bool.or_false]
theorem Xom (base c anc : Nat) (past : List Pt) (l : List AB) (k : Nat) : (mskQ base c anc past l)[k]? = (l[k]?).map fun B => if vis base c anc past k = true then B.freeze else .dead := by
 unfold mskQ
 rw [JWt, Nat.zero_add]
 congr 1
 funext B
 rw [QIK]
 simp [Zh2]
theorem zPL (base c anc : Nat) (past : List Pt) (l : List AB) : (mskQ base c anc past l).length = l.length := by
 rcases Nat.lt_trichotomy (mskQ base c anc past l).length l.length with q | q | q
 ·have := Xom base c anc past l (mskQ base c anc past l).length
  rw [List.getElem?_eq_none (Nat.le_refl _), List.getElem?_eq_getElem q] at this
  cases this
 ·exact q
 ·have := Xom base c anc past l l.length
  rw [List.getElem?_eq_none (Nat.le_refl _), List.getElem?_eq_getElem q] at this
  cases this
theorem z2U (L : List AB) (k : Nat) : ownC L k = match L[k]? with
  | some (.blk _ _ xs) => some xs
  | _ => none := by rw [← Xyg]; rfl
theorem XzV {base c anc : Nat} {past : List Pt} {k : Nat} (hv : vis base c anc past k = true) : ownC (mskQ base c anc past l) k = ownC l k := by
 rw [z2U, z2U, Xom]
 cases l[k]? with
 | none => rfl
 | some B => simp only [Option.map_some, hv, if_true]; cases B <;> rfl
theorem KuU {base c anc : Nat} {past : List Pt} {k : Nat} (hv : vis base c anc past k = true) : bxL (mskQ base c anc past l) k = bxL l k := by
 rw [← QJl, ← QJl]
 unfold bxS
 rw [Xom]
 cases l[k]? with
 | none => rfl
 | some B =>
  simp only [Option.map_some, hv, if_true]
  cases B with
  | blk fl m xs => cases fl <;> (cases xs with | nil => rfl | cons a t => cases t <;> rfl)
  | _ => rfl
theorem Yyo (x : List α) : ∀ (L : List AB) (k : Nat), ownR r x L k ↔ ∃ m, L[k]? = some (resB r m x)
 | [], k => by simp [ownR]
 | B :: L, 0 => by simp [ownR]
 | B :: L, k + 1 => by simpa [ownR] using Yyo x L k
theorem zrH {base c anc : Nat} {past : List Pt} {k : Nat} (x : List α) (hv : vis base c anc past k = true) (hr : ownR r x l k) : ownR r x (mskQ base c anc past l) k = True := by
 refine eq_true ?_
 rw [Yyo] at hr ⊢
 obtain ⟨m, e⟩ := hr
 exact ⟨false, by rw [Xom, e, Option.map_some, if_pos hv, qeF]⟩
theorem Xey (hz : h.map AB.freeze = h) (c anc n : Nat) (past : List Pt) (l : List AB) (hn : n = h.length + l.length) : KPz (seen (h.length + c) anc past n) [] 0 (h ++ l) = h ++ mskQ h.length c anc past l := Xeo hz c anc n past [] l hn rfl
theorem XWU (hz : h.map AB.freeze = h) (anc n : Nat) (past : List Pt) (l : List AB) (hn : n = h.length + l.length) : KPz (seen h.length anc past n) [] 0 (h ++ l) = h ++ mskQ h.length 0 anc past l := Xeo hz 0 anc n past [] l hn rfl
theorem Kxd (hz : h.map AB.freeze = h) (c anc n : Nat) (past : List Pt) (w0 : Nat) (ws : List Nat) (l : List AB) (hn : n = h.length + l.length) (hw : ((w0 :: ws).all fun id => decide (h.length ≤ id)) = true) : KPz (seen (h.length + c) anc past n) (w0 :: ws) 0 (h ++ l) = h ++ mskL h.length c anc past (w0 :: ws) 0 l := Xeo hz c anc n past (w0 :: ws) l hn hw
theorem qL6 (G x l : List AB) (hG : G.length = l.length) : Jlf [] (h ++ (G ++ x)) 0 (h ++ l) = h ++ (l ++ x) := by
 rw [Zi8 [] (G ++ x) l rfl]
 congr 1
 refine List.ext_getElem? fun j => ?_
 rw [ztm]
 by_cases hj : j < l.length
 ·rw [if_pos hj, if_neg (by simp), List.getElem?_append_left hj]
 ·rw [if_neg hj, List.getElem?_append_right (by omega), List.getElem?_append_right (by omega), hG]
def qP (anc : Nat) : List Pt → Nat → Bool
 | [], _ => false
 | ⟨k, lo, hi, _, _⟩ :: l, id => if lo ≤ id ∧ id < hi then (if anc / 2 ^ k % 2 = 1 then true else qP anc l id) else qP anc l id
theorem J8C (anc id : Nat) : qP anc [] id = false := _root_.id rfl
theorem Xxl (anc k lo hi : Nat) (rs ws : List Nat) (l : List Pt) (id : Nat) : qP anc (⟨k, lo, hi, rs, ws⟩ :: l) id = if lo ≤ id ∧ id < hi then (if anc / 2 ^ k % 2 = 1 then true else qP anc l id) else qP anc l id := _root_.id rfl
theorem Qxm (anc id : Nat) : ∀ past : List Pt, qP anc past id = past.any fun p => bit p.k anc && decide (p.lo ≤ id) && decide (id < p.hi)
 | [] => rfl
 | ⟨k, lo, hi, rs, ws⟩ :: l => by
  rw [Xxl, List.any_cons, Qxm anc id l, YKT]
  by_cases h1 : lo ≤ id <;> by_cases h2 : id < hi <;> by_cases h3 : anc / 2 ^ k % 2 = 1 <;> simp [h1, h2, h3]
theorem qf0 (len0 lo hi anc : Nat) (past : List Pt) (id : Nat) : qOk len0 lo hi anc past id = if id < len0 then true else if lo ≤ id ∧ id < hi then true else qP anc past id := by
 rw [qII, Qxm]
 by_cases h1 : id < len0 <;> by_cases h2 : lo ≤ id <;> by_cases h3 : id < hi <;> simp [h1, h2, h3]
theorem ZHk (base c anc : Nat) (past : List Pt) (k : Nat) : vis base c anc past k = if k < c then true else qP anc past (base + k) := by
 unfold vis
 rw [Qxm]
 by_cases h1 : k < c <;> simp [h1]
def sepA (anc lo hi : Nat) : List Pt → Bool
 | [] => true
 | ⟨k, lo', hi', _, _⟩ :: l => if hi' ≤ lo ∨ hi ≤ lo' then sepA anc lo hi l else if anc / 2 ^ k % 2 = 1 then false else sepA anc lo hi l
theorem qMv (anc lo hi : Nat) : sepA anc lo hi [] = true := _root_.id rfl
theorem ZR8 (anc lo hi k lo' hi' : Nat) (rs ws : List Nat) (l : List Pt) : sepA anc lo hi (⟨k, lo', hi', rs, ws⟩ :: l) = if hi' ≤ lo ∨ hi ≤ lo' then sepA anc lo hi l else if anc / 2 ^ k % 2 = 1 then false else sepA anc lo hi l := _root_.id rfl
theorem qEm (anc lo hi : Nat) : ∀ past : List Pt, sepA anc lo hi past = past.all fun p' => !bit p'.k anc || decide (p'.hi ≤ lo) || decide (hi ≤ p'.lo)
 | [] => rfl
 | ⟨k, lo', hi', rs, ws⟩ :: l => by
  rw [ZR8, List.all_cons, qEm anc lo hi l, YKT]
  by_cases h1 : hi' ≤ lo <;> by_cases h2 : hi ≤ lo' <;> by_cases h3 : anc / 2 ^ k % 2 = 1 <;> simp [h1, h2, h3]
def indA (len0 anc : Nat) (past0 : List Pt) (ws0 : List Nat) : List Pt → Bool
 | [] => true
 | ⟨k, lo, hi, rs, ws⟩ :: l => if anc / 2 ^ k % 2 = 1 then indA len0 anc past0 ws0 l else
   if (ws.all fun id => !qOk len0 0 0 anc past0 id) = true then
    if hi ≤ lo ∨ (len0 ≤ lo ∧ sepA anc lo hi past0 = true) then
     if (ws0.all fun id => !Xua ⟨k, lo, hi, rs, ws⟩ id && !memN id (rs ++ ws)) = true then indA len0 anc past0 ws0 l else false
    else false
   else false
theorem zxf (len0 anc : Nat) (past0 : List Pt) (ws0 : List Nat) : indA len0 anc past0 ws0 [] = true := _root_.id rfl
theorem JC1 (len0 anc : Nat) (past0 : List Pt) (ws0 : List Nat) (k lo hi : Nat) (rs ws : List Nat) (l : List Pt) : indA len0 anc past0 ws0 (⟨k, lo, hi, rs, ws⟩ :: l) = if anc / 2 ^ k % 2 = 1 then indA len0 anc past0 ws0 l else
      if (ws.all fun id => !qOk len0 0 0 anc past0 id) = true then
        if hi ≤ lo ∨ (len0 ≤ lo ∧ sepA anc lo hi past0 = true) then
          if (ws0.all fun id => !Xua ⟨k, lo, hi, rs, ws⟩ id && !memN id (rs ++ ws)) = true then indA len0 anc past0 ws0 l else false
        else false
      else false := _root_.id rfl
theorem KNZ (len0 anc : Nat) (past0 : List Pt) (ws0 : List Nat) : ∀ past : List Pt, past.all (qvz len0 anc past0 ws0) = indA len0 anc past0 ws0 past
 | [] => rfl
 | ⟨k, lo, hi, rs, ws⟩ :: l => by
  rw [JC1, List.all_cons, KNZ len0 anc past0 ws0 l, KIe, qEm, YKT]
  by_cases h1 : anc / 2 ^ k % 2 = 1
  ·simp [h1]
  ·simp only [h1, decide_false, Bool.false_or, if_false]
   generalize (ws.all fun id => !qOk len0 0 0 anc past0 id) = a
   generalize (past0.all fun p' => !bit p'.k anc || decide (p'.hi ≤ lo) || decide (hi ≤ p'.lo)) = b
   generalize (ws0.all fun id => !Xua ⟨k, lo, hi, rs, ws⟩ id && !memN id (rs ++ ws)) = e
   by_cases h2 : hi ≤ lo <;> by_cases h3 : len0 ≤ lo <;> cases a <;> cases b <;> cases e <;> simp [h2, h3]
def indL (anc : Nat) (rs : List Nat) : List Pt → Bool
 | [] => true
 | ⟨k, lo, hi, rs', ws⟩ :: l => if anc / 2 ^ k % 2 = 1 then indL anc rs l else
   if (rs.all fun id => !Xua ⟨k, lo, hi, rs', ws⟩ id) = true then indL anc rs l else false
theorem X9d (anc : Nat) (rs : List Nat) : indL anc rs [] = true := _root_.id rfl
theorem XeE (anc : Nat) (rs : List Nat) (k lo hi : Nat) (rs' ws : List Nat) (l : List Pt) : indL anc rs (⟨k, lo, hi, rs', ws⟩ :: l) = if anc / 2 ^ k % 2 = 1 then indL anc rs l else
      if (rs.all fun id => !Xua ⟨k, lo, hi, rs', ws⟩ id) = true then indL anc rs l else false := _root_.id rfl
theorem ZmB (anc : Nat) (rs : List Nat) : ∀ past : List Pt, past.all (qQm anc rs []) = indL anc rs past
 | [] => rfl
 | ⟨k, lo, hi, rs', ws⟩ :: l => by
  rw [XeE, List.all_cons, ZmB anc rs l]
  unfold qQm
  rw [YKT, List.append_nil]
  by_cases h1 : anc / 2 ^ k % 2 = 1
  ·simp [h1]
  ·simp only [h1, decide_false, if_false, List.all_nil, Bool.and_true, Bool.false_eq_true]
   generalize (rs.all fun id => !Xua ⟨k, lo, hi, rs', ws⟩ id) = a
   cases a <;> simp
variable {c : Ctx} {k : List IT} {fr : List AV} {len0 n anc : Nat} {past : List Pt} {d : Option Nat} {ops : List DOp}
theorem KAv (w0 : Nat) (ws : List Nat) (vs : List AV) (v : AV) (G : List AB) : W c (.dmk (w0 :: ws) vs (some (v, G)) len0 n anc past d ops :: k) fr h = (okL (fun i => decide (i < h.length)) vs = true ∧ HOk h ∧ indA len0 anc past (w0 :: ws) past = true ∧ ((w0 :: ws).all fun id => decide (id < h.length)) = true ∧ h.length ≤ G.length ∧ v.ok (qOk len0 h.length G.length anc past) = true ∧
      ((w0 :: ws).all fun id => (G.getD id .dead).ok (qOk len0 h.length G.length anc past)) = true ∧ ((G.drop h.length).all fun B => B.ok (qOk len0 h.length G.length anc past)) = true ∧
      W c (.drw len0 (n + 1) (⟨n, h.length, G.length, seen len0 anc (J89 past) h.length, w0 :: ws⟩ :: past) ops :: k) (put fr d v) (Jlf (w0 :: ws) G 0 h)) := by
  rw [← KNZ]
  exact J9M (w0 :: ws) vs v G
theorem zEU (vs : List AV) (v : AV) (c0 anc' : Nat) (past' : List Pt) (x : List AB) : W c (.dmk [] vs (some (v, h ++ (mskQ h.length c0 anc' past' l ++ x))) len0 n anc past d ops :: k) fr (h ++ l) = (okL (fun i => decide (i < h.length + l.length)) vs = true ∧ HOk (h ++ l) ∧ indA len0 anc past [] past = true ∧ v.ok (qOk len0 (h.length + l.length) (h.length + (l.length + x.length)) anc past) = true ∧
      (x.all fun B => B.ok (qOk len0 (h.length + l.length) (h.length + (l.length + x.length)) anc past)) = true ∧
      W c (.drw len0 (n + 1) (⟨n, h.length + l.length, h.length + (l.length + x.length), seen len0 anc (J89 past) (h.length + l.length), []⟩ :: past) ops :: k) (put fr d v) (h ++ (l ++ x))) := by
  rw [← KNZ, J9M, qL6 _ _ _ (zPL _ _ _ _ _)]
  have e1 : (h ++ l).length = h.length + l.length := List.length_append
  have e2 : (h ++ (mskQ h.length c0 anc' past' l ++ x)).length = h.length + (l.length + x.length) := by rw [List.length_append, List.length_append, zPL]
  have e3 : (h ++ (mskQ h.length c0 anc' past' l ++ x)).drop (h ++ l).length = x := by
    rw [e1, zCk, List.drop_append_of_le_length (by rw [zPL]; exact Nat.le_refl _), List.drop_eq_nil_of_le (by rw [zPL]; exact Nat.le_refl _), List.nil_append]
  rw [e3, e2, e1]
  have e4 : (h.length + l.length ≤ h.length + (l.length + x.length)) = True := eq_true (by omega)
  simp only [List.all_nil, e4, true_and]
theorem qPO (vs : List AV) (v : AV) (c0 anc' : Nat) (past' : List Pt) : W c (.dmk [] vs (some (v, h ++ mskQ h.length c0 anc' past' l)) len0 n anc past d ops :: k) fr (h ++ l) = (okL (fun i => decide (i < h.length + l.length)) vs = true ∧ HOk (h ++ l) ∧ indA len0 anc past [] past = true ∧ v.ok (qOk len0 (h.length + l.length) (h.length + l.length) anc past) = true ∧
      W c (.drw len0 (n + 1) (⟨n, h.length + l.length, h.length + l.length, seen len0 anc (J89 past) (h.length + l.length), []⟩ :: past) ops :: k) (put fr d v) (h ++ l)) := by
  have := zEU (c := c) (k := k) (fr := fr) (len0 := len0) (n := n) (anc := anc) (past := past) (d := d) (ops := ops) (h := h) (l := l) vs v c0 anc' past' []
  simpa only [List.append_nil, List.length_nil, Nat.add_zero, List.all_nil, true_and] using this
theorem ztR (v : AV) (h' : List AB) (x : AV) : W c (.dld (some (v, h')) x len0 n anc past d ops :: k) fr h = ((if indA len0 anc past [] past = true then True else indL anc (idOf x) past = true) ∧ x.ok (qOk len0 0 0 anc past) = true ∧ v.ok (qOk len0 0 0 anc past) = true ∧ W c (.drw len0 (n + 1) (⟨n, 0, 0, idOf x, []⟩ :: past) ops :: k) (put fr d v) h) := by
 rw [← KNZ, ← ZmB]
 exact JF9 v h' x
theorem Z8S {n : Nat} (h : n ≤ 1000000) : (n ≤ maxLen) = True := eq_true (by unfold maxLen; omega)
end
def qtN := (And.intro (And.intro (And.intro (And.intro (And.intro (And.intro (And.intro @Qvw @Z9v) (And.intro @KiO @YAi)) (And.intro (And.intro @qev @ZfB) (And.intro @Kdb (And.intro @Q4H @zu3)))) (And.intro (And.intro (And.intro @Joc @q4h) (And.intro @QOE (And.intro @JQF @KcC))) (And.intro (And.intro @QPK @zg0) (And.intro @KqY (And.intro @KlH @ztR))))) (And.intro (And.intro (And.intro (And.intro @JS9 @ZYb) (And.intro @ZnR @qgF)) (And.intro (And.intro @zSw @zMO) (And.intro @KS7 (And.intro @qqN @JiD)))) (And.intro (And.intro (And.intro @Qhu @XKy) (And.intro @KBK (And.intro @zUe @Juk))) (And.intro (And.intro @qeI @QuP) (And.intro @Zph (And.intro @QJH @qfb)))))) (And.intro (And.intro (And.intro (And.intro (And.intro @zIW @zmU) (And.intro @qSd @q6S)) (And.intro (And.intro @QuR @Qfr) (And.intro @XxT (And.intro @zpv @qe8)))) (And.intro (And.intro (And.intro @Ysw @ZqU) (And.intro @KhD (And.intro @JHN @QpU))) (And.intro (And.intro @z2V @J0i) (And.intro @znx (And.intro @q4W @QXs))))) (And.intro (And.intro (And.intro (And.intro @Y0X @q77) (And.intro @XIk (And.intro @KUK @Zh2))) (And.intro (And.intro @zsQ @Kgi) (And.intro @Kxq (And.intro @YFq @qie)))) (And.intro (And.intro (And.intro @Xq0 @Z9d) (And.intro @J7e (And.intro @YNT @zv0))) (And.intro (And.intro @KDC @zCP) (And.intro @KWr (And.intro @QLj @Yep))))))) (And.intro (And.intro (And.intro (And.intro (And.intro (And.intro @ok_i @ok_b) (And.intro @ok_s @YCx)) (And.intro (And.intro @q73 @q3l) (And.intro @ok_p (And.intro @ok_y @ZY2)))) (And.intro (And.intro (And.intro @ok_f @QxG) (And.intro @Jit (And.intro @ZWk @JjU))) (And.intro (And.intro @Zly @zvH) (And.intro @ZRS (And.intro @Zms @Zxb))))) (And.intro (And.intro (And.intro (And.intro @XVt @JhI) (And.intro @XoE (And.intro @any_cons @XQB))) (And.intro (And.intro @JZC @qn0) (And.intro @Ytc (And.intro @Z4m @zpo)))) (And.intro (And.intro (And.intro @Qko @JY6) (And.intro @ZJR (And.intro @zmG @Tab.ws_nil))) (And.intro (And.intro @Tab.ws_cons @decide_true) (And.intro @decide_false (And.intro @Bool.or_true @Bool.or_false)))))) (And.intro (And.intro (And.intro (And.intro (And.intro @Bool.true_or @Bool.false_or) (And.intro @Bool.not_true @Bool.not_false)) (And.intro (And.intro @Ks8 @YAj) (And.intro @zO4 (And.intro @ZKA @X7z)))) (And.intro (And.intro (And.intro @Jci @zcq) (And.intro @QD2 (And.intro @qQd @z2r))) (And.intro (And.intro @KAv @zEU) (And.intro @qPO (And.intro @XzV @KuU))))) (And.intro (And.intro (And.intro (And.intro @zrH @zPL) (And.intro @ZHk (And.intro @J8C @Xxl))) (And.intro (And.intro @qf0 @qMv) (And.intro @ZR8 (And.intro @zxf @JC1)))) (And.intro (And.intro (And.intro @X9d @XeE) (And.intro @and_self (And.intro @false_and @and_false))) (And.intro (And.intro @or_true @true_or) (And.intro @false_or (And.intro @or_false @Z8S))))))))
end Go.Proofs.YthhghdebjiiliaaDoor
end
section
namespace Go.Proofs.YthhghdebjiiliaaDoor
open Go.RowKit
structure Kept (S : Nat → Prop) (w w' : World) : Prop where
 os : w'.os = w.os
 tape : w'.tape = w.tape
 output : w'.output = w.output
 size : w.heap.size ≤ w'.heap.size
 block : ∀ k, k < w.heap.size → ¬ S k → w'.heap[k]? = w.heap[k]?
def NoS : Nat → Prop := fun _ => False
theorem Kept.below {S : Nat → Prop} {B : Nat} {a b : World} (h : Kept S a b) (hB : B ≤ a.heap.size) (hs : ∀ k, k < a.heap.size → S k → B ≤ k) : Below B a b :=
 ⟨h.os, h.tape, h.output, h.size, fun k hk => h.block k (by omega) fun e => by have := hs k (by omega) e; omega⟩
section
variable {P : Program} (w : World)
end
end Go.Proofs.YthhghdebjiiliaaDoor
end
section
namespace Go.Proofs.YthhghdebjiiliaaDoor
open Go.RowKit
structure In (K : Code → CC → Prop) (ρ : Mp) (h : List AB) (w : World) : Prop where
 rel : Rel K ρ h w
 frz : ∀ B ∈ h, B.mut = false
variable {K : Code → CC → Prop} {ρ : Mp} {h : List AB} {w : World}
theorem In.nil (w : World) (g0 : ∃ N, GG N w) : In K [] [] w := ⟨⟨rfl, fun i B b o n h => by simp at h, fun i j bi oi bj oj Bi Bj _ h => by simp at h, GL.nil g0⟩, fun B h => by simp at h⟩
theorem q1S {P : Program} {g : Nat} {az : List AV} {vals : Array Value} {h' : List AB} (i : In (KC P) ρ h w) (hv : VL ρ az vals) (e : FnC P g az h (.b true) h') : Calls P g vals w (fun e w' => e = .returned (.bool true) ∧ Kept NoS w w') := by
 refine (e.2 ρ w vals i.rel hv).mono ?_
 rintro e w' ⟨v', ρ', rfl, hva, _, heff⟩
 cases hva
 refine ⟨rfl, heff.os, heff.tape, heff.output.1, heff.size, fun b hb _ => heff.keep b hb fun ⟨j, B, o, h1, h2, _⟩ => ?_⟩
 rw [i.frz B (List.mem_of_getElem? h1)] at h2
 cases h2
end Go.Proofs.YthhghdebjiiliaaDoor
end
