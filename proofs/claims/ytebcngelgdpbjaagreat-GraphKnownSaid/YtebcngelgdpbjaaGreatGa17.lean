/- Part 17 of what the laws' proofs rest on. No condition. -/
import Derived.Test.YtebcngelgdpbjaaGreatGa16
set_option linter.all false
section
namespace Go.Proofs.YtebcngelgdpbjaaGreat
open Go.RowKit
section
variable {T : Env} {fr : List AV} {h : List AB} {α : Type} {r : Row α}
def rsl (r : Row α) (id : Nat) (l : List α) : AV := if l.length = 0 then .sl id 0 0 0 (some 0) else .sl id 0 l.length l.length (some r.sz)
def resB (r : Row α) (m : Bool) (l : List α) : AB := if l.length = 0 then .dead else .blk true m (r.cells l)
theorem QV0 (id : Nat) (l : List α) : (rsl r id l).isSl = true := by unfold rsl; split <;> rfl
theorem YCu (id : Nat) (l : List α) : (rsl r id l).isStr = false := zJL (QV0 id l)
theorem z92 (id : Nat) (l : List α) : (rsl r id l).one = true := Qwk (QV0 id l)
theorem zY8 (id : Nat) (l : List α) : (rsl r id l).known = true := ZVn (QV0 id l)
theorem Yzc (id : Nat) (l : List α) : (rsl r id l).cells = [rsl r id l] := YCL (QV0 id l)
theorem K8w (id : Nat) (l : List α) : lenV (rsl r id l) = some (l.length : Int) := by
 unfold rsl
 split
 ·rename_i e; rw [e]; rfl
 ·rfl
theorem XNG (q : Nat → Bool) (id : Nat) (l : List α) (hq : q id = true) : (rsl r id l).ok q = true := by unfold rsl; split <;> simp [AV.ok, hq]
theorem XkF (f : Nat → Nat) (id : Nat) (l : List α) : (rsl r id l).ren f = rsl r (f id) l := by unfold rsl; split <;> simp [AV.ren]
theorem XPg (id : Nat) (l : List α) : idOf (rsl r id l) = [id] := by unfold rsl; split <;> rfl
theorem qhD : lenV .ns = some 0 := _root_.id rfl
theorem Q7N (m : Bool) (l : List α) : (resB r m l).freeze = resB r false l := by unfold resB; split <;> rfl
theorem KSz (q : Nat → Bool) (m : Bool) (l : List α) : (resB r m l).ok q = true := by unfold resB; split <;> rfl
def ownR (r : Row α) (l : List α) : List AB → Nat → Prop
 | [], _ => False
 | B :: _, 0 => ∃ m, B = resB r m l
 | _ :: L, k + 1 => ownR r l L k
theorem z3Q (m : Bool) (l : List α) (L : List AB) : ownR r l (resB r m l :: L) 0 = True := eq_true ⟨m, rfl⟩
theorem qBT (l : List α) (B : AB) (L : List AB) (k : Nat) : ownR r l (B :: L) (k + 1) = ownR r l L k := _root_.id rfl
theorem QSV (l : List α) : ∀ (L : List AB) (k : Nat), ownR r l L k → ∃ m, L[k]? = some (resB r m l)
 | [], _, e => e.elim
 | B :: _, 0, ⟨m, e⟩ => ⟨m, by rw [e]; rfl⟩
 | _ :: L, k + 1, e => by simpa using QSV l L k e
theorem Q2O {H : List AB} {id : Nat} {m : Bool} {l : List α} (e : H[id]? = some (resB r m l)) : rdS H r.sz (rsl r id l) = some (l.length, r.cells l) := by
 unfold rsl
 by_cases h0 : l.length = 0
 ·rw [if_pos h0]
  have : l = [] := List.eq_nil_of_length_eq_zero h0
  subst this
  simp [rdS, Row.cells]
 ·rw [if_neg h0]
  simp only [rdS]
  rw [if_neg h0]
  unfold resB at e
  rw [if_neg h0] at e
  simp only [XAh, e, Option.bind_some, Nat.zero_add, List.drop_zero, r.cells_len]
  rw [if_pos (Nat.le_refl _), List.take_of_length_le (by rw [r.cells_len]; exact Nat.le_refl _)]
theorem zRw {H : List AB} {id : Nat} {m : Bool} {l : List α} (e : H[id]? = some (resB r m l)) (hl : l.length ≤ maxLen) : Rd r H (rsl r id l) l := ⟨Q2O e, hl⟩
theorem Yn6 (L : List AB) (k : Nat) : (h ++ L)[h.length + k]? = L[k]? := by rw [List.getElem?_append_right (by omega), Nat.add_sub_cancel_left]
theorem YaF (L : List AB) (k : Nat) (l : List α) (e : ownR r l L k) (hl : l.length ≤ maxLen) : getS r (h ++ L) (rsl r (h.length + k) l) = some l := by
 obtain ⟨m, hm⟩ := QSV l L k e
 exact (zRw (by rw [Yn6]; exact hm) hl).get
theorem zas (o sz n j : Nat) (id : Nat) (l : List α) : fadV o (elP sz (rsl r id l) n j) = some (elP sz (rsl r id l) n (j + o)) := by
 unfold rsl
 split <;> simp [elP, fadV, Nat.add_assoc]
theorem ZyC (q : Nat → Bool) (id sz n j : Nat) (l : List α) (hq : q id = true) : (elP sz (rsl r id l) n j).ok q = true := by unfold rsl; split <;> simp [elP, AV.ok, hq]
theorem XCu (m : Bool) {l : List α} (h0 : l.length ≠ 0) : resB r m l = .blk true m (r.cells l) := by
 unfold resB
 rw [if_neg h0]
theorem Yro (m : Bool) {l : List α} (h0 : l.length = 0) : resB r m l = .dead := by
 unfold resB
 rw [if_pos h0]
theorem zcp (n : Bool) (x y : Opd) : opR T (.eqn n x y) fr h = (Y1v (x.ev fr) (y.ev fr)).map fun r => (.b (r ^^ n), h) := _root_.id rfl
theorem XAn : Y1v .ns .ns = some true := _root_.id rfl
theorem q5Y : Y1v .se .ns = some false := _root_.id rfl
theorem zo5 : AV.ns.isStr = false := _root_.id rfl
theorem Z8M : AV.se.isStr = false := _root_.id rfl
theorem qH0 (a b c d : Nat) (k : Option Nat) : (AV.sl a b c d k).isStr = false := _root_.id rfl
theorem YEP (q : Nat → Bool) (f : Nat → Nat) (m : Bool) (l : List α) : BWk q f (resB r m l) (resB r m l) = True := by
 unfold resB
 split
 ·exact eq_true trivial
 ·exact eq_true ⟨fun z => z, rfl⟩
theorem zfI (q : Nat → Bool) (f : Nat → Nat) (m' m : Bool) (xs' xs : List AV) : BWk q f (.blk true m' xs') (.blk true m xs) = ((m' = true → m = true) ∧ xs' = xs) := _root_.id rfl
theorem q2w (q : Nat → Bool) (f : Nat → Nat) (m' m : Bool) (xs' xs : List AV) : BWk q f (.blk false m' xs') (.blk false m xs) = ((m' = true → m = true) ∧ okL q xs' = true ∧ WkL (renL f xs') xs) := _root_.id rfl
theorem YRK (q : Nat → Bool) (f : Nat → Nat) (B : AB) : BWk q f .dead B = True := by cases B <;> rfl
theorem Zsn (q : Nat → Bool) (f : Nat → Nat) (st' st : LoopState) (pd' pd : XE) (fr' fr : List AV) (ps' ps : List Nat) (a' a b' b : CC) : BWk q f (.lp st' pd' fr' ps' a' b') (.lp st pd fr ps a b) = ((st' = st ∧ pd' = pd ∧ ps' = ps ∧ a' = a ∧ b' = b) ∧ okL q fr' = true ∧ WkL (renL f fr') fr) := _root_.id rfl
theorem Bt.selL {P : Program} {h l l' : List AB} {fr fr' : List AV} (n : Nat) (sel : List Nat) (hh : HOk h) (hc : sel.take n = List.range n) (hup : ((sel.drop n).all fun k => decide (n ≤ k)) = true) (hn : n ≤ sel.length) (hnd : sel.Nodup) (hb : BlkSel h.length sel sel.length l sel l') (hfr : FrSel h.length sel sel.length fr fr') : Bt P (h.length + n) fr (h ++ l) fr' (h ++ l') := by
 refine Bt.selc n sel hh (fun i hi => ?_) (fun i k hi hk => ?_) hn hnd hb hfr
 ·have := congrArg (fun x => x[i]?) hc
  simp only [List.getElem?_take, List.getElem?_range hi, if_pos hi] at this
  exact this
 ·refine of_decide_eq_true (List.all_eq_true.1 hup k ?_)
  refine List.mem_of_getElem? (i := i - n) ?_
  rw [List.getElem?_drop, show n + (i - n) = i by omega]
  exact hk
theorem KdD (q : Nat → Bool) (id : Nat) (l : List α) (hq : q id = true) : (rsl r id l).ok q = True := eq_true (XNG q id l hq)
theorem Q7n (p k : Nat) (sel : List Nat) : selN p sel (p + k) = p + sel.getD k 0 := QoZ k
theorem Y0G (p : Nat) (sel : List Nat) : selN p sel p = p + sel.getD 0 0 := QoZ (p := p) 0
theorem nd_0 (a : Nat) (l : List Nat) : (a :: l).getD 0 0 = a := _root_.id rfl
theorem nd_s (a : Nat) (l : List Nat) (k : Nat) : (a :: l).getD (k + 1) 0 = l.getD k 0 := by simp
theorem QPP : intR.sz = 1 := _root_.id rfl
theorem ZeO : dotR.sz = 2 := _root_.id rfl
theorem Qj6 : r.cells [] = [] := _root_.id rfl
theorem Xf7 (k : IntKind) (n : Int) : (AV.i k n).known = true := _root_.id rfl
theorem qy1 (x : Bool) : (AV.b x).known = true := _root_.id rfl
theorem QmB (x : List UInt8) : (AV.s x).known = true := _root_.id rfl
theorem zlI (a b : Nat) : (AV.p a b).known = true := _root_.id rfl
theorem KNX : AV.ns.known = true := _root_.id rfl
theorem JFs (a b c d : Nat) (k : Option Nat) : (AV.sl a b c d k).known = true := _root_.id rfl
theorem KXo (f : Fn) (a b : List AV) : (AV.f f a b).known = true := _root_.id rfl
theorem XFB (l : List AV) : (AV.ag l).known = true := _root_.id rfl
def chkI : Nat → Option (List AV) → Bool
 | 0, some [] => true
 | n + 1, some (.i .i64 _ :: l) => chkI n (some l)
 | _, _ => false
def valI : Option (List AV) → List Int
 | some (.i _ a :: l) => a :: valI (some l)
 | _ => []
theorem Ky0 : chkI 0 (some []) = true := by simp [chkI]
theorem Y4N (n : Nat) (a : Int) (l : List AV) : chkI (n + 1) (some (.i .i64 a :: l)) = chkI n (some l) := by simp [chkI]
theorem XKn : valI (some []) = [] := by simp [valI]
theorem JPb (k : IntKind) (a : Int) (l : List AV) : valI (some (.i k a :: l)) = a :: valI (some l) := by simp [valI]
theorem YaB : ∀ (n : Nat) (l : List AV), chkI n (some l) = true → l = intR.cells (valI (some l)) ∧ (valI (some l)).length = n
 | 0, [], _ => by simp [valI, Qj6]
 | 0, _ :: _, e => by simp [chkI] at e
 | n + 1, [], e => by simp [chkI] at e
 | n + 1, .i .i64 a :: l, e => by
  rw [Y4N] at e
  obtain ⟨h1, h2⟩ := YaB n l e
  rw [JPb]
  refine ⟨?_, by simp [h2]⟩
  simp only [Row.cells, List.flatMap_cons, JEE, List.cons_append, List.nil_append]
  congr 1
 | n + 1, .i .u8 _ :: _, e | n + 1, .i .u16 _ :: _, e | n + 1, .i .u32 _ :: _, e | n + 1, .i .u64 _ :: _, e | n + 1, .i .i8 _ :: _, e | n + 1, .i .i16 _ :: _, e | n + 1, .i .i32 _ :: _, e => by simp [chkI] at e
 | n + 1, .b _ :: _, e | n + 1, .s _ :: _, e | n + 1, .p _ _ :: _, e | n + 1, .np :: _, e | n + 1, .sl _ _ _ _ _ :: _, e | n + 1, .se :: _, e | n + 1, .ns :: _, e | n + 1, .f _ _ _ :: _, e | n + 1, .nf :: _, e | n + 1, .ifc _ _ :: _, e | n + 1, .ni :: _, e | n + 1, .ag _ :: _, e | n + 1, .tu _ :: _, e | n + 1, .top :: _, e | n + 1, .y _ :: _, e => by simp [chkI] at e
theorem ZqB (L : List AB) (k n c : Nat) (kk : Option Nat) (e : chkI n (ownC L k) = true) (hn : n ≤ 1000) : getS intR (h ++ L) (.sl (h.length + k) 0 n c kk) = some (valI (ownC L k)) := by
 refine Rd.get ⟨?_, ?_⟩
 ·cases hc : ownC L k with
  | none => rw [hc] at e; cases n <;> simp [chkI] at e
  | some l =>
   rw [hc] at e
   obtain ⟨h1, h2⟩ := YaB n l e
   have hb : XAh (h ++ L) (h.length + k) = some l := by rw [Q4Q, hc]
   have hl : l.length = n := by rw [h1, Row.cells_len, h2]; exact Nat.mul_one n
   simp only [rdS, hb, Option.bind_some, Nat.zero_add, List.drop_zero, show intR.sz = 1 from rfl, Nat.mul_one, hl]
   split
   ·rename_i h0
    subst h0
    have : l = [] := List.eq_nil_of_length_eq_zero hl
    subst this
    simp [valI, Qj6]
   ·rw [if_pos (Nat.le_refl _), List.take_of_length_le (by omega), ← h1, h2]
 ·cases hc : ownC L k with
  | none => simp [valI]
  | some l =>
   rw [hc] at e
   obtain ⟨h1, h2⟩ := YaB n l e
   rw [h2]
   unfold maxLen
   omega
theorem Bt.drop {P : Program} {h : List AB} {v a : AV} (L : List AB) (hh : HOk h) (e : v = a) (hok : v.ok (fun i => decide (i < h.length)) = true) : Bt P h.length [v] (h ++ L) [a] h := by
 subst e
 have := Bt.sel (P := P) (h := h) (l := L) (l' := []) (fr := [v]) (fr' := [v]) [] hh (by simp) trivial ⟨.inr ⟨hok, Wk.ren (fun i hi => Xdk hi) hok⟩, trivial⟩
 rw [List.append_nil] at this
 exact this
theorem Bt.dropI {P : Program} {h : List AB} {x y : Int} {k : IntKind} (L : List AB) (hh : HOk h) (e : x = y) : Bt P h.length [.i k x] (h ++ L) [.i k y] h := Bt.drop L hh (by rw [e]) (by simp [AV.ok])
def FinO (P : Program) (p : Nat) (o : Option AV) (h : List AB) (a : AV) (h' : List AB) : Prop := ∃ v, o = some v ∧ Bt P p [v] h [a] h'
theorem KRW {P : Program} {p : Nat} {v a : AV} {h' : List AB} : FinO P p (some v) h a h' = Bt P p [v] h [a] h' := by simp [FinO]
theorem XOq {P : Program} {p n : Nat} {sz : Option Nat} {a : AV} {h' : List AB} : (∃ v, resV fr h [RC.cell n sz] = some v ∧ Bt P p [v] h [a] h') = FinO P p (ldV h sz (pl fr n)) h a h' := by
 have e : resV fr h [RC.cell n sz] = ldV h sz (pl fr n) := by
  simp only [resV, XvI, qhQ, zv6]
  cases ldV h sz (pl fr n) <;> rfl
 rw [e]
 rfl
theorem qb9 {P : Program} {p n m : Nat} {sz : Option Nat} {a : AV} {h' : List AB} : (∃ v, resV fr h [RC.cell n sz, RC.t m] = some v ∧ Bt P p [v] h [a] h') = FinO P p ((ldV h sz (pl fr n)).map fun x => .tu [x, pl fr m]) h a h' := by
 have e : resV fr h [RC.cell n sz, RC.t m] = (ldV h sz (pl fr n)).map fun x => .tu [x, pl fr m] := by
  simp only [resV, XvI, qhQ, zv6, Option.bind_some]
  cases ldV h sz (pl fr n) <;> rfl
 rw [e]
 rfl
def appW (H : List AB) (fl : Bool) (sz by_ : Nat) (s : AV) (m : Nat) (ys : List AV) : Option (AV × List AB) :=
 match s with
 | .ns => if m = 0 then some (.ns, H) else if m * by_ ≤ 140737488355328 ∧ m ≤ maxLen then some (.sl H.length 0 m m (some sz), H ++ [.blk fl true ys]) else none
 | .sl id off len cap k =>
  if m = 0 then some (.sl id off len cap k, H)
  else if len + m ≤ cap then (stB H id (off + len * sz) ys).map fun h' => (.sl id off (len + m) cap k, h')
  else match H[id]? with
   | some (.blk fl' mu xs) =>
    if fl' = fl ∧ off + len * sz ≤ xs.length ∧ (len + m) * by_ ≤ 140737488355328 ∧ len + m ≤ maxLen then
     if k = none then some (.sl H.length 0 (len + m) (len + m) (some sz), H ++ [.blk fl true ((xs.drop off).take (len * sz) ++ ys)])
     else if k = some sz ∧ sz ≠ 0 ∧ mu = true ∧ off + len * sz = xs.length then some (.sl H.length 0 (len + m) (len + m) (some sz), H.set id .dead ++ [.blk fl true (xs.drop off ++ ys)])
     else if k = some sz ∧ sz ≠ 0 ∧ mu = true then some (.sl H.length 0 (len + m) (len + m) (some sz), H.set id .dead ++ [.blk fl true ((xs.drop off).take (len * sz) ++ ys)])
     else none
    else none
   | _ => none
 | _ => none
theorem XIn (H : List AB) (fl : Bool) (sz by_ : Nat) (s x : AV) : appV H fl sz by_ s x = (srcV H sz x).bind fun my => if my.2.all (wrOk fl) = true then appW H fl sz by_ s my.1 my.2 else none := _root_.id rfl
def flB (fl : Bool) : List AB → Nat → Prop
 | [], _ => False
 | B :: _, 0 => ∃ m xs, B = .blk fl m xs
 | _ :: L, k + 1 => flB fl L k
theorem qZZ (fl m : Bool) (xs : List AV) (L : List AB) : flB fl (.blk fl m xs :: L) 0 = True := eq_true ⟨m, xs, rfl⟩
theorem qfO (fl : Bool) (B : AB) (L : List AB) (k : Nat) : flB fl (B :: L) (k + 1) = flB fl L k := _root_.id rfl
theorem zSl (fl : Bool) : ∀ (L : List AB) (k : Nat), flB fl L k → ∃ m xs, L[k]? = some (.blk fl m xs)
 | [], _, e => e.elim
 | B :: _, 0, ⟨m, xs, e⟩ => ⟨m, xs, by rw [e]; rfl⟩
 | _ :: L, k + 1, e => by simpa using zSl fl L k e
theorem z1l (L : List AB) (k : Nat) (fl : Bool) (sz by_ m : Nat) (ys : List AV) (hb : flB fl L k) : appW (h ++ L) fl sz by_ (.sl (h.length + k) 0 0 0 none) m ys = if m = 0 then some (.sl (h.length + k) 0 0 0 none, h ++ L) else if m * by_ ≤ 140737488355328 ∧ m ≤ maxLen then some (.sl (h.length + L.length) 0 m m (some sz), h ++ (L ++ [.blk fl true ys])) else none := by
 obtain ⟨mu, xs, hx⟩ := zSl fl L k hb
 unfold appW
 dsimp only
 split
 ·rfl
 ·rename_i hm
  rw [if_neg (by omega), Yn6, hx]
  simp only [true_and, Nat.zero_add, Nat.zero_mul, Nat.zero_le, List.take_zero, List.nil_append, if_true, List.length_append, List.append_assoc]
theorem QqO (L : List AB) (fl : Bool) (sz by_ m : Nat) (ys : List AV) : appW (h ++ L) fl sz by_ .ns m ys = if m = 0 then some (.ns, h ++ L) else if m * by_ ≤ 140737488355328 ∧ m ≤ maxLen then some (.sl (h.length + L.length) 0 m m (some sz), h ++ (L ++ [.blk fl true ys])) else none := by
 unfold appW
 simp only [List.length_append, List.append_assoc]
theorem Xh7 (l : List Int) : (intR.cells l).all (wrOk true) = true := by
 induction l with
 | nil => rfl
 | cons a l ih =>
  simp only [Row.cells, List.flatMap_cons, List.all_append] at ih ⊢
  rw [ih]
  rfl
theorem zyP (l : List (Int × Int)) : (dotR.cells l).all (wrOk true) = true := by
 induction l with
 | nil => rfl
 | cons a l ih =>
  simp only [Row.cells, List.flatMap_cons, List.all_append] at ih ⊢
  rw [ih]
  rfl
def apS (r : Row α) (id : Nat) (l : List α) : AV := if l.length = 0 then .ns else .sl id 0 l.length l.length (some r.sz)
theorem J2U (id : Nat) (l : List α) : Wk (rsl r id l) (apS r id l) := by
 unfold rsl apS
 split
 ·exact Wk.nil _ _
 ·exact Wk.refl _
theorem ZrT (q : Nat → Bool) (id : Nat) (l : List α) (hq : q id = true) : (apS r id l).ok q = true := by unfold apS; split <;> simp [AV.ok, hq]
theorem zQ9 (f : Nat → Nat) (id : Nat) (l : List α) : (apS r id l).ren f = apS r (f id) l := by unfold apS; split <;> simp [AV.ren]
theorem zoL (id : Nat) (l : List α) : (apS r id l).isSl = true := by unfold apS; split <;> rfl
theorem Qy9 (id : Nat) (l : List α) : lenV (apS r id l) = some (l.length : Int) := by
 unfold apS
 split
 ·rename_i e; rw [e]; rfl
 ·rfl
theorem ZLM (id : Nat) : apS r id [] = .ns := _root_.id rfl
theorem J0z (id : Nat) {l : List α} (h0 : l.length ≠ 0) : apS r id l = rsl r id l := by
 unfold apS rsl
 rw [if_neg h0, if_neg h0]
theorem ZD1 (id : Nat) (l : List α) : (apS r id l).isStr = false := zJL (zoL id l)
theorem JCL (id : Nat) (l : List α) : (apS r id l).one = true := Qwk (zoL id l)
theorem Ye5 (id : Nat) (l : List α) : (apS r id l).known = true := ZVn (zoL id l)
theorem Qjr (id : Nat) (l : List α) : (apS r id l).cells = [apS r id l] := YCL (zoL id l)
theorem XlZ (id : Nat) (l : List α) (x : α) : apS r id (l ++ [x]) = .sl id 0 (l.length + 1) (l.length + 1) (some r.sz) := by
 unfold apS
 rw [if_neg (by simp), List.length_append]
 rfl
theorem zbm (m : Bool) (l : List α) (x : α) : resB r m (l ++ [x]) = .blk true m (r.cells l ++ r.f x) := by
 unfold resB
 rw [if_neg (by simp)]
 simp [Row.cells]
theorem ZIs (d : Int × Int) : (d.1, d.2) = d := _root_.id rfl
theorem J8D (id : Nat) (x : α) : apS r id [x] = .sl id 0 1 1 (some r.sz) := _root_.id rfl
theorem KvR (m : Bool) (x : α) : resB r m [x] = .blk true m (r.f x) := by
 unfold resB
 rw [if_neg (by simp)]
 simp [Row.cells]
theorem Yqn {id : Nat} {l l' : List α} {m m' : Bool} (h1 : apS r id l = apS r id l') (h2 : resB r m l = resB r m' l') : l = l' := by
 have hl : l.length = l'.length := by
  have := congrArg lenV h1
  have g : ∀ l : List α, lenV (apS r id l) = some (l.length : Int) := fun l => by
   unfold apS
   split
   ·rename_i e; rw [e]; rfl
   ·rfl
  rw [g, g] at this
  exact Int.ofNat_inj.1 (Option.some.inj this)
 by_cases h0 : l.length = 0
 ·have a1 : l = [] := List.length_eq_zero_iff.1 h0
  have a2 : l' = [] := List.length_eq_zero_iff.1 (by omega)
  rw [a1, a2]
 ·rw [XCu m h0, XCu m' (hl ▸ h0)] at h2
  simp only [AB.blk.injEq, true_and] at h2
  exact r.cells_inj l l' hl h2.2
def Ycl : List AB → Nat → List AB
 | [], _ => []
 | _ :: L, 0 => .dead :: L
 | B :: L, k + 1 => B :: Ycl L k
theorem ZIH : ∀ (L : List AB) (k : Nat), Ycl L k = L.set k .dead
 | [], k => by simp [Ycl]
 | _ :: L, 0 => rfl
 | B :: L, k + 1 => by simp [Ycl, ZIH L k]
theorem Kv3 (B : AB) (L : List AB) : Ycl (B :: L) 0 = .dead :: L := _root_.id rfl
theorem JsW (B : AB) (L : List AB) (k : Nat) : Ycl (B :: L) (k + 1) = B :: Ycl L k := _root_.id rfl
def ownM (r : Row α) (l : List α) : List AB → Nat → Prop
 | [], _ => False
 | B :: _, 0 => B = resB r true l
 | _ :: L, k + 1 => ownM r l L k
theorem Xb7 (l : List α) (L : List AB) : ownM r l (resB r true l :: L) 0 = True := eq_true rfl
theorem zor (l : List α) (B : AB) (L : List AB) (k : Nat) : ownM r l (B :: L) (k + 1) = ownM r l L k := _root_.id rfl
theorem ZLY (l : List α) : ∀ (L : List AB) (k : Nat), ownM r l L k → L[k]? = some (resB r true l)
 | [], _, e => e.elim
 | B :: _, 0, e => by rw [show B = resB r true l from e]; rfl
 | _ :: L, k + 1, e => by simpa using ZLY l L k e
theorem J7h {sz : Nat} (hz : r.sz = sz) (L : List AB) (k : Nat) (l : List α) (by_ m : Nat) (ys : List AV) (hb : ownM r l L k) (hm : m ≠ 0) (h1 : (l.length + m) * by_ ≤ 140737488355328) (h2 : l.length + m ≤ maxLen) :
  appW (h ++ L) true sz by_ (apS r (h.length + k) l) m ys = some (.sl (h.length + L.length) 0 (l.length + m) (l.length + m) (some sz), h ++ (Ycl L k ++ [.blk true true (r.cells l ++ ys)])) := by
 subst hz
 have hx := ZLY l L k hb
 have hk : k < L.length := (List.getElem?_eq_some_iff.1 hx).1
 unfold apS
 by_cases h0 : l.length = 0
 ·rw [if_pos h0]
  have : l = [] := List.eq_nil_of_length_eq_zero h0
  subst this
  simp only [List.length_nil, Nat.zero_add] at h1 h2
  rw [QqO, if_neg hm, if_pos ⟨h1, h2⟩]
  rw [Yro true rfl] at hx
  have hs : L.set k .dead = L := List.ext_getElem? fun i => by
   rw [List.getElem?_set]
   by_cases e : k = i
   ·subst e
    rw [if_pos rfl, if_pos hk, hx]
   ·rw [if_neg e]
  simp only [List.length_nil, Nat.zero_add, Qj6, List.nil_append, ZIH, hs]
 ·rw [if_neg h0]
  rw [XCu true h0] at hx
  unfold appW
  dsimp only
  rw [if_neg hm, if_neg (by omega), Yn6, hx]
  simp only [true_and, Nat.zero_add, r.cells_len, Nat.le_refl, h1, h2, if_true, reduceCtorEq, if_false, List.drop_zero, List.length_append]
  rw [if_pos (by have := r.pos; exact ⟨by omega, trivial⟩), ZIH, List.set_append_right _ _ (by omega), Nat.add_sub_cancel_left, List.append_assoc]
end
end Go.Proofs.YtebcngelgdpbjaaGreat
end
section
namespace Go.Proofs.YtebcngelgdpbjaaGreat
open Go.RowKit
def mksV (h : List AB) (fl : Bool) (z : List AV) (by_ : Nat) (le ca : AV) : Option (AV × List AB) :=
 match le, ca with
 | .i _ l, .i _ c => if 0 ≤ l ∧ l ≤ c ∧ (by_ : Int) * c ≤ 2 ^ 47 ∧ c ≤ maxLen then newB h fl ((List.replicate c.toNat z).flatten) (fun n => .sl n 0 l.toNat c.toNat none) else none
 | _, _ => none
theorem Xlq {h : List AB} (L : List AB) (k off n cap sz : Nat) (kk : Option Nat) : srcV (h ++ L) sz (.sl (h.length + k) off n cap kk) = if n = 0 then some (0, []) else (ownC L k).bind fun xs => if off + n * sz ≤ xs.length then some (n, (xs.drop off).take (n * sz)) else none := by
 simp only [srcV, Q4Q]
theorem zpT {h : List AB} (L : List AB) (k : Nat) (B : AB) : (h ++ L).set (h.length + k) B = h ++ L.set k B := by
 rw [List.set_append_right _ _ (by omega), Nat.add_sub_cancel_left]
theorem JoA {α : Type} (a b : α) (l : List α) : (a :: l).set 0 b = b :: l := _root_.id rfl
theorem Xt0 {α : Type} (a b : α) (l : List α) (n : Nat) : (a :: l).set (n + 1) b = a :: l.set n b := _root_.id rfl
theorem X94 {h : List AB} {i : Nat} {xs : List AV} (e : XAh h i = some xs) (L : List AB) : XAh (h ++ L) i = some xs := by
 unfold XAh at e ⊢
 split at e
 ·rename_i h2
  rw [List.getElem?_append_left (List.getElem?_eq_some_iff.1 h2).1, h2]
  exact e
 ·cases e
theorem JwL {h : List AB} {i : Nat} {xs : List AV} (e : XAh h i = some xs) : i < h.length := by
 unfold XAh at e
 split at e
 ·rename_i h2
  exact (List.getElem?_eq_some_iff.1 h2).1
 ·cases e
theorem qee {h : List AB} {i : Nat} {xs : List AV} (e : XAh h i = some xs) : (∀ L, XAh (h ++ L) i = some xs) ∧ (∀ L o, ldV (h ++ L) none (.p i o) = xs[o]?) ∧ (∀ L o n, ldV (h ++ L) (some n) (.p i o) = if o + n ≤ xs.length then some (.ag ((xs.drop o).take n)) else none) ∧ (∀ c lo hi anc past, qOk (h.length + c) lo hi anc past i = true) ∧ (∀ c, (i < h.length + c) = True) ∧ (i < h.length) = True := by
 have hl := JwL e
 refine ⟨X94 e, fun L o => ?_, fun L o n => ?_, fun c lo hi anc past => X5H (by omega), fun c => eq_true (by omega), eq_true hl⟩
 ·simp only [ldV, X94 e, Option.bind_some]
 ·simp only [ldV, X94 e, Option.bind_some]
theorem qLE {α : Type} (r : Row α) (h : List AB) : Rd r h .ns [] := ⟨rfl, Nat.zero_le _⟩
theorem zlS {α : Type} (r : Row α) (h : List AB) : getS r h .ns = some [] := (qLE r h).get
theorem QAB (sz id off n c : Nat) (k : Option Nat) (kk : IntKind) (m : Int) : iadV sz (.sl id off n c k) (.i kk m) = if 0 ≤ m ∧ m < (n : Int) then some (.p id (off + m.toNat * sz)) else none := _root_.id rfl
theorem Yba {T : Env} {fr : List AV} {h : List AB} (fl : Bool) (z : List AV) (by_ : Nat) (le ca : Opd) : opR T (.mks fl z by_ le ca) fr h = mksV h fl z by_ (le.ev fr) (ca.ev fr) := by
 show (match le.ev fr, ca.ev fr with
  | .i _ l, .i _ c => if 0 ≤ l ∧ l ≤ c ∧ (by_ : Int) * c ≤ 2 ^ 47 ∧ c ≤ maxLen then newB h fl ((List.replicate c.toNat z).flatten) (fun n => .sl n 0 l.toNat c.toNat none) else none
  | _, _ => none) = _
 rfl
theorem XN5 (h : List AB) (fl : Bool) (z : List AV) (by_ : Nat) (k k' : IntKind) (l c : Int) : mksV h fl z by_ (.i k l) (.i k' c) = if 0 ≤ l ∧ l ≤ c ∧ (by_ : Int) * c ≤ 2 ^ 47 ∧ c ≤ maxLen then newB h fl ((List.replicate c.toNat z).flatten) (fun n => .sl n 0 l.toNat c.toNat none) else none := _root_.id rfl
def bxS (h : List AB) (i : Nat) : Option AV :=
 match h[i]? with
 | some (.blk false _ [v]) => some v
 | _ => none
def bxL : List AB → Nat → Option AV
 | [], _ => none
 | .blk false _ [v] :: _, 0 => some v
 | _ :: _, 0 => none
 | _ :: L, k + 1 => bxL L k
theorem ZdV : ∀ (L : List AB) (k : Nat), bxS L k = bxL L k
 | [], k => by simp [bxS, bxL]
 | B :: L, 0 => by
  cases B with
  | blk fl m xs => cases fl <;> (cases xs with | nil => simp [bxS, bxL] | cons a l => cases l <;> simp [bxS, bxL])
  | _ => simp [bxS, bxL]
 | B :: L, k + 1 => by
  have := ZdV L k
  have e : bxL (B :: L) (k + 1) = bxL L k := by
   cases B with
   | blk fl m xs => cases fl <;> (cases xs with | nil => rfl | cons a l => cases l <;> rfl)
   | _ => rfl
  rw [e, ← this]
  unfold bxS
  rw [List.getElem?_cons_succ]
theorem Ybo {h : List AB} (L : List AB) (k : Nat) : bxS (h ++ L) (h.length + k) = bxL L k := by
 rw [← ZdV]
 unfold bxS
 rw [Yn6]
theorem JY6 (m : Bool) (v : AV) (L : List AB) : bxL (.blk false m [v] :: L) 0 = some v := _root_.id rfl
theorem KUH (B : AB) (L : List AB) (k : Nat) : bxL (B :: L) (k + 1) = bxL L k := by
 cases B with
 | blk fl m xs => cases fl <;> (cases xs with | nil => rfl | cons a l => cases l <;> rfl)
 | _ => rfl
theorem Kws (q : Nat → Bool) (st : LoopState) (pd : XE) (fr : List AV) (ps : List Nat) (a b : CC) : (AB.lp st pd fr ps a b).ok q = okL q fr := _root_.id rfl
section
variable {c : Ctx} {k : List IT} {fr : List AV} {h : List AB}
theorem JwE {n : Nat} {q : Opd} {ps : List Nat} {a b : CC} {g : Nat} {fst cap : List AV} {h1 : List AB} {X : AV → List AB → Prop} (hr : c.rb = false) (hn : h.length = n) (hq : q.ev fr = .f (.func g) fst cap) (hh : h ++ [AB.lp .ready .n fr ps a b] = h1)
  (hf : FnAtS c.P g (fst ++ [AV.y n] ++ cap) h1 X) (hX : ∀ v h2, X v h2 → ∃ st fr1 ps1 a1 b1, h2[n]? = some (.lp st .n fr1 ps1 a1 b1) ∧ st ≠ .busy ∧ W c k fr (h2.set n .dead)) : W c (.code (.rf q ps a b) :: k) fr h := by
 subst hn
 subst hh
 simp only [W, Lv_n, IT.wp, wpC]
 refine ⟨hr, g, fst, cap, X, hq, hf, fun v h2 e => ?_⟩
 obtain ⟨st, fr1, ps1, a1, b1, hl, hst, hw⟩ := hX v h2 e
 exact ⟨st, .n, fr1, ps1, a1, b1, hl, hst, hw⟩
theorem RdAt'.run {P : Program} (hm : P.follows .mixedOrders = true) {T : Env} (hT : T.Ok P) {id : Nat} {args : List AV} {H : List AB} {st : LoopState} {pd : XE} {fr0 : List AV} {ps : List Nat} {asg bd : CC} {a : AV} {H' : List AB} (hlp : H[id]? = some (.lp st pd fr0 ps asg bd)) (hl : ps.length = args.length)
  (w : W ⟨P, T, true, H.length, fun x fr h1 => x = .n ∧ ∃ pd1 fr01 ps1 a1 b1, h1[id]? = some (.lp .ready pd1 fr01 ps1 a1 b1) ∧
   W ⟨P, T, true, H.length, fun x _ h2 => ∃ st2 pd2 fr02 ps2 a2 b2, h2[id]? = some (.lp st2 pd2 fr02 ps2 a2 b2) ∧ (zLd id x fr02 ps2 a2 b2 h2).1 = a ∧ (zLd id x fr02 ps2 a2 b2 h2).2 = H'⟩ [.code bd] fr (h1.set id (.lp .busy pd1 fr01 ps1 a1 b1))⟩ [.code asg] (qTQ ps args fr0) H) : RdAt' P id args H a H' := by
 have conv : ∀ {K : XE → List AV → List AB → Prop} {cd : CC} {fr : List AV} {h : List AB}, W ⟨P, T, true, H.length, K⟩ [.code cd] fr h → wpC P (smT T) true H.length cd K fr h := fun {K cd fr h} e => by
  exact e
 exact RdAt'.of (Y7x hm hT) hlp hl (Q4W (fun hk e => K0z _ hk e) _ (fun x fr h1 ⟨e, pd1, fr01, ps1, a1, b1, h2, h3⟩ => ⟨e, pd1, fr01, ps1, a1, b1, h2, conv h3⟩) (conv w))
end
def JAW : List Pt → List Pt
 | [] => []
 | p :: l => ⟨p.k, p.lo, p.hi, [], []⟩ :: JAW l
theorem XyI : JAW [] = [] := _root_.id rfl
theorem XnF (k lo hi : Nat) (rs ws : List Nat) (l : List Pt) : JAW (⟨k, lo, hi, rs, ws⟩ :: l) = ⟨k, lo, hi, [], []⟩ :: JAW l := _root_.id rfl
theorem K36 (len0 lo hi anc : Nat) (past : List Pt) (id : Nat) : qOk len0 lo hi anc (JAW past) id = qOk len0 lo hi anc past id := by
 unfold qOk
 congr 1
 induction past with
 | nil => rfl
 | cons p l ih => simp only [JAW, List.any_cons, ih]
theorem Qoe (len0 anc n : Nat) (past : List Pt) : seen len0 anc (JAW past) n = seen len0 anc past n := by
 unfold seen
 congr 1
 funext id
 exact K36 len0 0 0 anc past id
theorem quK {c : Ctx} {k : List IT} {fr : List AV} {h : List AB} {len0 n anc : Nat} {past : List Pt} {d : Option Nat} {l : List DOp} (ws : List Nat) (vs : List AV) (v : AV) (G : List AB) : W c (.dmk ws vs (some (v, G)) len0 n anc past d l :: k) fr h = (okL (fun i => decide (i < h.length)) vs = true ∧ HOk h ∧ past.all (QPd len0 anc past ws) = true ∧ (ws.all fun id => decide (id < h.length)) = true ∧ h.length ≤ G.length ∧ v.ok (qOk len0 h.length G.length anc past) = true ∧
      (ws.all fun id => (G.getD id .dead).ok (qOk len0 h.length G.length anc past)) = true ∧ ((G.drop h.length).all fun B => B.ok (qOk len0 h.length G.length anc past)) = true ∧
      W c (.drw len0 (n + 1) (⟨n, h.length, G.length, seen len0 anc (JAW past) h.length, ws⟩ :: past) l :: k) (put fr d v) (Xxu ws G 0 h)) := by
  rw [Qoe]
  exact K9E ws vs v G
end Go.Proofs.YtebcngelgdpbjaaGreat
end
section
namespace Go.Proofs.YtebcngelgdpbjaaGreat
open Go.RowKit
section
variable {T : Env} {fr : List AV} {h : List AB} {p : Nat}
theorem ZtH {α : Type} {r : Row α} (hp : h.length = p) {sz : Nat} (hz : r.sz = sz) (L : List AB) (k : Nat) (l : List α) (by_ m : Nat) (ys : List AV) (hb : ownM r l L k) (hm : m ≠ 0) (h1 : (l.length + m) * by_ ≤ 140737488355328) (h2 : l.length + m ≤ maxLen) :
  appW (h ++ L) true sz by_ (apS r (p + k) l) m ys = some (.sl (p + L.length) 0 (l.length + m) (l.length + m) (some sz), h ++ (Ycl L k ++ [.blk true true (r.cells l ++ ys)])) := by subst hp; exact J7h hz L k l by_ m ys hb hm h1 h2
theorem KDh {α : Type} {r : Row α} (hp : h.length = p) {sz : Nat} (hz : r.sz = sz) (L : List AB) (k : Nat) (l : List α) (by_ m : Nat) (ys : List AV) (h0 : l.length ≠ 0) (hb : ownM r l L k) (hm : m ≠ 0) (h1 : (l.length + m) * by_ ≤ 140737488355328) (h2 : l.length + m ≤ maxLen) :
  appW (h ++ L) true sz by_ (rsl r (p + k) l) m ys = some (.sl (p + L.length) 0 (l.length + m) (l.length + m) (some sz), h ++ (Ycl L k ++ [.blk true true (r.cells l ++ ys)])) := by rw [← J0z _ h0]; exact ZtH hp hz L k l by_ m ys hb hm h1 h2
end
end Go.Proofs.YtebcngelgdpbjaaGreat
end
section
namespace Go.Proofs.YtebcngelgdpbjaaGreat
open Go.RowKit
def AV.val : AV → Value
 | .b t => .bool t
 | .i k n => .int k n
 | .s l => .string ⟨l.toArray⟩
 | _ => undef
def AV.fl : AV → Bool
 | .b _ | .i _ _ | .s _ => true
 | _ => false
theorem QSr (ρ : Mp) {a : AV} (h : a.fl = true) : VR ρ a a.val := by
 cases a <;> first | (cases h; done) | skip
 ·exact .b _
 ·exact .i _ _
 ·exact .s _ _ rfl
theorem Xjg {ρ : Mp} {a : AV} {v : Value} (h : a.fl = true) (e : VR ρ a v) : v = a.val := by
 cases a <;> first | (cases h; done) | skip
 ·cases e; rfl
 ·cases e; rfl
 ·cases e with
  | s l bs hb => subst hb; rfl
theorem qJ6 (ρ : Mp) : ∀ (l : List AV), (∀ a ∈ l, a.fl = true) → VL ρ l (l.map AV.val).toArray
 | [], _ => VL.nil ρ
 | a :: l, h => VL.cons (QSr ρ (h a (.head _))) (qJ6 ρ l fun b hb => h b (.tail _ hb))
theorem Y5G {ρ : Mp} {l : List AV} {cs : Array Value} (h : VL ρ l cs) : VR ρ (.ag l) (.agg cs) := .ag l cs h.1 h.2
structure In (K : Code → CC → Prop) (ρ : Mp) (h : List AB) (w : World) : Prop where
 rel : Rel K ρ h w
 frz : ∀ B ∈ h, B.mut = false
variable {K : Code → CC → Prop} {ρ : Mp} {h : List AB} {w : World}
theorem In.nil (w : World) : In K [] [] w := ⟨⟨rfl, fun i B b o n h => by simp at h, fun i j bi oi bj oj Bi Bj _ h => by simp at h, GL.nil (JBx w)⟩, fun B h => by simp at h⟩
theorem JtS {P : Program} {g : Nat} {az : List AV} {vals : Array Value} {h' : List AB} (i : In (KC P) ρ h w) (hv : VL ρ az vals) (e : FnC P g az h (.b true) h') : Calls P g vals w (fun e w' => e = .returned (.bool true) ∧ Kept NoS w w') := by
 refine (e.2 ρ w vals i.rel hv).mono ?_
 rintro e w' ⟨v', ρ', rfl, hva, _, heff⟩
 cases hva
 refine ⟨rfl, heff.os, heff.tape, heff.output.1, heff.size, fun b hb _ => heff.keep b hb fun ⟨j, B, o, h1, h2, _⟩ => ?_⟩
 rw [i.frz B (List.mem_of_getElem? h1)] at h2
 cases h2
theorem JNn (x : Int × Int) : ∀ a ∈ dotR.f x, a.fl = true := fun a ha => by simp [KdC] at ha; rcases ha with rfl | rfl <;> rfl
end Go.Proofs.YtebcngelgdpbjaaGreat
end
