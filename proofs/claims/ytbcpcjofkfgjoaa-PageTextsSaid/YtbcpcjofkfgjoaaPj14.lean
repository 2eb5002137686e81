/- Part 14 of what the laws' proofs rest on. No condition. -/
import Derived.Test.YtbcpcjofkfgjoaaProg
import Derived.Test.YtbcpcjofkfgjoaaPj13
set_option linter.all false
section
namespace Go.Proofs.Ytbcpcjofkfgjoaa
open Go.RowKit
section
variable {T : Env} {fr : List AV} {h : List AB} {α : Type} {r : Row α}
def rsl (r : Row α) (id : Nat) (l : List α) : AV := if l.length = 0 then .sl id 0 0 0 (some 0) else .sl id 0 l.length l.length (some r.sz)
def resB (r : Row α) (m : Bool) (l : List α) : AB := if l.length = 0 then .dead else .blk true m (r.cells l)
theorem zUg (id : Nat) (l : List α) : (rsl r id l).isSl = true := by unfold rsl; split <;> rfl
theorem Y3F (id : Nat) (l : List α) : (rsl r id l).isStr = false := YTY (zUg id l)
theorem ZQB (id : Nat) (l : List α) : (rsl r id l).one = true := JoS (zUg id l)
theorem JOp (id : Nat) (l : List α) : (rsl r id l).known = true := QU8 (zUg id l)
theorem QtM (id : Nat) (l : List α) : (rsl r id l).cells = [rsl r id l] := qbB (zUg id l)
theorem qh9 (id : Nat) (l : List α) : lenV (rsl r id l) = some (l.length : Int) := by
 unfold rsl
 split
 ·rename_i e; rw [e]; rfl
 ·rfl
theorem Zh4 (q : Nat → Bool) (id : Nat) (l : List α) (hq : q id = true) : (rsl r id l).ok q = true := by unfold rsl; split <;> simp [AV.ok, hq]
theorem Xx5 (f : Nat → Nat) (id : Nat) (l : List α) : (rsl r id l).ren f = rsl r (f id) l := by unfold rsl; split <;> simp [AV.ren]
theorem QVW (id : Nat) (l : List α) : idOf (rsl r id l) = [id] := by unfold rsl; split <;> rfl
theorem Krk : lenV .ns = some 0 := _root_.id rfl
theorem KM5 (m : Bool) (l : List α) : (resB r m l).freeze = resB r false l := by unfold resB; split <;> rfl
theorem zdl (q : Nat → Bool) (m : Bool) (l : List α) : (resB r m l).ok q = true := by unfold resB; split <;> rfl
def ownR (r : Row α) (l : List α) : List AB → Nat → Prop
 | [], _ => False
 | B :: _, 0 => ∃ m, B = resB r m l
 | _ :: L, k + 1 => ownR r l L k
theorem KxY (m : Bool) (l : List α) (L : List AB) : ownR r l (resB r m l :: L) 0 = True := eq_true ⟨m, rfl⟩
theorem Xct (l : List α) (B : AB) (L : List AB) (k : Nat) : ownR r l (B :: L) (k + 1) = ownR r l L k := _root_.id rfl
theorem zeu (l : List α) : ∀ (L : List AB) (k : Nat), ownR r l L k → ∃ m, L[k]? = some (resB r m l)
 | [], _, e => e.elim
 | B :: _, 0, ⟨m, e⟩ => ⟨m, by rw [e]; rfl⟩
 | _ :: L, k + 1, e => by simpa using zeu l L k e
theorem XaA {H : List AB} {id : Nat} {m : Bool} {l : List α} (e : H[id]? = some (resB r m l)) : rdS H r.sz (rsl r id l) = some (l.length, r.cells l) := by
 unfold rsl
 by_cases h0 : l.length = 0
 ·rw [if_pos h0]
  have : l = [] := List.eq_nil_of_length_eq_zero h0
  subst this
  simp [rdS, Row.cells]
 ·rw [if_neg h0]
  simp only [rdS]
  rw [if_neg h0]
  unfold resB at e
  rw [if_neg h0] at e
  simp only [z16, e, Option.bind_some, Nat.zero_add, List.drop_zero, r.cells_len]
  rw [if_pos (Nat.le_refl _), List.take_of_length_le (by rw [r.cells_len]; exact Nat.le_refl _)]
theorem zHc {H : List AB} {id : Nat} {m : Bool} {l : List α} (e : H[id]? = some (resB r m l)) (hl : l.length ≤ maxLen) : Rd r H (rsl r id l) l := ⟨XaA e, hl⟩
theorem Qsy (L : List AB) (k : Nat) : (h ++ L)[h.length + k]? = L[k]? := by rw [List.getElem?_append_right (by omega), Nat.add_sub_cancel_left]
theorem JAN (L : List AB) (k : Nat) (l : List α) (e : ownR r l L k) (hl : l.length ≤ maxLen) : getS r (h ++ L) (rsl r (h.length + k) l) = some l := by
 obtain ⟨m, hm⟩ := zeu l L k e
 exact (zHc (by rw [Qsy]; exact hm) hl).get
theorem K5z (o sz n j : Nat) (id : Nat) (l : List α) : fadV o (elP sz (rsl r id l) n j) = some (elP sz (rsl r id l) n (j + o)) := by
 unfold rsl
 split <;> simp [elP, fadV, Nat.add_assoc]
theorem JLS (q : Nat → Bool) (id sz n j : Nat) (l : List α) (hq : q id = true) : (elP sz (rsl r id l) n j).ok q = true := by unfold rsl; split <;> simp [elP, AV.ok, hq]
theorem Xo5 (n : Bool) (x y : Opd) : opR T (.eqn n x y) fr h = (YBq (x.ev fr) (y.ev fr)).map fun r => (.b (r ^^ n), h) := _root_.id rfl
theorem X5d : YBq .ns .ns = some true := _root_.id rfl
theorem ZGu : YBq .se .ns = some false := _root_.id rfl
theorem YVZ : AV.ns.isStr = false := _root_.id rfl
theorem znF : AV.se.isStr = false := _root_.id rfl
theorem QuG (a b c d : Nat) (k : Option Nat) : (AV.sl a b c d k).isStr = false := _root_.id rfl
theorem Ya4 (q : Nat → Bool) (f : Nat → Nat) (m : Bool) (l : List α) : BWk q f (resB r m l) (resB r m l) = True := by
 unfold resB
 split
 ·exact eq_true trivial
 ·exact eq_true ⟨fun z => z, rfl⟩
theorem Jn7 (q : Nat → Bool) (f : Nat → Nat) (m' m : Bool) (xs' xs : List AV) : BWk q f (.blk true m' xs') (.blk true m xs) = ((m' = true → m = true) ∧ xs' = xs) := _root_.id rfl
theorem zE7 (q : Nat → Bool) (f : Nat → Nat) (m' m : Bool) (xs' xs : List AV) : BWk q f (.blk false m' xs') (.blk false m xs) = ((m' = true → m = true) ∧ okL q xs' = true ∧ WkL (renL f xs') xs) := _root_.id rfl
theorem zD3 (q : Nat → Bool) (f : Nat → Nat) (s' s : ByteArray) (p' p : Nat) : BWk q f (.iter s' p') (.iter s p) = (s' = s ∧ p' = p) := _root_.id rfl
theorem YPv (q : Nat → Bool) (f : Nat → Nat) (B : AB) : BWk q f .dead B = True := by cases B <;> rfl
theorem zaz (q : Nat → Bool) (f : Nat → Nat) (st' st : LoopState) (pd' pd : XE) (fr' fr : List AV) (ps' ps : List Nat) (a' a b' b : CC) : BWk q f (.lp st' pd' fr' ps' a' b') (.lp st pd fr ps a b) = ((st' = st ∧ pd' = pd ∧ ps' = ps ∧ a' = a ∧ b' = b) ∧ okL q fr' = true ∧ WkL (renL f fr') fr) := _root_.id rfl
theorem qoI (q : Nat → Bool) (id : Nat) (l : List α) (hq : q id = true) : (rsl r id l).ok q = True := eq_true (Zh4 q id l hq)
theorem KrY (p k : Nat) (sel : List Nat) : selN p sel (p + k) = p + sel.getD k 0 := ZfA k
theorem J0E (p : Nat) (sel : List Nat) : selN p sel p = p + sel.getD 0 0 := ZfA (p := p) 0
theorem nd_0 (a : Nat) (l : List Nat) : (a :: l).getD 0 0 = a := _root_.id rfl
theorem nd_s (a : Nat) (l : List Nat) (k : Nat) : (a :: l).getD (k + 1) 0 = l.getD k 0 := by simp
theorem K9N : intR.sz = 1 := _root_.id rfl
theorem YPr : dotR.sz = 2 := _root_.id rfl
theorem Y8E : r.cells [] = [] := _root_.id rfl
theorem Kbh (k : IntKind) (n : Int) : (AV.i k n).known = true := _root_.id rfl
theorem JpL (x : Bool) : (AV.b x).known = true := _root_.id rfl
theorem XCV (x : List UInt8) : (AV.s x).known = true := _root_.id rfl
theorem qM9 (a b : Nat) : (AV.p a b).known = true := _root_.id rfl
theorem Z80 : AV.ns.known = true := _root_.id rfl
theorem Xur (a b c d : Nat) (k : Option Nat) : (AV.sl a b c d k).known = true := _root_.id rfl
theorem qsz (f : Fn) (a b : List AV) : (AV.f f a b).known = true := _root_.id rfl
theorem JH1 (l : List AV) : (AV.ag l).known = true := _root_.id rfl
def chkI : Nat → Option (List AV) → Bool
 | 0, some [] => true
 | n + 1, some (.i .i64 _ :: l) => chkI n (some l)
 | _, _ => false
def valI : Option (List AV) → List Int
 | some (.i _ a :: l) => a :: valI (some l)
 | _ => []
theorem zGP : chkI 0 (some []) = true := by simp [chkI]
theorem YxJ (n : Nat) (a : Int) (l : List AV) : chkI (n + 1) (some (.i .i64 a :: l)) = chkI n (some l) := by simp [chkI]
theorem qYU : valI (some []) = [] := by simp [valI]
theorem zjY (k : IntKind) (a : Int) (l : List AV) : valI (some (.i k a :: l)) = a :: valI (some l) := by simp [valI]
theorem Zcn : ∀ (n : Nat) (l : List AV), chkI n (some l) = true → l = intR.cells (valI (some l)) ∧ (valI (some l)).length = n
 | 0, [], _ => by simp [valI, Y8E]
 | 0, _ :: _, e => by simp [chkI] at e
 | n + 1, [], e => by simp [chkI] at e
 | n + 1, .i .i64 a :: l, e => by
  rw [YxJ] at e
  obtain ⟨h1, h2⟩ := Zcn n l e
  rw [zjY]
  refine ⟨?_, by simp [h2]⟩
  simp only [Row.cells, List.flatMap_cons, Z4U, List.cons_append, List.nil_append]
  congr 1
 | n + 1, .i .u8 _ :: _, e | n + 1, .i .u16 _ :: _, e | n + 1, .i .u32 _ :: _, e | n + 1, .i .u64 _ :: _, e | n + 1, .i .i8 _ :: _, e | n + 1, .i .i16 _ :: _, e | n + 1, .i .i32 _ :: _, e => by simp [chkI] at e
 | n + 1, .b _ :: _, e | n + 1, .s _ :: _, e | n + 1, .p _ _ :: _, e | n + 1, .np :: _, e | n + 1, .sl _ _ _ _ _ :: _, e | n + 1, .se :: _, e | n + 1, .ns :: _, e | n + 1, .f _ _ _ :: _, e | n + 1, .nf :: _, e | n + 1, .ifc _ _ :: _, e | n + 1, .ni :: _, e | n + 1, .ag _ :: _, e | n + 1, .tu _ :: _, e | n + 1, .top :: _, e | n + 1, .y _ :: _, e => by simp [chkI] at e
theorem z1R (L : List AB) (k n c : Nat) (kk : Option Nat) (e : chkI n (ownC L k) = true) (hn : n ≤ 1000) : getS intR (h ++ L) (.sl (h.length + k) 0 n c kk) = some (valI (ownC L k)) := by
 refine Rd.get ⟨?_, ?_⟩
 ·cases hc : ownC L k with
  | none => rw [hc] at e; cases n <;> simp [chkI] at e
  | some l =>
   rw [hc] at e
   obtain ⟨h1, h2⟩ := Zcn n l e
   have hb : z16 (h ++ L) (h.length + k) = some l := by rw [Yq0, hc]
   have hl : l.length = n := by rw [h1, Row.cells_len, h2]; exact Nat.mul_one n
   simp only [rdS, hb, Option.bind_some, Nat.zero_add, List.drop_zero, show intR.sz = 1 from rfl, Nat.mul_one, hl]
   split
   ·rename_i h0
    subst h0
    have : l = [] := List.eq_nil_of_length_eq_zero hl
    subst this
    simp [valI, Y8E]
   ·rw [if_pos (Nat.le_refl _), List.take_of_length_le (by omega), ← h1, h2]
 ·cases hc : ownC L k with
  | none => simp [valI]
  | some l =>
   rw [hc] at e
   obtain ⟨h1, h2⟩ := Zcn n l e
   rw [h2]
   unfold maxLen
   omega
theorem Bt.drop {P : Program} {h : List AB} {v a : AV} (L : List AB) (hh : HOk h) (e : v = a) (hok : v.ok (fun i => decide (i < h.length)) = true) : Bt P h.length [v] (h ++ L) [a] h := by
 subst e
 have := Bt.sel (P := P) (h := h) (l := L) (l' := []) (fr := [v]) (fr' := [v]) [] hh (by simp) trivial ⟨.inr ⟨hok, Wk.ren (fun i hi => QgG hi) hok⟩, trivial⟩
 rw [List.append_nil] at this
 exact this
theorem Bt.dropB {P : Program} {h : List AB} {x y : Bool} (L : List AB) (hh : HOk h) (e : x = y) : Bt P h.length [.b x] (h ++ L) [.b y] h := Bt.drop L hh (by rw [e]) (by simp [AV.ok])
def FinO (P : Program) (p : Nat) (o : Option AV) (h : List AB) (a : AV) (h' : List AB) : Prop := ∃ v, o = some v ∧ Bt P p [v] h [a] h'
theorem qlT {P : Program} {p : Nat} {v a : AV} {h' : List AB} : FinO P p (some v) h a h' = Bt P p [v] h [a] h' := by simp [FinO]
theorem ZzY {P : Program} {p n : Nat} {sz : Option Nat} {a : AV} {h' : List AB} : (∃ v, resV fr h [RC.cell n sz] = some v ∧ Bt P p [v] h [a] h') = FinO P p (ldV h sz (pl fr n)) h a h' := by
 have e : resV fr h [RC.cell n sz] = ldV h sz (pl fr n) := by
  simp only [resV, qUQ, zaK, Q8c]
  cases ldV h sz (pl fr n) <;> rfl
 rw [e]
 rfl
theorem J3Y {P : Program} {p n m : Nat} {sz : Option Nat} {a : AV} {h' : List AB} : (∃ v, resV fr h [RC.cell n sz, RC.t m] = some v ∧ Bt P p [v] h [a] h') = FinO P p ((ldV h sz (pl fr n)).map fun x => .tu [x, pl fr m]) h a h' := by
 have e : resV fr h [RC.cell n sz, RC.t m] = (ldV h sz (pl fr n)).map fun x => .tu [x, pl fr m] := by
  simp only [resV, qUQ, zaK, Q8c, Option.bind_some]
  cases ldV h sz (pl fr n) <;> rfl
 rw [e]
 rfl
def appW (H : List AB) (fl : Bool) (sz by_ : Nat) (s : AV) (m : Nat) (ys : List AV) : Option (AV × List AB) :=
 match s with
 | .ns => if m = 0 then some (.ns, H) else if m * by_ ≤ 140737488355328 ∧ m ≤ maxLen then some (.sl H.length 0 m m (some sz), H ++ [.blk fl true ys]) else none
 | .sl id off len cap k =>
  if m = 0 then some (.sl id off len cap k, H)
  else if len + m ≤ cap then (stB H id (off + len * sz) ys).map fun h' => (.sl id off (len + m) cap k, h')
  else match H[id]? with
   | some (.blk fl' mu xs) =>
    if fl' = fl ∧ off + len * sz ≤ xs.length ∧ (len + m) * by_ ≤ 140737488355328 ∧ len + m ≤ maxLen then
     if k = none then some (.sl H.length 0 (len + m) (len + m) (some sz), H ++ [.blk fl true ((xs.drop off).take (len * sz) ++ ys)])
     else if k = some sz ∧ sz ≠ 0 ∧ mu = true ∧ off + len * sz = xs.length then some (.sl H.length 0 (len + m) (len + m) (some sz), H.set id .dead ++ [.blk fl true (xs.drop off ++ ys)])
     else if k = some sz ∧ sz ≠ 0 ∧ mu = true then some (.sl H.length 0 (len + m) (len + m) (some sz), H.set id .dead ++ [.blk fl true ((xs.drop off).take (len * sz) ++ ys)])
     else none
    else none
   | _ => none
 | _ => none
theorem ZZO (H : List AB) (fl : Bool) (sz by_ : Nat) (s x : AV) : appV H fl sz by_ s x = (srcV H sz x).bind fun my => if my.2.all (wrOk fl) = true then appW H fl sz by_ s my.1 my.2 else none := _root_.id rfl
def flB (fl : Bool) : List AB → Nat → Prop
 | [], _ => False
 | B :: _, 0 => ∃ m xs, B = .blk fl m xs
 | _ :: L, k + 1 => flB fl L k
theorem Yp6 (fl m : Bool) (xs : List AV) (L : List AB) : flB fl (.blk fl m xs :: L) 0 = True := eq_true ⟨m, xs, rfl⟩
theorem zxY (fl : Bool) (B : AB) (L : List AB) (k : Nat) : flB fl (B :: L) (k + 1) = flB fl L k := _root_.id rfl
theorem qHf (fl : Bool) : ∀ (L : List AB) (k : Nat), flB fl L k → ∃ m xs, L[k]? = some (.blk fl m xs)
 | [], _, e => e.elim
 | B :: _, 0, ⟨m, xs, e⟩ => ⟨m, xs, by rw [e]; rfl⟩
 | _ :: L, k + 1, e => by simpa using qHf fl L k e
theorem K72 (L : List AB) (k : Nat) (fl : Bool) (sz by_ m : Nat) (ys : List AV) (hb : flB fl L k) : appW (h ++ L) fl sz by_ (.sl (h.length + k) 0 0 0 none) m ys = if m = 0 then some (.sl (h.length + k) 0 0 0 none, h ++ L) else if m * by_ ≤ 140737488355328 ∧ m ≤ maxLen then some (.sl (h.length + L.length) 0 m m (some sz), h ++ (L ++ [.blk fl true ys])) else none := by
 obtain ⟨mu, xs, hx⟩ := qHf fl L k hb
 unfold appW
 dsimp only
 split
 ·rfl
 ·rename_i hm
  rw [if_neg (by omega), Qsy, hx]
  simp only [true_and, Nat.zero_add, Nat.zero_mul, Nat.zero_le, List.take_zero, List.nil_append, if_true, List.length_append, List.append_assoc]
theorem ZBu (L : List AB) (fl : Bool) (sz by_ m : Nat) (ys : List AV) : appW (h ++ L) fl sz by_ .ns m ys = if m = 0 then some (.ns, h ++ L) else if m * by_ ≤ 140737488355328 ∧ m ≤ maxLen then some (.sl (h.length + L.length) 0 m m (some sz), h ++ (L ++ [.blk fl true ys])) else none := by
 unfold appW
 simp only [List.length_append, List.append_assoc]
theorem Qmt (l : List Int) : (intR.cells l).all (wrOk true) = true := by
 induction l with
 | nil => rfl
 | cons a l ih =>
  simp only [Row.cells, List.flatMap_cons, List.all_append] at ih ⊢
  rw [ih]
  rfl
theorem Zqs (l : List (Int × Int)) : (dotR.cells l).all (wrOk true) = true := by
 induction l with
 | nil => rfl
 | cons a l ih =>
  simp only [Row.cells, List.flatMap_cons, List.all_append] at ih ⊢
  rw [ih]
  rfl
def apS (r : Row α) (id : Nat) (l : List α) : AV := if l.length = 0 then .ns else .sl id 0 l.length l.length (some r.sz)
theorem qzT (q : Nat → Bool) (id : Nat) (l : List α) (hq : q id = true) : (apS r id l).ok q = true := by unfold apS; split <;> simp [AV.ok, hq]
theorem QKZ (f : Nat → Nat) (id : Nat) (l : List α) : (apS r id l).ren f = apS r (f id) l := by unfold apS; split <;> simp [AV.ren]
theorem JdO (id : Nat) (l : List α) : (apS r id l).isSl = true := by unfold apS; split <;> rfl
theorem Qmv (id : Nat) (l : List α) : lenV (apS r id l) = some (l.length : Int) := by
 unfold apS
 split
 ·rename_i e; rw [e]; rfl
 ·rfl
theorem Xk0 (id : Nat) : apS r id [] = .ns := _root_.id rfl
theorem YAq (id : Nat) (l : List α) : (apS r id l).isStr = false := YTY (JdO id l)
theorem X2C (id : Nat) (l : List α) : (apS r id l).one = true := JoS (JdO id l)
theorem ZNw (id : Nat) (l : List α) : (apS r id l).known = true := QU8 (JdO id l)
theorem Q4X (id : Nat) (l : List α) : (apS r id l).cells = [apS r id l] := qbB (JdO id l)
theorem ZA5 (d : Int × Int) : (d.1, d.2) = d := _root_.id rfl
theorem ZKL (id : Nat) (x : α) : apS r id [x] = .sl id 0 1 1 (some r.sz) := _root_.id rfl
theorem zM0 (m : Bool) (x : α) : resB r m [x] = .blk true m (r.f x) := by
 unfold resB
 rw [if_neg (by simp)]
 simp [Row.cells]
def J0e : List AB → Nat → List AB
 | [], _ => []
 | _ :: L, 0 => .dead :: L
 | B :: L, k + 1 => B :: J0e L k
theorem KTm (B : AB) (L : List AB) : J0e (B :: L) 0 = .dead :: L := _root_.id rfl
theorem qvO (B : AB) (L : List AB) (k : Nat) : J0e (B :: L) (k + 1) = B :: J0e L k := _root_.id rfl
def ownM (r : Row α) (l : List α) : List AB → Nat → Prop
 | [], _ => False
 | B :: _, 0 => B = resB r true l
 | _ :: L, k + 1 => ownM r l L k
theorem Y4A (l : List α) (L : List AB) : ownM r l (resB r true l :: L) 0 = True := eq_true rfl
theorem Jhm (l : List α) (B : AB) (L : List AB) (k : Nat) : ownM r l (B :: L) (k + 1) = ownM r l L k := _root_.id rfl
end
end Go.Proofs.Ytbcpcjofkfgjoaa
end
section
namespace Go.Proofs.Ytbcpcjofkfgjoaa
open Go.RowKit
def mksV (h : List AB) (fl : Bool) (z : List AV) (by_ : Nat) (le ca : AV) : Option (AV × List AB) :=
 match le, ca with
 | .i _ l, .i _ c => if 0 ≤ l ∧ l ≤ c ∧ (by_ : Int) * c ≤ 2 ^ 47 ∧ c ≤ maxLen then newB h fl ((List.replicate c.toNat z).flatten) (fun n => .sl n 0 l.toNat c.toNat none) else none
 | _, _ => none
theorem QCh {h : List AB} (L : List AB) (k off n cap sz : Nat) (kk : Option Nat) : srcV (h ++ L) sz (.sl (h.length + k) off n cap kk) = if n = 0 then some (0, []) else (ownC L k).bind fun xs => if off + n * sz ≤ xs.length then some (n, (xs.drop off).take (n * sz)) else none := by
 simp only [srcV, Yq0]
theorem QKD {h : List AB} (L : List AB) (k : Nat) (B : AB) : (h ++ L).set (h.length + k) B = h ++ L.set k B := by
 rw [List.set_append_right _ _ (by omega), Nat.add_sub_cancel_left]
theorem XbW {α : Type} (a b : α) (l : List α) : (a :: l).set 0 b = b :: l := _root_.id rfl
theorem QUj {α : Type} (a b : α) (l : List α) (n : Nat) : (a :: l).set (n + 1) b = a :: l.set n b := _root_.id rfl
theorem QYT {α : Type} (r : Row α) (h : List AB) : Rd r h .ns [] := ⟨rfl, Nat.zero_le _⟩
theorem JUI {α : Type} (r : Row α) (h : List AB) : getS r h .ns = some [] := (QYT r h).get
theorem YZr (sz id off n c : Nat) (k : Option Nat) (kk : IntKind) (m : Int) : iadV sz (.sl id off n c k) (.i kk m) = if 0 ≤ m ∧ m < (n : Int) then some (.p id (off + m.toNat * sz)) else none := _root_.id rfl
theorem ZWb {T : Env} {fr : List AV} {h : List AB} (fl : Bool) (z : List AV) (by_ : Nat) (le ca : Opd) : opR T (.mks fl z by_ le ca) fr h = mksV h fl z by_ (le.ev fr) (ca.ev fr) := by
 show (match le.ev fr, ca.ev fr with
  | .i _ l, .i _ c => if 0 ≤ l ∧ l ≤ c ∧ (by_ : Int) * c ≤ 2 ^ 47 ∧ c ≤ maxLen then newB h fl ((List.replicate c.toNat z).flatten) (fun n => .sl n 0 l.toNat c.toNat none) else none
  | _, _ => none) = _
 rfl
theorem XuJ (h : List AB) (fl : Bool) (z : List AV) (by_ : Nat) (k k' : IntKind) (l c : Int) : mksV h fl z by_ (.i k l) (.i k' c) = if 0 ≤ l ∧ l ≤ c ∧ (by_ : Int) * c ≤ 2 ^ 47 ∧ c ≤ maxLen then newB h fl ((List.replicate c.toNat z).flatten) (fun n => .sl n 0 l.toNat c.toNat none) else none := _root_.id rfl
def bxS (h : List AB) (i : Nat) : Option AV :=
 match h[i]? with
 | some (.blk false _ [v]) => some v
 | _ => none
def bxL : List AB → Nat → Option AV
 | [], _ => none
 | .blk false _ [v] :: _, 0 => some v
 | _ :: _, 0 => none
 | _ :: L, k + 1 => bxL L k
theorem QCr : ∀ (L : List AB) (k : Nat), bxS L k = bxL L k
 | [], k => by simp [bxS, bxL]
 | B :: L, 0 => by
  cases B with
  | blk fl m xs => cases fl <;> (cases xs with | nil => simp [bxS, bxL] | cons a l => cases l <;> simp [bxS, bxL])
  | _ => simp [bxS, bxL]
 | B :: L, k + 1 => by
  have := QCr L k
  have e : bxL (B :: L) (k + 1) = bxL L k := by
   cases B with
   | blk fl m xs => cases fl <;> (cases xs with | nil => rfl | cons a l => cases l <;> rfl)
   | _ => rfl
  rw [e, ← this]
  unfold bxS
  rw [List.getElem?_cons_succ]
theorem Z44 {h : List AB} (L : List AB) (k : Nat) : bxS (h ++ L) (h.length + k) = bxL L k := by
 rw [← QCr]
 unfold bxS
 rw [Qsy]
theorem KRh (m : Bool) (v : AV) (L : List AB) : bxL (.blk false m [v] :: L) 0 = some v := _root_.id rfl
theorem YDu (B : AB) (L : List AB) (k : Nat) : bxL (B :: L) (k + 1) = bxL L k := by
 cases B with
 | blk fl m xs => cases fl <;> (cases xs with | nil => rfl | cons a l => cases l <;> rfl)
 | _ => rfl
theorem JR0 (q : Nat → Bool) (st : LoopState) (pd : XE) (fr : List AV) (ps : List Nat) (a b : CC) : (AB.lp st pd fr ps a b).ok q = okL q fr := _root_.id rfl
section
variable {c : Ctx} {k : List IT} {fr : List AV} {h : List AB}
end
def zOz : List Pt → List Pt
 | [] => []
 | p :: l => ⟨p.k, p.lo, p.hi, [], []⟩ :: zOz l
theorem JHB : zOz [] = [] := _root_.id rfl
theorem QJ5 (k lo hi : Nat) (rs ws : List Nat) (l : List Pt) : zOz (⟨k, lo, hi, rs, ws⟩ :: l) = ⟨k, lo, hi, [], []⟩ :: zOz l := _root_.id rfl
theorem JSI (len0 lo hi anc : Nat) (past : List Pt) (id : Nat) : qOk len0 lo hi anc (zOz past) id = qOk len0 lo hi anc past id := by
 unfold qOk
 congr 1
 induction past with
 | nil => rfl
 | cons p l ih => simp only [zOz, List.any_cons, ih]
theorem Jro (len0 anc n : Nat) (past : List Pt) : seen len0 anc (zOz past) n = seen len0 anc past n := by
 unfold seen
 congr 1
 funext id
 exact JSI len0 0 0 anc past id
theorem Jzz {c : Ctx} {k : List IT} {fr : List AV} {h : List AB} {len0 n anc : Nat} {past : List Pt} {d : Option Nat} {l : List DOp} (ws : List Nat) (vs : List AV) (v : AV) (G : List AB) : W c (.dmk ws vs (some (v, G)) len0 n anc past d l :: k) fr h = (okL (fun i => decide (i < h.length)) vs = true ∧ HOk h ∧ past.all (QSs len0 anc past ws) = true ∧ (ws.all fun id => decide (id < h.length)) = true ∧ h.length ≤ G.length ∧ v.ok (qOk len0 h.length G.length anc past) = true ∧
      (ws.all fun id => (G.getD id .dead).ok (qOk len0 h.length G.length anc past)) = true ∧ ((G.drop h.length).all fun B => B.ok (qOk len0 h.length G.length anc past)) = true ∧
      W c (.drw len0 (n + 1) (⟨n, h.length, G.length, seen len0 anc (zOz past) h.length, ws⟩ :: past) l :: k) (put fr d v) (Y6d ws G 0 h)) := by
  rw [Jro]
  exact J5Q ws vs v G
end Go.Proofs.Ytbcpcjofkfgjoaa
end
section
namespace Go.Proofs.Ytbcpcjofkfgjoaa
open Go.RowKit
theorem QzR {ρ : Mp} {l : List AV} {cs : Array Value} (h : VL ρ l cs) : VR ρ (.ag l) (.agg cs) := .ag l cs h.1 h.2
structure In (K : Code → CC → Prop) (ρ : Mp) (h : List AB) (w : World) : Prop where
 rel : Rel K ρ h w
 frz : ∀ B ∈ h, B.mut = false
variable {K : Code → CC → Prop} {ρ : Mp} {h : List AB} {w : World}
theorem In.nil (w : World) : In K [] [] w := ⟨⟨rfl, fun i B b o n h => by simp at h, fun i j bi oi bj oj Bi Bj _ h => by simp at h⟩, fun B h => by simp at h⟩
theorem QgV {P : Program} {g : Nat} {az : List AV} {vals : Array Value} {h' : List AB} (i : In (KC P) ρ h w) (hv : VL ρ az vals) (e : FnC P g az h (.b true) h') : Calls P g vals w (fun e w' => e = .returned (.bool true) ∧ Kept NoS w w') := by
 refine (e.2 ρ w vals i.rel hv).mono ?_
 rintro e w' ⟨v', ρ', rfl, hva, _, heff⟩
 cases hva
 refine ⟨rfl, heff.os, heff.tape, heff.output.1, heff.size, fun b hb _ => heff.keep b hb fun ⟨j, B, o, h1, h2, _⟩ => ?_⟩
 rw [i.frz B (List.mem_of_getElem? h1)] at h2
 cases h2
end Go.Proofs.Ytbcpcjofkfgjoaa
end
section
namespace Go.Proofs.Ytbcpcjofkfgjoaa
open Go.ChangeShapes Go.WideShapes Go.ChangeAt Go.RowKit
section
variable {H : Type} {enc : TypeId × Value → H} {P : Program} {w : World} {base : Nat} {spare : Nat → Bool} {held : Bool}
theorem Qag {α β : Type} (f : α → Option β) : ∀ (l : List α) (r : List β), l.mapM f = some r → ∀ a ∈ l, ∃ b, f a = some b
 | [], _, _, a, ha => by cases ha
 | x :: l, r, h, a, ha => by
  rw [List.mapM_cons] at h
  cases hx : f x with
  | none => simp [hx] at h
  | some b =>
   cases hl : l.mapM f with
   | none => simp [hx, hl] at h
   | some bs =>
    rcases List.mem_cons.1 ha with rfl | ha
    ·exact ⟨b, hx⟩
    ·exact Qag f l bs hl a ha
theorem JMs {fuel : Nat} {T : TypeId} {fs : Array Field} (hT : P.underlying T = some (.struct fs)) {cs : List Value} {x : DataW H × List MemPlace}
  (h : DataW.trod enc P w base spare held (fuel + 1) T cs = some x) : cs.length = P.cellsOf T ∧ ∀ f ∈ fs.toList, ∃ y, DataW.trod enc P w base spare held fuel f.type ((cs.drop f.offset).take (P.cellsOf f.type)) = some y := by
 simp only [DataW.trod, hT] at h
 split at h
 ·rename_i hl
  obtain ⟨xs, hxs, _⟩ := Option.map_eq_some_iff.1 h
  exact ⟨hl, fun f hf => Qag _ _ _ hxs f hf⟩
 ·cases h
theorem qEm {fuel : Nat} {T : TypeId} {k : IntKind} (hT : P.underlying T = some (.int k)) {cs : List Value} {x : DataW H × List MemPlace}
  (h : DataW.trod enc P w base spare held fuel T cs = some x) : ∃ n, cs = [.int k n] ∧ (Lit.int k n).wf = true := by
 cases fuel with
 | zero => cases h
 | succ fuel =>
  simp only [DataW.trod, hT] at h
  split at h <;> simp_all
theorem zGc {fuel : Nat} {T : TypeId} (hT : P.underlying T = some .string) {cs : List Value} {x : DataW H × List MemPlace}
  (h : DataW.trod enc P w base spare held fuel T cs = some x) : ∃ s : ByteArray, cs = [.string s] ∧ s.size ≤ maxLen := by
 cases fuel with
 | zero => cases h
 | succ fuel =>
  simp only [DataW.trod, hT] at h
  split at h <;> simp_all
end
end Go.Proofs.Ytbcpcjofkfgjoaa
end
section
namespace Go.Proofs.Ytbcpcjofkfgjoaa
def QbA := (And.intro (And.intro (And.intro (And.intro (And.intro (And.intro (And.intro @zXD (And.intro @XGY @QNs)) (And.intro (And.intro @JfB @XGN) (And.intro @Zjy @ZWo))) (And.intro (And.intro @JGN (And.intro @q7t @ZmM)) (And.intro (And.intro @qxi @Z1e) (And.intro @X2H @Yu4)))) (And.intro (And.intro (And.intro @KuH (And.intro @Js1 @z6r)) (And.intro (And.intro @JKE @XFc) (And.intro @zAo @YRt))) (And.intro (And.intro (And.intro @Xtr @W_op) (And.intro @Qpt @XiW)) (And.intro (And.intro @KmO @QNU) (And.intro @Yuy @Zd8))))) (And.intro (And.intro (And.intro (And.intro @zCW (And.intro @XhM @X4G)) (And.intro (And.intro @KvU @XtW) (And.intro @pl_0 @pl_s))) (And.intro (And.intro @JrB (And.intro @quw @zh6)) (And.intro (And.intro @XzD @ev_t) (And.intro @ev_c @KZN)))) (And.intro (And.intro (And.intro @zlS (And.intro @KOq @X94)) (And.intro (And.intro @QmU @QNH) (And.intro @KYL @Kc3))) (And.intro (And.intro (And.intro @KD8 @QQb) (And.intro @qvS @XrF)) (And.intro (And.intro @QBP @YV0) (And.intro @Y5h @ZZn)))))) (And.intro (And.intro (And.intro (And.intro (And.intro @KjB (And.intro @ZxH @QSc)) (And.intro (And.intro @Xot @YTe) (And.intro @XIw @XGT))) (And.intro (And.intro @z4g (And.intro @qH7 @zFO)) (And.intro (And.intro @q15 @Yg4) (And.intro @ZwD @Zx6)))) (And.intro (And.intro (And.intro @JO6 (And.intro @q8e @Qhv)) (And.intro (And.intro @QsM @Znq) (And.intro @zbN @Z33))) (And.intro (And.intro (And.intro @QAD @Kl7) (And.intro @Z5a @YfS)) (And.intro (And.intro @qFs @Kky) (And.intro @qvy @KJX))))) (And.intro (And.intro (And.intro (And.intro @ZXA (And.intro @Tab.at_nil @Tab.at_cons)) (And.intro (And.intro @YPJ @zUw) (And.intro @QQA @QqV))) (And.intro (And.intro (And.intro @Qwv @K2c) (And.intro @qxN @JmZ)) (And.intro (And.intro @zLq @XDO) (And.intro @Z39 @Xww)))) (And.intro (And.intro (And.intro @KpN (And.intro @JWC @YuR)) (And.intro (And.intro @all_nil @all_cons) (And.intro @QQ3 @X1k))) (And.intro (And.intro (And.intro @JYX @z9l) (And.intro @YN1 @YhZ)) (And.intro (And.intro @Yj6 @YfT) (And.intro @z8C @YGc))))))) (And.intro (And.intro (And.intro (And.intro (And.intro (And.intro @XWz (And.intro @JWb @KcV)) (And.intro (And.intro @YtB @Ysn) (And.intro @zbJ @JoJ))) (And.intro (And.intro @KwK (And.intro @KYn @XVu)) (And.intro (And.intro @qpH @zvj) (And.intro @XjQ @KBh)))) (And.intro (And.intro (And.intro @KWW (And.intro @KMn @XN6)) (And.intro (And.intro @qDS @zu2) (And.intro @Jfw @Yis))) (And.intro (And.intro (And.intro @Yor @ZG6) (And.intro @Z55 @qUB)) (And.intro (And.intro @QEf @zKL) (And.intro @zls @zuk))))) (And.intro (And.intro (And.intro (And.intro @true_and (And.intro @and_true @true_implies)) (And.intro (And.intro @Bool.true_and @Bool.and_true) (And.intro @Bool.false_and @Bool.and_false))) (And.intro (And.intro (And.intro @Nat.lt_add_one @tp_0) (And.intro @tp_s @KqT)) (And.intro (And.intro @YGR @Kys) (And.intro @X33 @Int.cast_ofNat_Int)))) (And.intro (And.intro (And.intro @Int.natCast_inj (And.intro @Int.ofNat_lt @Int.ofNat_le)) (And.intro (And.intro @Int.toNat_natCast @Int.natCast_nonneg) (And.intro @not_false_eq_true @not_true_eq_false))) (And.intro (And.intro (And.intro @Bool.false_eq_true @Y3F) (And.intro @ZQB @JOp)) (And.intro (And.intro @QtM @qh9) (And.intro @K5z @KM5)))))) (And.intro (And.intro (And.intro (And.intro (And.intro @KxY (And.intro @Xct @ZZO)) (And.intro (And.intro @Yp6 @zxY) (And.intro @K72 @ZBu))) (And.intro (And.intro @Qmt (And.intro @Zqs @KTm)) (And.intro (And.intro @qvO @Y4A) (And.intro @Jhm @Qmv)))) (And.intro (And.intro (And.intro @Xo5 (And.intro @X5d @ZGu)) (And.intro (And.intro @YVZ @znF) (And.intro @QuG @QSY))) (And.intro (And.intro (And.intro @Yce @JiF) (And.intro @XQv @KJa)) (And.intro (And.intro @qEH @qlT) (And.intro @ZzY @J3Y))))) (And.intro (And.intro (And.intro (And.intro @Kbh (And.intro @JpL @XCV)) (And.intro (And.intro @qM9 @Z80) (And.intro @Xur @qsz))) (And.intro (And.intro (And.intro @JH1 @z1R) (And.intro @zGP @YxJ)) (And.intro (And.intro @qYU @zjY) (And.intro @QKD @XbW)))) (And.intro (And.intro (And.intro @QUj (And.intro @Nat.add_assoc @Z44)) (And.intro (And.intro @KRh @YDu) (And.intro @Yq0 @JUI))) (And.intro (And.intro (And.intro @YZr @ZWb) (And.intro @XuJ @YAq)) (And.intro (And.intro @X2C @ZNw) (And.intro @Q4X @Krk))))))))
def KOx := (And.intro (And.intro (And.intro (And.intro (And.intro @Ya4 @Xx5) (And.intro @QKZ (And.intro @KrY @J0E))) (And.intro (And.intro @nd_0 (And.intro @nd_s @qoI)) (And.intro @X33 (And.intro @Kys @KMn)))) (And.intro (And.intro (And.intro @XN6 (And.intro @decide_eq_true_eq @Bool.and_eq_true)) (And.intro @Bool.and_true (And.intro @Bool.true_and @Nat.lt_add_right_iff_pos))) (And.intro (And.intro @Nat.lt_add_one (And.intro @Nat.add_lt_add_iff_left @Nat.zero_lt_succ)) (And.intro @or_true (And.intro @true_or @and_true))))) (And.intro (And.intro (And.intro (And.intro @true_and @and_self) (And.intro @Nat.zero_add (And.intro @Nat.add_zero @false_or))) (And.intro (And.intro @Jn7 (And.intro @zE7 @YPv)) (And.intro @zaz (And.intro @YGR @KqT)))) (And.intro (And.intro (And.intro @imp_self (And.intro @K9N @YPr)) (And.intro @Z4U (And.intro @ZfC @decide_true))) (And.intro (And.intro @Bool.or_true (And.intro @ZA5 @Xk0)) (And.intro @ZKL (And.intro @zM0 @Nat.lt_irrefl))))))
def qi4 := (And.intro (And.intro (And.intro @Ktp @YtK) (And.intro @Qqq (And.intro @ZIz @QCh))) (And.intro (And.intro @JAN @zC4) (And.intro @K8p (And.intro @zOX @Qsz))))
end Go.Proofs.Ytbcpcjofkfgjoaa
end
section
namespace Go.Proofs.Ytbcpcjofkfgjoaa
open Go.ChangeShapes Go.WideShapes Go.ChangeAt Go.RowKit
section
variable {K : Code → CC → Prop} {ρ : Mp} {h : List AB} {w : World}
theorem In.hz (i : In K ρ h w) : h.map AB.freeze = h := by
 refine List.ext_getElem? fun j => ?_
 rw [List.getElem?_map]
 cases e : h[j]? with
 | none => rfl
 | some B =>
  have := i.frz B (List.mem_of_getElem? e)
  rw [Option.map_some]
  congr 1
  cases B <;> first | rfl | (cases this; done) | (simp only [AB.mut] at this; subst this; rfl)
end
section
variable {H : Type} {enc : TypeId × Value → H} {w : World} {base : Nat} {held : Bool}
end
end Go.Proofs.Ytbcpcjofkfgjoaa
end
section
namespace Go.Proofs.Ytbcpcjofkfgjoaa
section
variable {α : Type} {r : Row α} {h l : List AB}
def mskQ (base c anc : Nat) (past : List Pt) (l : List AB) : List AB := mskL base c anc past [] 0 l
def vis (base c anc : Nat) (past : List Pt) (k : Nat) : Bool := decide (k < c) || past.any (fun p => bit p.k anc && decide (p.lo ≤ base + k) && decide (base + k < p.hi))
theorem QBR (base c anc : Nat) (past : List Pt) (k : Nat) : qOk (base + c) 0 0 anc past (base + k) = vis base c anc past k := by
 rw [Z7Z]
 unfold vis
 have e1 : decide (base + k < base + c) = decide (k < c) := decide_eq_decide.2 (by omega)
 have e2 : decide (base + k < 0) = false := decide_eq_false (by omega)
 rw [e1, e2, Bool.and_false, Bool.or_false]
theorem zsB (base c anc : Nat) (past : List Pt) (l : List AB) (k : Nat) : (mskQ base c anc past l)[k]? = (l[k]?).map fun B => if vis base c anc past k = true then B.freeze else .dead := by
 unfold mskQ
 rw [zZy, Nat.zero_add]
 congr 1
 funext B
 rw [QBR]
 simp [QkE]
theorem zRf (base c anc : Nat) (past : List Pt) (l : List AB) : (mskQ base c anc past l).length = l.length := by
 rcases Nat.lt_trichotomy (mskQ base c anc past l).length l.length with q | q | q
 ·have := zsB base c anc past l (mskQ base c anc past l).length
  rw [List.getElem?_eq_none (Nat.le_refl _), List.getElem?_eq_getElem q] at this
  cases this
 ·exact q
 ·have := zsB base c anc past l l.length
  rw [List.getElem?_eq_none (Nat.le_refl _), List.getElem?_eq_getElem q] at this
  cases this
theorem YrT (L : List AB) (k : Nat) : ownC L k = match L[k]? with
  | some (.blk _ _ xs) => some xs
  | _ => none := by rw [← Yqx]; rfl
theorem Jek {base c anc : Nat} {past : List Pt} {k : Nat} (hv : vis base c anc past k = true) : ownC (mskQ base c anc past l) k = ownC l k := by
 rw [YrT, YrT, zsB]
 cases l[k]? with
 | none => rfl
 | some B => simp only [Option.map_some, hv, if_true]; cases B <;> rfl
theorem ZzA {base c anc : Nat} {past : List Pt} {k : Nat} (hv : vis base c anc past k = true) : bxL (mskQ base c anc past l) k = bxL l k := by
 rw [← QCr, ← QCr]
 unfold bxS
 rw [zsB]
 cases l[k]? with
 | none => rfl
 | some B =>
  simp only [Option.map_some, hv, if_true]
  cases B with
  | blk fl m xs => cases fl <;> (cases xs with | nil => rfl | cons a t => cases t <;> rfl)
  | _ => rfl
theorem zDV (x : List α) : ∀ (L : List AB) (k : Nat), ownR r x L k ↔ ∃ m, L[k]? = some (resB r m x)
 | [], k => by simp [ownR]
 | B :: L, 0 => by simp [ownR]
 | B :: L, k + 1 => by simpa [ownR] using zDV x L k
theorem ZXc {base c anc : Nat} {past : List Pt} {k : Nat} (x : List α) (hv : vis base c anc past k = true) (hr : ownR r x l k) : ownR r x (mskQ base c anc past l) k = True := by
 refine eq_true ?_
 rw [zDV] at hr ⊢
 obtain ⟨m, e⟩ := hr
 exact ⟨false, by rw [zsB, e, Option.map_some, if_pos hv, KM5]⟩
theorem qyN (hz : h.map AB.freeze = h) (c anc n : Nat) (past : List Pt) (l : List AB) (hn : n = h.length + l.length) : YYZ (seen (h.length + c) anc past n) [] 0 (h ++ l) = h ++ mskQ h.length c anc past l := YEA hz c anc n past [] l hn rfl
theorem KN7 (hz : h.map AB.freeze = h) (anc n : Nat) (past : List Pt) (l : List AB) (hn : n = h.length + l.length) : YYZ (seen h.length anc past n) [] 0 (h ++ l) = h ++ mskQ h.length 0 anc past l := YEA hz 0 anc n past [] l hn rfl
theorem ZbP (hz : h.map AB.freeze = h) (c anc n : Nat) (past : List Pt) (w0 : Nat) (ws : List Nat) (l : List AB) (hn : n = h.length + l.length) (hw : ((w0 :: ws).all fun id => decide (h.length ≤ id)) = true) : YYZ (seen (h.length + c) anc past n) (w0 :: ws) 0 (h ++ l) = h ++ mskL h.length c anc past (w0 :: ws) 0 l := YEA hz c anc n past (w0 :: ws) l hn hw
theorem Z8c (G x l : List AB) (hG : G.length = l.length) : Y6d [] (h ++ (G ++ x)) 0 (h ++ l) = h ++ (l ++ x) := by
 rw [Qsz [] (G ++ x) l rfl]
 congr 1
 refine List.ext_getElem? fun j => ?_
 rw [zrQ]
 by_cases hj : j < l.length
 ·rw [if_pos hj, if_neg (by simp), List.getElem?_append_left hj]
 ·rw [if_neg hj, List.getElem?_append_right (by omega), List.getElem?_append_right (by omega), hG]
def qP (anc : Nat) : List Pt → Nat → Bool
 | [], _ => false
 | ⟨k, lo, hi, _, _⟩ :: l, id => if lo ≤ id ∧ id < hi then (if anc / 2 ^ k % 2 = 1 then true else qP anc l id) else qP anc l id
theorem X6c (anc id : Nat) : qP anc [] id = false := _root_.id rfl
theorem K8s (anc k lo hi : Nat) (rs ws : List Nat) (l : List Pt) (id : Nat) : qP anc (⟨k, lo, hi, rs, ws⟩ :: l) id = if lo ≤ id ∧ id < hi then (if anc / 2 ^ k % 2 = 1 then true else qP anc l id) else qP anc l id := _root_.id rfl
theorem Jxe (anc id : Nat) : ∀ past : List Pt, qP anc past id = past.any fun p => bit p.k anc && decide (p.lo ≤ id) && decide (id < p.hi)
 | [] => rfl
 | ⟨k, lo, hi, rs, ws⟩ :: l => by
  rw [K8s, List.any_cons, Jxe anc id l, ZTB]
  by_cases h1 : lo ≤ id <;> by_cases h2 : id < hi <;> by_cases h3 : anc / 2 ^ k % 2 = 1 <;> simp [h1, h2, h3]
theorem K8a (len0 lo hi anc : Nat) (past : List Pt) (id : Nat) : qOk len0 lo hi anc past id = if id < len0 then true else if lo ≤ id ∧ id < hi then true else qP anc past id := by
 rw [Z7Z, Jxe]
 by_cases h1 : id < len0 <;> by_cases h2 : lo ≤ id <;> by_cases h3 : id < hi <;> simp [h1, h2, h3]
theorem qNR (base c anc : Nat) (past : List Pt) (k : Nat) : vis base c anc past k = if k < c then true else qP anc past (base + k) := by
 unfold vis
 rw [Jxe]
 by_cases h1 : k < c <;> simp [h1]
def sepA (anc lo hi : Nat) : List Pt → Bool
 | [] => true
 | ⟨k, lo', hi', _, _⟩ :: l => if hi' ≤ lo ∨ hi ≤ lo' then sepA anc lo hi l else if anc / 2 ^ k % 2 = 1 then false else sepA anc lo hi l
theorem Jv8 (anc lo hi : Nat) : sepA anc lo hi [] = true := _root_.id rfl
theorem Qak (anc lo hi k lo' hi' : Nat) (rs ws : List Nat) (l : List Pt) : sepA anc lo hi (⟨k, lo', hi', rs, ws⟩ :: l) = if hi' ≤ lo ∨ hi ≤ lo' then sepA anc lo hi l else if anc / 2 ^ k % 2 = 1 then false else sepA anc lo hi l := _root_.id rfl
theorem Kuj (anc lo hi : Nat) : ∀ past : List Pt, sepA anc lo hi past = past.all fun p' => !bit p'.k anc || decide (p'.hi ≤ lo) || decide (hi ≤ p'.lo)
 | [] => rfl
 | ⟨k, lo', hi', rs, ws⟩ :: l => by
  rw [Qak, List.all_cons, Kuj anc lo hi l, ZTB]
  by_cases h1 : hi' ≤ lo <;> by_cases h2 : hi ≤ lo' <;> by_cases h3 : anc / 2 ^ k % 2 = 1 <;> simp [h1, h2, h3]
def indA (len0 anc : Nat) (past0 : List Pt) (ws0 : List Nat) : List Pt → Bool
 | [] => true
 | ⟨k, lo, hi, rs, ws⟩ :: l => if anc / 2 ^ k % 2 = 1 then indA len0 anc past0 ws0 l else
   if (ws.all fun id => !qOk len0 0 0 anc past0 id) = true then
    if hi ≤ lo ∨ (len0 ≤ lo ∧ sepA anc lo hi past0 = true) then
     if (ws0.all fun id => !ZSF ⟨k, lo, hi, rs, ws⟩ id && !memN id (rs ++ ws)) = true then indA len0 anc past0 ws0 l else false
    else false
   else false
theorem qkX (len0 anc : Nat) (past0 : List Pt) (ws0 : List Nat) : indA len0 anc past0 ws0 [] = true := _root_.id rfl
theorem ZI3 (len0 anc : Nat) (past0 : List Pt) (ws0 : List Nat) (k lo hi : Nat) (rs ws : List Nat) (l : List Pt) : indA len0 anc past0 ws0 (⟨k, lo, hi, rs, ws⟩ :: l) = if anc / 2 ^ k % 2 = 1 then indA len0 anc past0 ws0 l else
      if (ws.all fun id => !qOk len0 0 0 anc past0 id) = true then
        if hi ≤ lo ∨ (len0 ≤ lo ∧ sepA anc lo hi past0 = true) then
          if (ws0.all fun id => !ZSF ⟨k, lo, hi, rs, ws⟩ id && !memN id (rs ++ ws)) = true then indA len0 anc past0 ws0 l else false
        else false
      else false := _root_.id rfl
theorem YWM (len0 anc : Nat) (past0 : List Pt) (ws0 : List Nat) : ∀ past : List Pt, past.all (QSs len0 anc past0 ws0) = indA len0 anc past0 ws0 past
 | [] => rfl
 | ⟨k, lo, hi, rs, ws⟩ :: l => by
  rw [ZI3, List.all_cons, YWM len0 anc past0 ws0 l, Q4e, Kuj, ZTB]
  by_cases h1 : anc / 2 ^ k % 2 = 1
  ·simp [h1]
  ·simp only [h1, decide_false, Bool.false_or, if_false]
   generalize (ws.all fun id => !qOk len0 0 0 anc past0 id) = a
   generalize (past0.all fun p' => !bit p'.k anc || decide (p'.hi ≤ lo) || decide (hi ≤ p'.lo)) = b
   generalize (ws0.all fun id => !ZSF ⟨k, lo, hi, rs, ws⟩ id && !memN id (rs ++ ws)) = e
   by_cases h2 : hi ≤ lo <;> by_cases h3 : len0 ≤ lo <;> cases a <;> cases b <;> cases e <;> simp [h2, h3]
def indL (anc : Nat) (rs : List Nat) : List Pt → Bool
 | [] => true
 | ⟨k, lo, hi, rs', ws⟩ :: l => if anc / 2 ^ k % 2 = 1 then indL anc rs l else
   if (rs.all fun id => !ZSF ⟨k, lo, hi, rs', ws⟩ id) = true then indL anc rs l else false
theorem ZzF (anc : Nat) (rs : List Nat) : indL anc rs [] = true := _root_.id rfl
theorem YVy (anc : Nat) (rs : List Nat) (k lo hi : Nat) (rs' ws : List Nat) (l : List Pt) : indL anc rs (⟨k, lo, hi, rs', ws⟩ :: l) = if anc / 2 ^ k % 2 = 1 then indL anc rs l else
      if (rs.all fun id => !ZSF ⟨k, lo, hi, rs', ws⟩ id) = true then indL anc rs l else false := _root_.id rfl
theorem JVV (anc : Nat) (rs : List Nat) : ∀ past : List Pt, past.all (YJL anc rs []) = indL anc rs past
 | [] => rfl
 | ⟨k, lo, hi, rs', ws⟩ :: l => by
  rw [YVy, List.all_cons, JVV anc rs l]
  unfold YJL
  rw [ZTB, List.append_nil]
  by_cases h1 : anc / 2 ^ k % 2 = 1
  ·simp [h1]
  ·simp only [h1, decide_false, if_false, List.all_nil, Bool.and_true, Bool.false_eq_true]
   generalize (rs.all fun id => !ZSF ⟨k, lo, hi, rs', ws⟩ id) = a
   cases a <;> simp
variable {c : Ctx} {k : List IT} {fr : List AV} {len0 n anc : Nat} {past : List Pt} {d : Option Nat} {ops : List DOp}
theorem YRq (w0 : Nat) (ws : List Nat) (vs : List AV) (v : AV) (G : List AB) : W c (.dmk (w0 :: ws) vs (some (v, G)) len0 n anc past d ops :: k) fr h = (okL (fun i => decide (i < h.length)) vs = true ∧ HOk h ∧ indA len0 anc past (w0 :: ws) past = true ∧ ((w0 :: ws).all fun id => decide (id < h.length)) = true ∧ h.length ≤ G.length ∧ v.ok (qOk len0 h.length G.length anc past) = true ∧
      ((w0 :: ws).all fun id => (G.getD id .dead).ok (qOk len0 h.length G.length anc past)) = true ∧ ((G.drop h.length).all fun B => B.ok (qOk len0 h.length G.length anc past)) = true ∧
      W c (.drw len0 (n + 1) (⟨n, h.length, G.length, seen len0 anc (zOz past) h.length, w0 :: ws⟩ :: past) ops :: k) (put fr d v) (Y6d (w0 :: ws) G 0 h)) := by
  rw [← YWM]
  exact Jzz (w0 :: ws) vs v G
theorem YFk (vs : List AV) (v : AV) (c0 anc' : Nat) (past' : List Pt) (x : List AB) : W c (.dmk [] vs (some (v, h ++ (mskQ h.length c0 anc' past' l ++ x))) len0 n anc past d ops :: k) fr (h ++ l) = (okL (fun i => decide (i < h.length + l.length)) vs = true ∧ HOk (h ++ l) ∧ indA len0 anc past [] past = true ∧ v.ok (qOk len0 (h.length + l.length) (h.length + (l.length + x.length)) anc past) = true ∧
      (x.all fun B => B.ok (qOk len0 (h.length + l.length) (h.length + (l.length + x.length)) anc past)) = true ∧
      W c (.drw len0 (n + 1) (⟨n, h.length + l.length, h.length + (l.length + x.length), seen len0 anc (zOz past) (h.length + l.length), []⟩ :: past) ops :: k) (put fr d v) (h ++ (l ++ x))) := by
  rw [← YWM, Jzz, Z8c _ _ _ (zRf _ _ _ _ _)]
  have e1 : (h ++ l).length = h.length + l.length := List.length_append
  have e2 : (h ++ (mskQ h.length c0 anc' past' l ++ x)).length = h.length + (l.length + x.length) := by rw [List.length_append, List.length_append, zRf]
  have e3 : (h ++ (mskQ h.length c0 anc' past' l ++ x)).drop (h ++ l).length = x := by
    rw [e1, K8p, List.drop_append_of_le_length (by rw [zRf]; exact Nat.le_refl _), List.drop_eq_nil_of_le (by rw [zRf]; exact Nat.le_refl _), List.nil_append]
  rw [e3, e2, e1]
  have e4 : (h.length + l.length ≤ h.length + (l.length + x.length)) = True := eq_true (by omega)
  simp only [List.all_nil, e4, true_and]
theorem Z2H (vs : List AV) (v : AV) (c0 anc' : Nat) (past' : List Pt) : W c (.dmk [] vs (some (v, h ++ mskQ h.length c0 anc' past' l)) len0 n anc past d ops :: k) fr (h ++ l) = (okL (fun i => decide (i < h.length + l.length)) vs = true ∧ HOk (h ++ l) ∧ indA len0 anc past [] past = true ∧ v.ok (qOk len0 (h.length + l.length) (h.length + l.length) anc past) = true ∧
      W c (.drw len0 (n + 1) (⟨n, h.length + l.length, h.length + l.length, seen len0 anc (zOz past) (h.length + l.length), []⟩ :: past) ops :: k) (put fr d v) (h ++ l)) := by
  have := YFk (c := c) (k := k) (fr := fr) (len0 := len0) (n := n) (anc := anc) (past := past) (d := d) (ops := ops) (h := h) (l := l) vs v c0 anc' past' []
  simpa only [List.append_nil, List.length_nil, Nat.add_zero, List.all_nil, true_and] using this
theorem K0a (v : AV) (h' : List AB) (x : AV) : W c (.dld (some (v, h')) x len0 n anc past d ops :: k) fr h = ((if indA len0 anc past [] past = true then True else indL anc (idOf x) past = true) ∧ x.ok (qOk len0 0 0 anc past) = true ∧ v.ok (qOk len0 0 0 anc past) = true ∧ W c (.drw len0 (n + 1) (⟨n, 0, 0, idOf x, []⟩ :: past) ops :: k) (put fr d v) h) := by
 rw [← YWM, ← JVV]
 exact zma v h' x
theorem ZzX {n : Nat} (h : n ≤ 1000000) : (n ≤ maxLen) = True := eq_true (by unfold maxLen; omega)
end
def KI8 := (And.intro (And.intro (And.intro (And.intro (And.intro (And.intro (And.intro @Jtl @KAH) (And.intro @QcM @zlD)) (And.intro (And.intro @q4X @ze2) (And.intro @XfF (And.intro @z3K @K6o)))) (And.intro (And.intro (And.intro @KOA @ZPz) (And.intro @Qil (And.intro @XM2 @Qgd))) (And.intro (And.intro @XfE @Z00) (And.intro @qBd (And.intro @Xcu @K0a))))) (And.intro (And.intro (And.intro (And.intro @JHB @QJ5) (And.intro @J4E @KNu)) (And.intro (And.intro @zg3 @qLS) (And.intro @KyZ (And.intro @QVh @J3Q)))) (And.intro (And.intro (And.intro @ZPJ @JJw) (And.intro @ZLH (And.intro @Jln @KIl))) (And.intro (And.intro @Js9 @q8i) (And.intro @XN1 (And.intro @qDk @ZWv)))))) (And.intro (And.intro (And.intro (And.intro (And.intro @X7n @zWp) (And.intro @Khp @YnC)) (And.intro (And.intro @Z8R @Jr3) (And.intro @K9l (And.intro @YNJ @JUp)))) (And.intro (And.intro (And.intro @Zu3 @qWq) (And.intro @YmV (And.intro @ZwE @XYV))) (And.intro (And.intro @XJ8 @YoJ) (And.intro @K6V (And.intro @JLO @Yxt))))) (And.intro (And.intro (And.intro (And.intro @YK0 @YVD) (And.intro @ZoI (And.intro @Jty @QkE))) (And.intro (And.intro @Ywn @q1f) (And.intro @YdO (And.intro @J7L @JAv)))) (And.intro (And.intro (And.intro @qoX @JSi) (And.intro @Ywr (And.intro @qAD @ZmG))) (And.intro (And.intro @JAM @ZTa) (And.intro @ZBV (And.intro @q7g @ZZd))))))) (And.intro (And.intro (And.intro (And.intro (And.intro (And.intro @ok_i @ok_b) (And.intro @ok_s @qpd)) (And.intro (And.intro @JgG @XpG) (And.intro @ok_p (And.intro @ok_y @QsE)))) (And.intro (And.intro (And.intro @ok_f @Qj1) (And.intro @Jm3 (And.intro @YR2 @XE1))) (And.intro (And.intro @XNv @Q6P) (And.intro @KKu (And.intro @qPS @Ztz))))) (And.intro (And.intro (And.intro (And.intro @Jqo @QlR) (And.intro @ZbA (And.intro @any_cons @Xch))) (And.intro (And.intro @Kwz @qJR) (And.intro @z7f (And.intro @q9B @XkV)))) (And.intro (And.intro (And.intro @qLf @qAY) (And.intro @Y5b (And.intro @ZVo @Tab.ws_nil))) (And.intro (And.intro @Tab.ws_cons @decide_true) (And.intro @decide_false (And.intro @Bool.or_true @Bool.or_false)))))) (And.intro (And.intro (And.intro (And.intro (And.intro @Bool.true_or @Bool.false_or) (And.intro @Bool.not_true @Bool.not_false)) (And.intro (And.intro @zdl @Zh4) (And.intro @JLS (And.intro @KIX @zJP)))) (And.intro (And.intro (And.intro @ZNz @Kvt) (And.intro @JR0 (And.intro @qzT @QVW))) (And.intro (And.intro @YRq @YFk) (And.intro @Z2H (And.intro @Jek @ZzA))))) (And.intro (And.intro (And.intro (And.intro @ZXc @zRf) (And.intro @qNR (And.intro @X6c @K8s))) (And.intro (And.intro @K8a @Jv8) (And.intro @Qak (And.intro @qkX @ZI3)))) (And.intro (And.intro (And.intro @ZzF @YVy) (And.intro @and_self (And.intro @false_and @and_false))) (And.intro (And.intro @or_true @true_or) (And.intro @false_or (And.intro @or_false @ZzX))))))))
end Go.Proofs.Ytbcpcjofkfgjoaa
end
section
namespace Go.Proofs.Ytbcpcjofkfgjoaa
def u8A (b : UInt8) : AV := .i .u8 (b.toNat : Int)
end Go.Proofs.Ytbcpcjofkfgjoaa
end
section
namespace Go.Proofs.Ytbcpcjofkfgjoaa
theorem KNU (a b : List UInt8) : (a == b) = decide (a = b) := by
 rw [Bool.eq_iff_iff]
 simp
theorem KP7 (a b : List UInt8) : binV .neq (.s a) (.s b) = some (.b (decide (¬ a = b))) := by
 show some (AV.b (!(a == b))) = _
 rw [KNU, decide_not]
theorem XsR (a b : List UInt8) : binV .eql (.s a) (.s b) = some (.b (decide (a = b))) := by
 show some (AV.b (a == b)) = _
 rw [KNU]
section
variable {α : Type}
end
end Go.Proofs.Ytbcpcjofkfgjoaa
end
section
namespace Go.Proofs.Ytbcpcjofkfgjoaa
open Go.ChangeShapes Go.WideShapes Go.ChangeAt Go.RowKit
section
variable {H : Type} {enc : TypeId × Value → H} {w : World} {base : Nat} {held : Bool}
theorem JKu {fuel : Nat} {s : ByteArray} {x : DataW H × List MemPlace} (h : DataW.trod enc Try.prog w base (fun _ => true) held fuel 9 [.string s] = some x) : s.data.toList.length ≤ maxLen := by
 obtain ⟨s', e, hl⟩ := zGc Try.underlying9 h
 cases e
 rw [Array.length_toList]
 exact hl
end
end Go.Proofs.Ytbcpcjofkfgjoaa
end
section
namespace Go.Proofs.Ytbcpcjofkfgjoaa
open Go.ChangeShapes Go.WideShapes Go.ChangeAt Go.RowKit
section
variable {H : Type} {enc : TypeId × Value → H} {w : World} {base : Nat} {held : Bool}
set_option maxRecDepth 100000 in
theorem z42 {fuel : Nat} {cs : List Value} {x : DataW H × List MemPlace} (h : DataW.trod enc Try.prog w base (fun _ => true) held fuel 33 cs = some x) : ∃ r s t, cs = [.int .i64 r, .string s, .string t] := by
 cases fuel with
 | zero => cases h
 | succ fuel =>
  obtain ⟨hl, he⟩ := JMs Try.underlying33 h
  have hl2 : cs.length = 3 := hl.trans (by kernel_rfl)
  simp only [List.forall_mem_cons] at he
  obtain ⟨⟨y0, h0⟩, ⟨y1, h1⟩, ⟨y2, h2⟩, _⟩ := he
  rw [(by kernel_rfl : Try.prog.cellsOf 3 = 1)] at h0
  rw [(by kernel_rfl : Try.prog.cellsOf 9 = 1)] at h1 h2
  obtain ⟨r, e0, w0⟩ := qEm Try.underlying3 h0
  obtain ⟨s, e1, w1⟩ := zGc Try.underlying9 h1
  obtain ⟨t, e2, w2⟩ := zGc Try.underlying9 h2
  match cs, hl2 with
  | [a, b, c], _ =>
   have e0' : [a] = _ := e0
   have e1' : [b] = _ := e1
   have e2' : [c] = _ := e2
   cases e0'
   cases e1'
   cases e2'
   exact ⟨r, s, t, rfl⟩
end
end Go.Proofs.Ytbcpcjofkfgjoaa
end
section
namespace Go.Proofs.Ytbcpcjofkfgjoaa
set_option maxRecDepth 100000
section
variable {T : Env} {fr : List AV} {h : List AB}
def itr (l : List UInt8) (pos : Nat) : AB := .iter ⟨l.toArray⟩ pos
theorem Yq6 (x : Opd) : opR T (.rng x) fr h = (match x.ev fr with
  | .s l => some (.p h.length 0, h ++ [itr l 0])
  | _ => none) := _root_.id rfl
noncomputable def nxV (h : List AB) (v : AV) : Option (AV × List AB) := match v with
 | .p id 0 => match h[id]? with
  | some (.iter s pos) => if pos < s.size then some (.tu [.b true, .i .i64 (pos : Int), .i .i32 ((Utf8.decode s pos).1 : Int)], h.set id (.iter s (pos + (Utf8.decode s pos).2))) else some (.tu [.b false], h)
  | _ => none
 | _ => none
theorem YaU (x : Opd) : opR T (.nxt x) fr h = nxV h (x.ev fr) := by
 show nxV h (x.ev fr) = _
 rfl
theorem Zk2 (L : List AB) (k : Nat) (l : List UInt8) (pos : Nat) (hb : L[k]? = some (itr l pos)) : nxV (h ++ L) (.p (h.length + k) 0) = if pos < l.length then some (.tu [.b true, .i .i64 (pos : Int), .i .i32 ((Utf8.decode ⟨l.toArray⟩ pos).1 : Int)], h ++ L.set k (itr l (pos + (Utf8.decode ⟨l.toArray⟩ pos).2))) else some (.tu [.b false], h ++ L) := by
 have hg : (h ++ L)[h.length + k]? = some (.iter ⟨l.toArray⟩ pos) := by
  rw [List.getElem?_append_right (by omega), Nat.add_sub_cancel_left]
  exact hb
 have hs : (⟨l.toArray⟩ : ByteArray).size = l.length := by simp [ByteArray.size]
 simp only [nxV, hg, hs]
 rw [List.set_append_right _ _ (by omega), Nat.add_sub_cancel_left]
 rfl
def bixV (l : List UInt8) (n : Int) : Int := match (List.range l.length).find? fun i => (⟨l.toArray⟩ : ByteArray)[i]! == UInt8.ofNat n.toNat with
 | some i => (i : Int)
 | none => -1
theorem Xvg (x y : Opd) : opR T (.bix x y) fr h = (match x.ev fr, y.ev fr with
  | .s l, .i .u8 n => some (.i .i64 (bixV l n), h)
  | _, _ => none) := _root_.id rfl
end
theorem JDq {l : List UInt8} {pos : Nat} (h : pos < l.length) (ha : (l[pos]).toNat < 128) : Utf8.decode ⟨l.toArray⟩ pos = ((l[pos]).toNat, 1) := by
 have hs : pos < (⟨l.toArray⟩ : ByteArray).size := by simpa [ByteArray.size] using h
 exact decode_ascii ⟨l.toArray⟩ pos hs ha
def ixsV (x i : AV) : Option AV := match x, i with
 | .s l, .i _ n => if 0 ≤ n then (l[n.toNat]?).map fun b : UInt8 => .i .u8 (b.toNat : Int) else none
 | _, _ => none
theorem K0O {T : Env} {fr : List AV} {h : List AB} (x i : Opd) : opR T (.ixs x i) fr h = (ixsV (x.ev fr) (i.ev fr)).map (·, h) := by
 show (match x.ev fr, i.ev fr with
  | .s l, .i _ n => if 0 ≤ n then (l[n.toNat]?).map fun b : UInt8 => (AV.i .u8 (b.toNat : Int), h) else none
  | _, _ => none) = _
 unfold ixsV
 split
 ·split
  ·rw [Option.map_map]; rfl
  ·rfl
 ·rfl
theorem QK1 {l : List UInt8} {n : Nat} (k : IntKind) (h : n < l.length) : ixsV (.s l) (.i k (n : Int)) = some (.i .u8 ((l.getD n 0).toNat : Int)) := by
 unfold ixsV
 dsimp only
 rw [if_pos (by omega), Int.toNat_natCast, List.getElem?_eq_getElem h, List.getD_eq_getElem?_getD, List.getElem?_eq_getElem h]
 rfl
theorem Xc6 {l : List UInt8} {n : Nat} (k : IntKind) (h : n ≤ l.length) : slS l none (some (.i k (n : Int))) = some (.s (l.take n)) := by
 simp only [slS, bnd]
 rw [if_pos (by omega)]
 simp
theorem YdV {l : List UInt8} {n : Nat} (k : IntKind) (h : n ≤ l.length) : slS l (some (.i k (n : Int))) none = some (.s (l.drop n)) := by
 simp only [slS, bnd, Option.bind_some]
 rw [if_pos (by omega)]
 simp
theorem ZBA {l : List UInt8} {n m : Nat} (k k' : IntKind) (h : n ≤ m) (h2 : m ≤ l.length) : slS l (some (.i k (n : Int))) (some (.i k' (m : Int))) = some (.s ((l.take m).drop n)) := by
 simp only [slS, bnd]
 rw [if_pos (by omega), Option.bind_some, Int.toNat_natCast, if_pos (by omega)]
 simp
theorem qjR {T : Env} {fr : List AV} {h : List AB} (x : Opd) (lo hi : Option Opd) : opR T (.sls x lo hi) fr h = (match x.ev fr with
  | .s l => (slS l (lo.map (Opd.ev fr)) (hi.map (Opd.ev fr))).map (·, h)
  | _ => none) := _root_.id rfl
end Go.Proofs.Ytbcpcjofkfgjoaa
end
