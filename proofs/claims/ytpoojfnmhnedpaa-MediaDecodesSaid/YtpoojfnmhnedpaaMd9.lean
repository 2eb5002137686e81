/- Part 9 of what the laws' proofs rest on. No condition. -/
import Derived.Test.YtpoojfnmhnedpaaMd8
set_option linter.all false
section
namespace Go.Proofs.Ytpoojfnmhnedpaa
open Go.RowKit
section
variable {T : Env} {fr : List AV} {h : List AB} {α : Type} {r : Row α}
def rsl (r : Row α) (id : Nat) (l : List α) : AV := if l.length = 0 then .sl id 0 0 0 (some 0) else .sl id 0 l.length l.length (some r.sz)
def resB (r : Row α) (m : Bool) (l : List α) : AB := if l.length = 0 then .dead else .blk true m (r.cells l)
theorem X2b (id : Nat) (l : List α) : (rsl r id l).isSl = true := by unfold rsl; split <;> rfl
theorem ZsL (id : Nat) (l : List α) : (rsl r id l).isStr = false := zuq (X2b id l)
theorem JUY (id : Nat) (l : List α) : (rsl r id l).one = true := YWX (X2b id l)
theorem Xn6 (id : Nat) (l : List α) : (rsl r id l).known = true := QCP (X2b id l)
theorem Z63 (id : Nat) (l : List α) : (rsl r id l).cells = [rsl r id l] := KAM (X2b id l)
theorem QeR (id : Nat) (l : List α) : lenV (rsl r id l) = some (l.length : Int) := by
 unfold rsl
 split
 ·rename_i e; rw [e]; rfl
 ·rfl
theorem YAk (q : Nat → Bool) (id : Nat) (l : List α) (hq : q id = true) : (rsl r id l).ok q = true := by unfold rsl; split <;> simp [AV.ok, hq]
theorem qSu (f : Nat → Nat) (id : Nat) (l : List α) : (rsl r id l).ren f = rsl r (f id) l := by unfold rsl; split <;> simp [AV.ren]
theorem z2s (id : Nat) (l : List α) : idOf (rsl r id l) = [id] := by unfold rsl; split <;> rfl
theorem Q2t : lenV .ns = some 0 := _root_.id rfl
theorem qeG (m : Bool) (l : List α) : (resB r m l).freeze = resB r false l := by unfold resB; split <;> rfl
theorem Kta (q : Nat → Bool) (m : Bool) (l : List α) : (resB r m l).ok q = true := by unfold resB; split <;> rfl
def ownR (r : Row α) (l : List α) : List AB → Nat → Prop
 | [], _ => False
 | B :: _, 0 => ∃ m, B = resB r m l
 | _ :: L, k + 1 => ownR r l L k
theorem KkW (m : Bool) (l : List α) (L : List AB) : ownR r l (resB r m l :: L) 0 = True := eq_true ⟨m, rfl⟩
theorem QI0 (l : List α) (B : AB) (L : List AB) (k : Nat) : ownR r l (B :: L) (k + 1) = ownR r l L k := _root_.id rfl
theorem JHg (l : List α) : ∀ (L : List AB) (k : Nat), ownR r l L k → ∃ m, L[k]? = some (resB r m l)
 | [], _, e => e.elim
 | B :: _, 0, ⟨m, e⟩ => ⟨m, by rw [e]; rfl⟩
 | _ :: L, k + 1, e => by simpa using JHg l L k e
theorem ZeX {H : List AB} {id : Nat} {m : Bool} {l : List α} (e : H[id]? = some (resB r m l)) : rdS H r.sz (rsl r id l) = some (l.length, r.cells l) := by
 unfold rsl
 by_cases h0 : l.length = 0
 ·rw [if_pos h0]
  have : l = [] := List.eq_nil_of_length_eq_zero h0
  subst this
  simp [rdS, Row.cells]
 ·rw [if_neg h0]
  simp only [rdS]
  rw [if_neg h0]
  unfold resB at e
  rw [if_neg h0] at e
  simp only [Za2, e, Option.bind_some, Nat.zero_add, List.drop_zero, r.cells_len]
  rw [if_pos (Nat.le_refl _), List.take_of_length_le (by rw [r.cells_len]; exact Nat.le_refl _)]
theorem Y2R {H : List AB} {id : Nat} {m : Bool} {l : List α} (e : H[id]? = some (resB r m l)) (hl : l.length ≤ maxLen) : Rd r H (rsl r id l) l := ⟨ZeX e, hl⟩
theorem YOy (L : List AB) (k : Nat) : (h ++ L)[h.length + k]? = L[k]? := by rw [List.getElem?_append_right (by omega), Nat.add_sub_cancel_left]
theorem KY6 (L : List AB) (k : Nat) (l : List α) (e : ownR r l L k) (hl : l.length ≤ maxLen) : getS r (h ++ L) (rsl r (h.length + k) l) = some l := by
 obtain ⟨m, hm⟩ := JHg l L k e
 exact (Y2R (by rw [YOy]; exact hm) hl).get
theorem Yxx {sz : Nat} (hz : r.sz = sz) (id : Nat) (l : List α) (k : IntKind) (m : Int) : iadV sz (rsl r id l) (.i k m) = if 0 ≤ m ∧ m < (l.length : Int) then some (elP sz (rsl r id l) m.toNat 0) else none := by
 subst hz
 unfold rsl
 split
 ·rename_i h0
  simp only [iadV, h0, elP, Nat.add_zero]
 ·simp only [iadV, elP, Nat.add_zero]
theorem Qrz (o sz n j : Nat) (id : Nat) (l : List α) : fadV o (elP sz (rsl r id l) n j) = some (elP sz (rsl r id l) n (j + o)) := by
 unfold rsl
 split <;> simp [elP, fadV, Nat.add_assoc]
theorem zO5 (q : Nat → Bool) (id sz n j : Nat) (l : List α) (hq : q id = true) : (elP sz (rsl r id l) n j).ok q = true := by unfold rsl; split <;> simp [elP, AV.ok, hq]
theorem qkU {sz : Nat} (hz : r.sz = sz) (L : List AB) (k : Nat) (l : List α) (n : Nat) (e : ownR r l L k) (hn : n < l.length) : ldV (h ++ L) (some sz) (elP sz (rsl r (h.length + k) l) n 0) = some (.ag (r.f (l.getD n r.d))) := by
 subst hz
 obtain ⟨m, hm⟩ := JHg l L k e
 have hb : Za2 (h ++ L) (h.length + k) = some (r.cells l) := by
  unfold Za2
  rw [YOy, hm]
  unfold resB
  rw [if_neg (by omega)]
 unfold rsl
 rw [if_neg (by omega)]
 have hlt : n * r.sz + r.sz ≤ l.length * r.sz := by
  have := Nat.mul_le_mul_right r.sz (show n + 1 ≤ l.length from hn)
  rw [Nat.add_mul] at this
  omega
 simp only [elP, ldV, hb, Option.bind_some, Nat.zero_add, Nat.add_zero]
 rw [if_pos (by rw [r.cells_len]; exact hlt)]
 congr 2
 refine List.ext_getElem? fun j => ?_
 rw [List.getElem?_take]
 split
 ·rename_i hj
  rw [← r.cells_get l n j hn hj, List.getElem?_drop]
 ·rename_i hj
  rw [List.getElem?_eq_none (by rw [r.len]; omega)]
theorem XFi {H : List AB} {sz : Nat} {s : AV} {x : Nat × List AV} (e : rdS H sz s = some x) : srcV H sz s = some x := by
 cases s <;> first | exact e | cases e
theorem Q1s {sz : Nat} (hz : r.sz = sz) (L : List AB) (k : Nat) (l : List α) (e : ownR r l L k) : srcV (h ++ L) sz (rsl r (h.length + k) l) = some (l.length, r.cells l) := by
 subst hz
 obtain ⟨m, hm⟩ := JHg l L k e
 exact XFi (ZeX (by rw [YOy]; exact hm))
theorem Rd.src {s : AV} {l : List α} (e : Rd r h s l) {sz : Nat} (hz : r.sz = sz) (x : List AB) : srcV (h ++ x) sz s = some (l.length, r.cells l) := by
 subst hz
 exact XFi (e.app x).1
theorem Wk.empty (id off id' off' c : Nat) (k : Option Nat) : Wk (.sl id off 0 0 (some 0)) (.sl id' off' 0 c k) := fun ρ v h => by
 cases h with
 | sl _ _ _ _ _ b o n cap' h h1 h2 h3 => exact .sz id off _ cap' h3 (fun e => nomatch e)
 | sz _ _ a c h hn => exact .sz id off a c h hn
theorem YZr (id : Nat) {l : List α} (h0 : l.length = 0) {v : AV} (hv : Wk (.sl id 0 0 0 (some 0)) v) : Wk (rsl r id l) v := by
 unfold rsl
 rw [if_pos h0]
 exact hv
theorem QQC (id : Nat) {l : List α} (h0 : l.length ≠ 0) : rsl r id l = .sl id 0 l.length l.length (some r.sz) := by
 unfold rsl
 rw [if_neg h0]
theorem YVd (m : Bool) {l : List α} (h0 : l.length ≠ 0) : resB r m l = .blk true m (r.cells l) := by
 unfold resB
 rw [if_neg h0]
theorem ZQ8 (m : Bool) {l : List α} (h0 : l.length = 0) : resB r m l = .dead := by
 unfold resB
 rw [if_pos h0]
theorem Bt.one {P : Program} {h L : List AB} {v : AV} {l : List α} (k : Nat) (hh : HOk h) (h0 : l.length = 0 → Wk (.sl h.length 0 0 0 (some 0)) v) (hk : k < L.length) (h1 : l.length ≠ 0 → v = .sl (h.length + k) 0 l.length l.length (some r.sz) ∧ L[k]? = some (.blk true true (r.cells l))) : Bt P h.length [v] (h ++ L) [rsl r h.length l] (h ++ [resB r true l]) := by
 by_cases e : l.length = 0
 ·refine Bt.trans (Bt.wk1 (YZr (r := r) h.length e (h0 e))) (Bt.sel [k] hh (by simp) ?_ ?_)
  ·refine ⟨⟨L[k], List.getElem?_eq_getElem hk, ?_⟩, trivial⟩
   rw [ZQ8 true e]
   trivial
  ·refine ⟨.inr ⟨YAk _ _ _ (by simp), ?_⟩, trivial⟩
   unfold rsl
   rw [if_pos e]
   exact Wk.empty _ _ _ _ _ _
 ·obtain ⟨rfl, hb⟩ := h1 e
  refine Bt.sel [k] hh (by simp) ⟨⟨_, hb, ?_⟩, trivial⟩ ⟨.inr ⟨YAk _ _ _ (by simp), ?_⟩, trivial⟩
  ·rw [YVd true e]
   exact ⟨fun _ => rfl, rfl⟩
  ·rw [qSu, QQC _ e]
   have : selN h.length [k] h.length = h.length + k := by simp [selN]
   rw [this]
   exact Wk.refl _
theorem Bt.one0 {P : Program} {h : List AB} {v : AV} {l : List α} (h0 : l.length = 0) (hv : Wk (.sl h.length 0 0 0 (some 0)) v) : Bt P h.length [v] (h ++ []) [rsl r h.length l] (h ++ [resB r true l]) := by
 rw [List.append_nil, ZQ8 true h0]
 exact Bt.trans (Bt.wk1 (YZr (r := r) h.length h0 hv)) (Bt.pad _ h 1)
theorem FnC.empty1 {P : Program} {g id off cap : Nat} {a : AV} {h' : List AB} (h1 : FnC P g [.ns] h a h') (h2 : FnC P g [.se] h a h') : FnC P g [.sl id off 0 cap (some 0)] h a h' := by
 refine ⟨h1.1, fun ρ w vals hr hv => ?_⟩
 obtain ⟨c, hc, h0⟩ := hv.get (j := 0) rfl
 have mk : ∀ x : AV, VR ρ x c → VL ρ [x] vals := fun x hx => ⟨hv.1, fun j b d hb hd => by
  cases j with
  | zero =>
   cases hb
   rw [hc] at hd
   cases hd
   exact hx
  | succ j => simp at hb⟩
 cases h0 with
 | sl _ _ _ _ _ b o n cap' _ _ _ h3 => exact h2.2 ρ w vals hr (mk .se (.se _ _ h3))
 | sz _ _ ad c hcap hn =>
  cases ad with
  | none =>
   obtain rfl := hn rfl
   exact h1.2 ρ w vals hr (mk .ns .ns)
  | some ad => exact h2.2 ρ w vals hr (mk .se (.se _ _ hcap))
theorem Z0X (n : Bool) (x y : Opd) : opR T (.eqn n x y) fr h = (Jx6 (x.ev fr) (y.ev fr)).map fun r => (.b (r ^^ n), h) := _root_.id rfl
theorem q6X : Jx6 .ns .ns = some true := _root_.id rfl
theorem YJK : Jx6 .se .ns = some false := _root_.id rfl
theorem ZVu (id off n c : Nat) (k : Option Nat) : Jx6 (.sl id off n c k) .ns = if n = 0 ∧ k = some 0 then none else some false := _root_.id rfl
theorem Yn3 : AV.ns.isStr = false := _root_.id rfl
theorem QGi : AV.se.isStr = false := _root_.id rfl
theorem K2C (a b c d : Nat) (k : Option Nat) : (AV.sl a b c d k).isStr = false := _root_.id rfl
theorem Q13 (q : Nat → Bool) (f : Nat → Nat) (m : Bool) (l : List α) : BWk q f (resB r m l) (resB r m l) = True := by
 unfold resB
 split
 ·exact eq_true trivial
 ·exact eq_true ⟨fun z => z, rfl⟩
theorem QtM (q : Nat → Bool) (f : Nat → Nat) (m' m : Bool) (xs' xs : List AV) : BWk q f (.blk true m' xs') (.blk true m xs) = ((m' = true → m = true) ∧ xs' = xs) := _root_.id rfl
theorem Jg8 (q : Nat → Bool) (f : Nat → Nat) (m' m : Bool) (xs' xs : List AV) : BWk q f (.blk false m' xs') (.blk false m xs) = ((m' = true → m = true) ∧ okL q xs' = true ∧ WkL (renL f xs') xs) := _root_.id rfl
theorem K7l (q : Nat → Bool) (f : Nat → Nat) (B : AB) : BWk q f .dead B = True := by cases B <;> rfl
theorem JMR (q : Nat → Bool) (f : Nat → Nat) (st' st : LoopState) (pd' pd : XE) (fr' fr : List AV) (ps' ps : List Nat) (a' a b' b : CC) : BWk q f (.lp st' pd' fr' ps' a' b') (.lp st pd fr ps a b) = ((st' = st ∧ pd' = pd ∧ ps' = ps ∧ a' = a ∧ b' = b) ∧ okL q fr' = true ∧ WkL (renL f fr') fr) := _root_.id rfl
theorem Qy0 (q : Nat → Bool) (id : Nat) (l : List α) (hq : q id = true) : (rsl r id l).ok q = True := eq_true (YAk q id l hq)
theorem Jxq (p k : Nat) (sel : List Nat) : selN p sel (p + k) = p + sel.getD k 0 := YiF k
theorem KAL (p : Nat) (sel : List Nat) : selN p sel p = p + sel.getD 0 0 := YiF (p := p) 0
theorem nd_0 (a : Nat) (l : List Nat) : (a :: l).getD 0 0 = a := _root_.id rfl
theorem nd_s (a : Nat) (l : List Nat) (k : Nat) : (a :: l).getD (k + 1) 0 = l.getD k 0 := by simp
theorem qLz : intR.sz = 1 := _root_.id rfl
theorem Xvd : dotR.sz = 2 := _root_.id rfl
theorem zgv : r.cells [] = [] := _root_.id rfl
theorem Q7Z (k : IntKind) (n : Int) : (AV.i k n).known = true := _root_.id rfl
theorem KeR (x : Bool) : (AV.b x).known = true := _root_.id rfl
theorem qrG (x : List UInt8) : (AV.s x).known = true := _root_.id rfl
theorem zun (a b : Nat) : (AV.p a b).known = true := _root_.id rfl
theorem QcJ : AV.ns.known = true := _root_.id rfl
theorem JS1 (a b c d : Nat) (k : Option Nat) : (AV.sl a b c d k).known = true := _root_.id rfl
theorem Yi6 (f : Fn) (a b : List AV) : (AV.f f a b).known = true := _root_.id rfl
theorem YkC (l : List AV) : (AV.ag l).known = true := _root_.id rfl
def chkI : Nat → Option (List AV) → Bool
 | 0, some [] => true
 | n + 1, some (.i .i64 _ :: l) => chkI n (some l)
 | _, _ => false
def valI : Option (List AV) → List Int
 | some (.i _ a :: l) => a :: valI (some l)
 | _ => []
theorem zog : chkI 0 (some []) = true := by simp [chkI]
theorem zd1 (n : Nat) (a : Int) (l : List AV) : chkI (n + 1) (some (.i .i64 a :: l)) = chkI n (some l) := by simp [chkI]
theorem qAm : valI (some []) = [] := by simp [valI]
theorem q50 (k : IntKind) (a : Int) (l : List AV) : valI (some (.i k a :: l)) = a :: valI (some l) := by simp [valI]
theorem qYf : ∀ (n : Nat) (l : List AV), chkI n (some l) = true → l = intR.cells (valI (some l)) ∧ (valI (some l)).length = n
 | 0, [], _ => by simp [valI, zgv]
 | 0, _ :: _, e => by simp [chkI] at e
 | n + 1, [], e => by simp [chkI] at e
 | n + 1, .i .i64 a :: l, e => by
  rw [zd1] at e
  obtain ⟨h1, h2⟩ := qYf n l e
  rw [q50]
  refine ⟨?_, by simp [h2]⟩
  simp only [Row.cells, List.flatMap_cons, YHD, List.cons_append, List.nil_append]
  congr 1
 | n + 1, .i .u8 _ :: _, e | n + 1, .i .u16 _ :: _, e | n + 1, .i .u32 _ :: _, e | n + 1, .i .u64 _ :: _, e | n + 1, .i .i8 _ :: _, e | n + 1, .i .i16 _ :: _, e | n + 1, .i .i32 _ :: _, e => by simp [chkI] at e
 | n + 1, .b _ :: _, e | n + 1, .s _ :: _, e | n + 1, .p _ _ :: _, e | n + 1, .np :: _, e | n + 1, .sl _ _ _ _ _ :: _, e | n + 1, .se :: _, e | n + 1, .ns :: _, e | n + 1, .f _ _ _ :: _, e | n + 1, .nf :: _, e | n + 1, .ifc _ _ :: _, e | n + 1, .ni :: _, e | n + 1, .ag _ :: _, e | n + 1, .tu _ :: _, e | n + 1, .top :: _, e | n + 1, .y _ :: _, e => by simp [chkI] at e
theorem QoQ (L : List AB) (k n c : Nat) (kk : Option Nat) (e : chkI n (ownC L k) = true) (hn : n ≤ 1000) : getS intR (h ++ L) (.sl (h.length + k) 0 n c kk) = some (valI (ownC L k)) := by
 refine Rd.get ⟨?_, ?_⟩
 ·cases hc : ownC L k with
  | none => rw [hc] at e; cases n <;> simp [chkI] at e
  | some l =>
   rw [hc] at e
   obtain ⟨h1, h2⟩ := qYf n l e
   have hb : Za2 (h ++ L) (h.length + k) = some l := by rw [YHH, hc]
   have hl : l.length = n := by rw [h1, Row.cells_len, h2]; exact Nat.mul_one n
   simp only [rdS, hb, Option.bind_some, Nat.zero_add, List.drop_zero, show intR.sz = 1 from rfl, Nat.mul_one, hl]
   split
   ·rename_i h0
    subst h0
    have : l = [] := List.eq_nil_of_length_eq_zero hl
    subst this
    simp [valI, zgv]
   ·rw [if_pos (Nat.le_refl _), List.take_of_length_le (by omega), ← h1, h2]
 ·cases hc : ownC L k with
  | none => simp [valI]
  | some l =>
   rw [hc] at e
   obtain ⟨h1, h2⟩ := qYf n l e
   rw [h2]
   unfold maxLen
   omega
theorem Bt.drop {P : Program} {h : List AB} {v a : AV} (L : List AB) (hh : HOk h) (e : v = a) (hok : v.ok (fun i => decide (i < h.length)) = true) : Bt P h.length [v] (h ++ L) [a] h := by
 subst e
 have := Bt.sel (P := P) (h := h) (l := L) (l' := []) (fr := [v]) (fr' := [v]) [] hh (by simp) trivial ⟨.inr ⟨hok, Wk.ren (fun i hi => Zat hi) hok⟩, trivial⟩
 rw [List.append_nil] at this
 exact this
theorem Bt.dropB {P : Program} {h : List AB} {x y : Bool} (L : List AB) (hh : HOk h) (e : x = y) : Bt P h.length [.b x] (h ++ L) [.b y] h := Bt.drop L hh (by rw [e]) (by simp [AV.ok])
def FinO (P : Program) (p : Nat) (o : Option AV) (h : List AB) (a : AV) (h' : List AB) : Prop := ∃ v, o = some v ∧ Bt P p [v] h [a] h'
theorem qMj {P : Program} {p : Nat} {v a : AV} {h' : List AB} : FinO P p (some v) h a h' = Bt P p [v] h [a] h' := by simp [FinO]
theorem Koy {P : Program} {p n : Nat} {sz : Option Nat} {a : AV} {h' : List AB} : (∃ v, resV fr h [RC.cell n sz] = some v ∧ Bt P p [v] h [a] h') = FinO P p (ldV h sz (pl fr n)) h a h' := by
 have e : resV fr h [RC.cell n sz] = ldV h sz (pl fr n) := by
  simp only [resV, XPj, YfD, zLs]
  cases ldV h sz (pl fr n) <;> rfl
 rw [e]
 rfl
theorem zEr {P : Program} {p n m : Nat} {sz : Option Nat} {a : AV} {h' : List AB} : (∃ v, resV fr h [RC.cell n sz, RC.t m] = some v ∧ Bt P p [v] h [a] h') = FinO P p ((ldV h sz (pl fr n)).map fun x => .tu [x, pl fr m]) h a h' := by
 have e : resV fr h [RC.cell n sz, RC.t m] = (ldV h sz (pl fr n)).map fun x => .tu [x, pl fr m] := by
  simp only [resV, XPj, YfD, zLs, Option.bind_some]
  cases ldV h sz (pl fr n) <;> rfl
 rw [e]
 rfl
def appW (H : List AB) (fl : Bool) (sz by_ : Nat) (s : AV) (m : Nat) (ys : List AV) : Option (AV × List AB) :=
 match s with
 | .ns => if m = 0 then some (.ns, H) else if m * by_ ≤ 140737488355328 ∧ m ≤ maxLen then some (.sl H.length 0 m m (some sz), H ++ [.blk fl true ys]) else none
 | .sl id off len cap k =>
  if m = 0 then some (.sl id off len cap k, H)
  else if len + m ≤ cap then (stB H id (off + len * sz) ys).map fun h' => (.sl id off (len + m) cap k, h')
  else match H[id]? with
   | some (.blk fl' mu xs) =>
    if fl' = fl ∧ off + len * sz ≤ xs.length ∧ (len + m) * by_ ≤ 140737488355328 ∧ len + m ≤ maxLen then
     if k = none then some (.sl H.length 0 (len + m) (len + m) (some sz), H ++ [.blk fl true ((xs.drop off).take (len * sz) ++ ys)])
     else if k = some sz ∧ sz ≠ 0 ∧ mu = true ∧ off + len * sz = xs.length then some (.sl H.length 0 (len + m) (len + m) (some sz), H.set id .dead ++ [.blk fl true (xs.drop off ++ ys)])
     else if k = some sz ∧ sz ≠ 0 ∧ mu = true then some (.sl H.length 0 (len + m) (len + m) (some sz), H.set id .dead ++ [.blk fl true ((xs.drop off).take (len * sz) ++ ys)])
     else none
    else none
   | _ => none
 | _ => none
theorem QY0 (H : List AB) (fl : Bool) (sz by_ : Nat) (s x : AV) : appV H fl sz by_ s x = (srcV H sz x).bind fun my => if my.2.all (wrOk fl) = true then appW H fl sz by_ s my.1 my.2 else none := _root_.id rfl
def flB (fl : Bool) : List AB → Nat → Prop
 | [], _ => False
 | B :: _, 0 => ∃ m xs, B = .blk fl m xs
 | _ :: L, k + 1 => flB fl L k
theorem XGt (fl m : Bool) (xs : List AV) (L : List AB) : flB fl (.blk fl m xs :: L) 0 = True := eq_true ⟨m, xs, rfl⟩
theorem ZGp (fl : Bool) (B : AB) (L : List AB) (k : Nat) : flB fl (B :: L) (k + 1) = flB fl L k := _root_.id rfl
theorem XJG (fl : Bool) : ∀ (L : List AB) (k : Nat), flB fl L k → ∃ m xs, L[k]? = some (.blk fl m xs)
 | [], _, e => e.elim
 | B :: _, 0, ⟨m, xs, e⟩ => ⟨m, xs, by rw [e]; rfl⟩
 | _ :: L, k + 1, e => by simpa using XJG fl L k e
theorem qIH (L : List AB) (k : Nat) (fl : Bool) (sz by_ m : Nat) (ys : List AV) (hb : flB fl L k) : appW (h ++ L) fl sz by_ (.sl (h.length + k) 0 0 0 none) m ys = if m = 0 then some (.sl (h.length + k) 0 0 0 none, h ++ L) else if m * by_ ≤ 140737488355328 ∧ m ≤ maxLen then some (.sl (h.length + L.length) 0 m m (some sz), h ++ (L ++ [.blk fl true ys])) else none := by
 obtain ⟨mu, xs, hx⟩ := XJG fl L k hb
 unfold appW
 dsimp only
 split
 ·rfl
 ·rename_i hm
  rw [if_neg (by omega), YOy, hx]
  simp only [true_and, Nat.zero_add, Nat.zero_mul, Nat.zero_le, List.take_zero, List.nil_append, if_true, List.length_append, List.append_assoc]
theorem Yke (L : List AB) (fl : Bool) (sz by_ m : Nat) (ys : List AV) : appW (h ++ L) fl sz by_ .ns m ys = if m = 0 then some (.ns, h ++ L) else if m * by_ ≤ 140737488355328 ∧ m ≤ maxLen then some (.sl (h.length + L.length) 0 m m (some sz), h ++ (L ++ [.blk fl true ys])) else none := by
 unfold appW
 simp only [List.length_append, List.append_assoc]
theorem J7d (l : List Int) : (intR.cells l).all (wrOk true) = true := by
 induction l with
 | nil => rfl
 | cons a l ih =>
  simp only [Row.cells, List.flatMap_cons, List.all_append] at ih ⊢
  rw [ih]
  rfl
theorem Yuw (l : List (Int × Int)) : (dotR.cells l).all (wrOk true) = true := by
 induction l with
 | nil => rfl
 | cons a l ih =>
  simp only [Row.cells, List.flatMap_cons, List.all_append] at ih ⊢
  rw [ih]
  rfl
def apS (r : Row α) (id : Nat) (l : List α) : AV := if l.length = 0 then .ns else .sl id 0 l.length l.length (some r.sz)
theorem Kxx (id : Nat) (l : List α) : Wk (rsl r id l) (apS r id l) := by
 unfold rsl apS
 split
 ·exact Wk.nil _ _
 ·exact Wk.refl _
theorem qQd (q : Nat → Bool) (id : Nat) (l : List α) (hq : q id = true) : (apS r id l).ok q = true := by unfold apS; split <;> simp [AV.ok, hq]
theorem JF3 (f : Nat → Nat) (id : Nat) (l : List α) : (apS r id l).ren f = apS r (f id) l := by unfold apS; split <;> simp [AV.ren]
theorem KRA (id : Nat) (l : List α) : (apS r id l).isSl = true := by unfold apS; split <;> rfl
theorem XbM (id : Nat) (l : List α) : lenV (apS r id l) = some (l.length : Int) := by
 unfold apS
 split
 ·rename_i e; rw [e]; rfl
 ·rfl
theorem qnP (id : Nat) : apS r id [] = .ns := _root_.id rfl
theorem ZLk (id : Nat) {l : List α} (h0 : l.length ≠ 0) : apS r id l = rsl r id l := by
 unfold apS rsl
 rw [if_neg h0, if_neg h0]
theorem qwD (id : Nat) (l : List α) : (apS r id l).isStr = false := zuq (KRA id l)
theorem JBL (id : Nat) (l : List α) : (apS r id l).one = true := YWX (KRA id l)
theorem JgR (id : Nat) (l : List α) : (apS r id l).known = true := QCP (KRA id l)
theorem zR1 (id : Nat) (l : List α) : (apS r id l).cells = [apS r id l] := KAM (KRA id l)
theorem qFt (id : Nat) (l : List α) (x : α) : apS r id (l ++ [x]) = .sl id 0 (l.length + 1) (l.length + 1) (some r.sz) := by
 unfold apS
 rw [if_neg (by simp), List.length_append]
 rfl
theorem XtT (m : Bool) (l : List α) (x : α) : resB r m (l ++ [x]) = .blk true m (r.cells l ++ r.f x) := by
 unfold resB
 rw [if_neg (by simp)]
 simp [Row.cells]
theorem KRx (d : Int × Int) : (d.1, d.2) = d := _root_.id rfl
theorem zWs (id : Nat) (x : α) : apS r id [x] = .sl id 0 1 1 (some r.sz) := _root_.id rfl
theorem qcf (m : Bool) (x : α) : resB r m [x] = .blk true m (r.f x) := by
 unfold resB
 rw [if_neg (by simp)]
 simp [Row.cells]
theorem zAb {id : Nat} {l l' : List α} {m m' : Bool} (h1 : apS r id l = apS r id l') (h2 : resB r m l = resB r m' l') : l = l' := by
 have hl : l.length = l'.length := by
  have := congrArg lenV h1
  have g : ∀ l : List α, lenV (apS r id l) = some (l.length : Int) := fun l => by
   unfold apS
   split
   ·rename_i e; rw [e]; rfl
   ·rfl
  rw [g, g] at this
  exact Int.ofNat_inj.1 (Option.some.inj this)
 by_cases h0 : l.length = 0
 ·have a1 : l = [] := List.length_eq_zero_iff.1 h0
  have a2 : l' = [] := List.length_eq_zero_iff.1 (by omega)
  rw [a1, a2]
 ·rw [YVd m h0, YVd m' (hl ▸ h0)] at h2
  simp only [AB.blk.injEq, true_and] at h2
  exact r.cells_inj l l' hl h2.2
def zhE : List AB → Nat → List AB
 | [], _ => []
 | _ :: L, 0 => .dead :: L
 | B :: L, k + 1 => B :: zhE L k
theorem zYL : ∀ (L : List AB) (k : Nat), zhE L k = L.set k .dead
 | [], k => by simp [zhE]
 | _ :: L, 0 => rfl
 | B :: L, k + 1 => by simp [zhE, zYL L k]
theorem zbi (B : AB) (L : List AB) : zhE (B :: L) 0 = .dead :: L := _root_.id rfl
theorem KhE (B : AB) (L : List AB) (k : Nat) : zhE (B :: L) (k + 1) = B :: zhE L k := _root_.id rfl
def ownM (r : Row α) (l : List α) : List AB → Nat → Prop
 | [], _ => False
 | B :: _, 0 => B = resB r true l
 | _ :: L, k + 1 => ownM r l L k
theorem QQN (l : List α) (L : List AB) : ownM r l (resB r true l :: L) 0 = True := eq_true rfl
theorem JHx (l : List α) (B : AB) (L : List AB) (k : Nat) : ownM r l (B :: L) (k + 1) = ownM r l L k := _root_.id rfl
theorem zq8 (l : List α) : ∀ (L : List AB) (k : Nat), ownM r l L k → L[k]? = some (resB r true l)
 | [], _, e => e.elim
 | B :: _, 0, e => by rw [show B = resB r true l from e]; rfl
 | _ :: L, k + 1, e => by simpa using zq8 l L k e
theorem Zqu {sz : Nat} (hz : r.sz = sz) (L : List AB) (k : Nat) (l : List α) (by_ m : Nat) (ys : List AV) (hb : ownM r l L k) (hm : m ≠ 0) (h1 : (l.length + m) * by_ ≤ 140737488355328) (h2 : l.length + m ≤ maxLen) :
  appW (h ++ L) true sz by_ (apS r (h.length + k) l) m ys = some (.sl (h.length + L.length) 0 (l.length + m) (l.length + m) (some sz), h ++ (zhE L k ++ [.blk true true (r.cells l ++ ys)])) := by
 subst hz
 have hx := zq8 l L k hb
 have hk : k < L.length := (List.getElem?_eq_some_iff.1 hx).1
 unfold apS
 by_cases h0 : l.length = 0
 ·rw [if_pos h0]
  have : l = [] := List.eq_nil_of_length_eq_zero h0
  subst this
  simp only [List.length_nil, Nat.zero_add] at h1 h2
  rw [Yke, if_neg hm, if_pos ⟨h1, h2⟩]
  rw [ZQ8 true rfl] at hx
  have hs : L.set k .dead = L := List.ext_getElem? fun i => by
   rw [List.getElem?_set]
   by_cases e : k = i
   ·subst e
    rw [if_pos rfl, if_pos hk, hx]
   ·rw [if_neg e]
  simp only [List.length_nil, Nat.zero_add, zgv, List.nil_append, zYL, hs]
 ·rw [if_neg h0]
  rw [YVd true h0] at hx
  unfold appW
  dsimp only
  rw [if_neg hm, if_neg (by omega), YOy, hx]
  simp only [true_and, Nat.zero_add, r.cells_len, Nat.le_refl, h1, h2, if_true, reduceCtorEq, if_false, List.drop_zero, List.length_append]
  rw [if_pos (by have := r.pos; exact ⟨by omega, trivial⟩), zYL, List.set_append_right _ _ (by omega), Nat.add_sub_cancel_left, List.append_assoc]
end
end Go.Proofs.Ytpoojfnmhnedpaa
end
section
namespace Go.Proofs.Ytpoojfnmhnedpaa
open Go.RowKit
def mksV (h : List AB) (fl : Bool) (z : List AV) (by_ : Nat) (le ca : AV) : Option (AV × List AB) :=
 match le, ca with
 | .i _ l, .i _ c => if 0 ≤ l ∧ l ≤ c ∧ (by_ : Int) * c ≤ 2 ^ 47 ∧ c ≤ maxLen then newB h fl ((List.replicate c.toNat z).flatten) (fun n => .sl n 0 l.toNat c.toNat none) else none
 | _, _ => none
theorem Kes {h : List AB} (L : List AB) (k off n cap sz : Nat) (kk : Option Nat) : srcV (h ++ L) sz (.sl (h.length + k) off n cap kk) = if n = 0 then some (0, []) else (ownC L k).bind fun xs => if off + n * sz ≤ xs.length then some (n, (xs.drop off).take (n * sz)) else none := by
 simp only [srcV, YHH]
theorem Y2K {h : List AB} (L : List AB) (k : Nat) (B : AB) : (h ++ L).set (h.length + k) B = h ++ L.set k B := by
 rw [List.set_append_right _ _ (by omega), Nat.add_sub_cancel_left]
theorem ZIE {α : Type} (a b : α) (l : List α) : (a :: l).set 0 b = b :: l := _root_.id rfl
theorem XxE {α : Type} (a b : α) (l : List α) (n : Nat) : (a :: l).set (n + 1) b = a :: l.set n b := _root_.id rfl
theorem JdU {h : List AB} {i : Nat} {xs : List AV} (e : Za2 h i = some xs) (L : List AB) : Za2 (h ++ L) i = some xs := by
 unfold Za2 at e ⊢
 split at e
 ·rename_i h2
  rw [List.getElem?_append_left (List.getElem?_eq_some_iff.1 h2).1, h2]
  exact e
 ·cases e
theorem JUT {h : List AB} {i : Nat} {xs : List AV} (e : Za2 h i = some xs) : i < h.length := by
 unfold Za2 at e
 split at e
 ·rename_i h2
  exact (List.getElem?_eq_some_iff.1 h2).1
 ·cases e
theorem Yx2 {h : List AB} {i : Nat} {xs : List AV} (e : Za2 h i = some xs) : (∀ L, Za2 (h ++ L) i = some xs) ∧ (∀ L o, ldV (h ++ L) none (.p i o) = xs[o]?) ∧ (∀ L o n, ldV (h ++ L) (some n) (.p i o) = if o + n ≤ xs.length then some (.ag ((xs.drop o).take n)) else none) ∧ (∀ c lo hi anc past, qOk (h.length + c) lo hi anc past i = true) ∧ (∀ c, (i < h.length + c) = True) ∧ (i < h.length) = True := by
 have hl := JUT e
 refine ⟨JdU e, fun L o => ?_, fun L o n => ?_, fun c lo hi anc past => Y9A (by omega), fun c => eq_true (by omega), eq_true hl⟩
 ·simp only [ldV, JdU e, Option.bind_some]
 ·simp only [ldV, JdU e, Option.bind_some]
theorem QHf {α : Type} (r : Row α) (h : List AB) : Rd r h .ns [] := ⟨rfl, Nat.zero_le _⟩
theorem JSC {α : Type} (r : Row α) (h : List AB) : getS r h .ns = some [] := (QHf r h).get
theorem zt2 (sz id off n c : Nat) (k : Option Nat) (kk : IntKind) (m : Int) : iadV sz (.sl id off n c k) (.i kk m) = if 0 ≤ m ∧ m < (n : Int) then some (.p id (off + m.toNat * sz)) else none := _root_.id rfl
theorem Z07 {T : Env} {fr : List AV} {h : List AB} (fl : Bool) (z : List AV) (by_ : Nat) (le ca : Opd) : opR T (.mks fl z by_ le ca) fr h = mksV h fl z by_ (le.ev fr) (ca.ev fr) := by
 show (match le.ev fr, ca.ev fr with
  | .i _ l, .i _ c => if 0 ≤ l ∧ l ≤ c ∧ (by_ : Int) * c ≤ 2 ^ 47 ∧ c ≤ maxLen then newB h fl ((List.replicate c.toNat z).flatten) (fun n => .sl n 0 l.toNat c.toNat none) else none
  | _, _ => none) = _
 rfl
theorem YsP (h : List AB) (fl : Bool) (z : List AV) (by_ : Nat) (k k' : IntKind) (l c : Int) : mksV h fl z by_ (.i k l) (.i k' c) = if 0 ≤ l ∧ l ≤ c ∧ (by_ : Int) * c ≤ 2 ^ 47 ∧ c ≤ maxLen then newB h fl ((List.replicate c.toNat z).flatten) (fun n => .sl n 0 l.toNat c.toNat none) else none := _root_.id rfl
def bxS (h : List AB) (i : Nat) : Option AV :=
 match h[i]? with
 | some (.blk false _ [v]) => some v
 | _ => none
def bxL : List AB → Nat → Option AV
 | [], _ => none
 | .blk false _ [v] :: _, 0 => some v
 | _ :: _, 0 => none
 | _ :: L, k + 1 => bxL L k
theorem QJn : ∀ (L : List AB) (k : Nat), bxS L k = bxL L k
 | [], k => by simp [bxS, bxL]
 | B :: L, 0 => by
  cases B with
  | blk fl m xs => cases fl <;> (cases xs with | nil => simp [bxS, bxL] | cons a l => cases l <;> simp [bxS, bxL])
  | _ => simp [bxS, bxL]
 | B :: L, k + 1 => by
  have := QJn L k
  have e : bxL (B :: L) (k + 1) = bxL L k := by
   cases B with
   | blk fl m xs => cases fl <;> (cases xs with | nil => rfl | cons a l => cases l <;> rfl)
   | _ => rfl
  rw [e, ← this]
  unfold bxS
  rw [List.getElem?_cons_succ]
theorem ze8 {h : List AB} (L : List AB) (k : Nat) : bxS (h ++ L) (h.length + k) = bxL L k := by
 rw [← QJn]
 unfold bxS
 rw [YOy]
theorem Jj9 (m : Bool) (v : AV) (L : List AB) : bxL (.blk false m [v] :: L) 0 = some v := _root_.id rfl
theorem YE8 (B : AB) (L : List AB) (k : Nat) : bxL (B :: L) (k + 1) = bxL L k := by
 cases B with
 | blk fl m xs => cases fl <;> (cases xs with | nil => rfl | cons a l => cases l <;> rfl)
 | _ => rfl
theorem QD4 (q : Nat → Bool) (st : LoopState) (pd : XE) (fr : List AV) (ps : List Nat) (a b : CC) : (AB.lp st pd fr ps a b).ok q = okL q fr := _root_.id rfl
section
variable {c : Ctx} {k : List IT} {fr : List AV} {h : List AB}
end
def J9a : List Pt → List Pt
 | [] => []
 | p :: l => ⟨p.k, p.lo, p.hi, [], []⟩ :: J9a l
theorem JTa : J9a [] = [] := _root_.id rfl
theorem ZYc (k lo hi : Nat) (rs ws : List Nat) (l : List Pt) : J9a (⟨k, lo, hi, rs, ws⟩ :: l) = ⟨k, lo, hi, [], []⟩ :: J9a l := _root_.id rfl
theorem ZkF (len0 lo hi anc : Nat) (past : List Pt) (id : Nat) : qOk len0 lo hi anc (J9a past) id = qOk len0 lo hi anc past id := by
 unfold qOk
 congr 1
 induction past with
 | nil => rfl
 | cons p l ih => simp only [J9a, List.any_cons, ih]
theorem q2n (len0 anc n : Nat) (past : List Pt) : seen len0 anc (J9a past) n = seen len0 anc past n := by
 unfold seen
 congr 1
 funext id
 exact ZkF len0 0 0 anc past id
theorem J9N {c : Ctx} {k : List IT} {fr : List AV} {h : List AB} {len0 n anc : Nat} {past : List Pt} {d : Option Nat} {l : List DOp} (ws : List Nat) (vs : List AV) (v : AV) (G : List AB) : W c (.dmk ws vs (some (v, G)) len0 n anc past d l :: k) fr h = (okL (fun i => decide (i < h.length)) vs = true ∧ HOk h ∧ past.all (qvA len0 anc past ws) = true ∧ (ws.all fun id => decide (id < h.length)) = true ∧ h.length ≤ G.length ∧ v.ok (qOk len0 h.length G.length anc past) = true ∧
      (ws.all fun id => (G.getD id .dead).ok (qOk len0 h.length G.length anc past)) = true ∧ ((G.drop h.length).all fun B => B.ok (qOk len0 h.length G.length anc past)) = true ∧
      W c (.drw len0 (n + 1) (⟨n, h.length, G.length, seen len0 anc (J9a past) h.length, ws⟩ :: past) l :: k) (put fr d v) (Jlh ws G 0 h)) := by
  rw [q2n]
  exact zZP ws vs v G
end Go.Proofs.Ytpoojfnmhnedpaa
end
section
namespace Go.Proofs.Ytpoojfnmhnedpaa
def Zsz := (And.intro (And.intro (And.intro (And.intro (And.intro (And.intro (And.intro @KR9 (And.intro @ZfR @KoJ)) (And.intro (And.intro @Q7I @JN4) (And.intro @KQu @KOi))) (And.intro (And.intro @XX4 (And.intro @Y6A @Zu4)) (And.intro (And.intro @Jcc @KcG) (And.intro @KVz @Ya0)))) (And.intro (And.intro (And.intro @Q3s (And.intro @zm6 @Qmz)) (And.intro (And.intro @QmH @quC) (And.intro @QnC @YZx))) (And.intro (And.intro (And.intro @KrA @W_op) (And.intro @YHM @z8t)) (And.intro (And.intro @Kjz @KEd) (And.intro @Jt8 @QZt))))) (And.intro (And.intro (And.intro (And.intro @zvP (And.intro @qFC @zlX)) (And.intro (And.intro @JLU @qcI) (And.intro @pl_0 @pl_s))) (And.intro (And.intro @zin (And.intro @zS2 @zYr)) (And.intro (And.intro @QTt @ev_t) (And.intro @ev_c @qyz)))) (And.intro (And.intro (And.intro @YQc (And.intro @ZsO @QvU)) (And.intro (And.intro @QH8 @YpF) (And.intro @zVp @qGo))) (And.intro (And.intro (And.intro @q4v @QQs) (And.intro @qVu @qAK)) (And.intro (And.intro @JnU @ZPc) (And.intro @YW8 @qNc)))))) (And.intro (And.intro (And.intro (And.intro (And.intro @qG0 (And.intro @Qa3 @KAq)) (And.intro (And.intro @XVr @QwR) (And.intro @qOP @zSG))) (And.intro (And.intro @Yjd (And.intro @YiQ @qxQ)) (And.intro (And.intro @XCv @Xo4) (And.intro @Qxt @YbM)))) (And.intro (And.intro (And.intro @XA6 (And.intro @znR @Xqj)) (And.intro (And.intro @QtG @q8v) (And.intro @qZ3 @qMb))) (And.intro (And.intro (And.intro @KgJ @ZMk) (And.intro @Yel @XH0)) (And.intro (And.intro @q1W @q45) (And.intro @Jt4 @Qem))))) (And.intro (And.intro (And.intro (And.intro @Knv (And.intro @Tab.at_nil @Tab.at_cons)) (And.intro (And.intro @qvs @YNn) (And.intro @ZsF @YSa))) (And.intro (And.intro (And.intro @Ymz @QAx) (And.intro @XwE @Yqe)) (And.intro (And.intro @Xhv @zn1) (And.intro @X9r @YA6)))) (And.intro (And.intro (And.intro @ZMF (And.intro @KNJ @qx0)) (And.intro (And.intro @all_nil @all_cons) (And.intro @Yta @XHI))) (And.intro (And.intro (And.intro @zRU @ZwB) (And.intro @XcR @zQA)) (And.intro (And.intro @ZPO @Zvc) (And.intro @KaF @zJW))))))) (And.intro (And.intro (And.intro (And.intro (And.intro (And.intro @zle (And.intro @YOW @Xpm)) (And.intro (And.intro @Q9y @J5f) (And.intro @zJJ @Xt1))) (And.intro (And.intro @ZeV (And.intro @zBW @zzB)) (And.intro (And.intro @XiH @XWS) (And.intro @Ywj @ZmT)))) (And.intro (And.intro (And.intro @Yty (And.intro @q0j @qSr)) (And.intro (And.intro @XEz @qxp) (And.intro @Y5b @JiS))) (And.intro (And.intro (And.intro @Y51 @Za5) (And.intro @Yda @KMo)) (And.intro (And.intro @qVt @zSK) (And.intro @QyZ @q3K))))) (And.intro (And.intro (And.intro (And.intro @true_and (And.intro @and_true @true_implies)) (And.intro (And.intro @Bool.true_and @Bool.and_true) (And.intro @Bool.false_and @Bool.and_false))) (And.intro (And.intro (And.intro @Nat.lt_add_one @tp_0) (And.intro @tp_s @Yrh)) (And.intro (And.intro @QED @zw5) (And.intro @Yij @Int.cast_ofNat_Int)))) (And.intro (And.intro (And.intro @Int.natCast_inj (And.intro @Int.ofNat_lt @Int.ofNat_le)) (And.intro (And.intro @Int.toNat_natCast @Int.natCast_nonneg) (And.intro @not_false_eq_true @not_true_eq_false))) (And.intro (And.intro (And.intro @Bool.false_eq_true @ZsL) (And.intro @JUY @Xn6)) (And.intro (And.intro @Z63 @QeR) (And.intro @Qrz @qeG)))))) (And.intro (And.intro (And.intro (And.intro (And.intro @KkW (And.intro @QI0 @QY0)) (And.intro (And.intro @XGt @ZGp) (And.intro @qIH @Yke))) (And.intro (And.intro @J7d (And.intro @Yuw @zbi)) (And.intro (And.intro @KhE @QQN) (And.intro @JHx @XbM)))) (And.intro (And.intro (And.intro @Z0X (And.intro @q6X @YJK)) (And.intro (And.intro @Yn3 @QGi) (And.intro @K2C @Yw5))) (And.intro (And.intro (And.intro @ZSK @KKA) (And.intro @Yaj @Qyg)) (And.intro (And.intro @zkc @qMj) (And.intro @Koy @zEr))))) (And.intro (And.intro (And.intro (And.intro @Q7Z (And.intro @KeR @qrG)) (And.intro (And.intro @zun @QcJ) (And.intro @JS1 @Yi6))) (And.intro (And.intro (And.intro @YkC @QoQ) (And.intro @zog @zd1)) (And.intro (And.intro @qAm @q50) (And.intro @Y2K @ZIE)))) (And.intro (And.intro (And.intro @XxE (And.intro @Nat.add_assoc @ze8)) (And.intro (And.intro @Jj9 @YE8) (And.intro @YHH @JSC))) (And.intro (And.intro (And.intro @zt2 @Z07) (And.intro @YsP @qwD)) (And.intro (And.intro @JBL @JgR) (And.intro @zR1 @Q2t))))))))
def YmE := (And.intro (And.intro (And.intro (And.intro (And.intro @Q13 @qSu) (And.intro @JF3 (And.intro @Jxq @KAL))) (And.intro (And.intro @nd_0 (And.intro @nd_s @Qy0)) (And.intro @Yij (And.intro @zw5 @q0j)))) (And.intro (And.intro (And.intro @qSr (And.intro @decide_eq_true_eq @Bool.and_eq_true)) (And.intro @Bool.and_true (And.intro @Bool.true_and @Nat.lt_add_right_iff_pos))) (And.intro (And.intro @Nat.lt_add_one (And.intro @Nat.add_lt_add_iff_left @Nat.zero_lt_succ)) (And.intro @or_true (And.intro @true_or @and_true))))) (And.intro (And.intro (And.intro (And.intro @true_and @and_self) (And.intro @Nat.zero_add (And.intro @Nat.add_zero @false_or))) (And.intro (And.intro @QtM (And.intro @Jg8 @K7l)) (And.intro @JMR (And.intro @QED @Yrh)))) (And.intro (And.intro (And.intro @imp_self (And.intro @qLz @Xvd)) (And.intro @YHD (And.intro @KsL @decide_true))) (And.intro (And.intro @Bool.or_true (And.intro @KRx @qnP)) (And.intro @zWs (And.intro @qcf @Nat.lt_irrefl))))))
def quq := (And.intro (And.intro (And.intro @ZuP @Kn6) (And.intro @qFI (And.intro @XRm @Kes))) (And.intro (And.intro @KY6 @qbZ) (And.intro @zCl (And.intro @Xkq @Zi9))))
end Go.Proofs.Ytpoojfnmhnedpaa
end
section
namespace Go.Proofs.Ytpoojfnmhnedpaa
open Go.RowKit
section
variable {T : Env} {fr : List AV} {h : List AB} {p : Nat}
theorem QjP (hp : h.length = p) (l : List AB) (k o : Nat) : ldV (h ++ l) none (.p (p + k) o) = (ownC l k).bind fun xs => xs[o]? := by subst hp; exact ZuP l k o
theorem Yzo (hp : h.length = p) (l : List AB) (k o n : Nat) : ldV (h ++ l) (some n) (.p (p + k) o) = (ownC l k).bind fun xs => if o + n ≤ xs.length then some (.ag ((xs.drop o).take n)) else none := by subst hp; exact Kn6 l k o n
theorem qA4 (hp : h.length = p) (l : List AB) (k o : Nat) (v : AV) : stV (h ++ l) none (.p (p + k) o) v = if v.one = true then (ownW l k o [v]).map (h ++ ·) else none := by subst hp; exact qFI l k o v
theorem ZMj (hp : h.length = p) (l : List AB) (k o n : Nat) (vs : List AV) : stV (h ++ l) (some n) (.p (p + k) o) (.ag vs) = if vs.length = n then (ownW l k o vs).map (h ++ ·) else none := by subst hp; exact XRm l k o n vs
theorem zWS (hp : h.length = p) (L : List AB) (k off n cap sz : Nat) (kk : Option Nat) : srcV (h ++ L) sz (.sl (p + k) off n cap kk) = if n = 0 then some (0, []) else (ownC L k).bind fun xs => if off + n * sz ≤ xs.length then some (n, (xs.drop off).take (n * sz)) else none := by subst hp; exact Kes L k off n cap sz kk
theorem qwd {α : Type} {r : Row α} (hp : h.length = p) {sz : Nat} (hz : r.sz = sz) (L : List AB) (k : Nat) (l : List α) (by_ m : Nat) (ys : List AV) (hb : ownM r l L k) (hm : m ≠ 0) (h1 : (l.length + m) * by_ ≤ 140737488355328) (h2 : l.length + m ≤ maxLen) :
  appW (h ++ L) true sz by_ (apS r (p + k) l) m ys = some (.sl (p + L.length) 0 (l.length + m) (l.length + m) (some sz), h ++ (zhE L k ++ [.blk true true (r.cells l ++ ys)])) := by subst hp; exact Zqu hz L k l by_ m ys hb hm h1 h2
theorem qK0 {α : Type} {r : Row α} (hp : h.length = p) {sz : Nat} (hz : r.sz = sz) (L : List AB) (k : Nat) (l : List α) (by_ m : Nat) (ys : List AV) (h0 : l.length ≠ 0) (hb : ownM r l L k) (hm : m ≠ 0) (h1 : (l.length + m) * by_ ≤ 140737488355328) (h2 : l.length + m ≤ maxLen) :
  appW (h ++ L) true sz by_ (rsl r (p + k) l) m ys = some (.sl (p + L.length) 0 (l.length + m) (l.length + m) (some sz), h ++ (zhE L k ++ [.blk true true (r.cells l ++ ys)])) := by rw [← ZLk _ h0]; exact qwd hp hz L k l by_ m ys hb hm h1 h2
theorem znw {α : Type} {r : Row α} (hp : h.length = p) {sz : Nat} (hz : r.sz = sz) (L : List AB) (k : Nat) (l : List α) (n : Nat) (e : ownR r l L k) (hn : n < l.length) : ldV (h ++ L) (some sz) (elP sz (rsl r (p + k) l) n 0) = some (.ag (r.f (l.getD n r.d))) := by subst hp; exact qkU hz L k l n e hn
theorem K9v (hp : h.length = p) (l : List AB) (n : Nat) : (h ++ l).drop (p + n) = l.drop n := by subst hp; exact zCl l n
theorem ZIi (hp : h.length = p) (l : List AB) (n : Nat) : (h ++ l).getD (p + n) .dead = l.getD n .dead := by subst hp; exact Xkq l n
theorem XFh (hp : h.length = p) (c anc n : Nat) (past : List Pt) (ws : List Nat) (l : List AB) (hn : n = p + l.length) (hw : (ws.all fun id => decide (p ≤ id)) = true) : KPB (seen (p + c) anc past n) ws 0 (h ++ l) = h.map AB.freeze ++ mskL p c anc past ws 0 l := by
 subst hp
 have h1 : ∀ j, j < h.length → j ∉ ws := fun j hj hm => by
  have := List.all_eq_true.1 hw j hm
  simp only [decide_eq_true_eq] at this
  omega
 refine List.ext_getElem? fun i => ?_
 rw [X08, Nat.zero_add]
 by_cases hi : i < h.length
 ·rw [List.getElem?_append_left hi, List.getElem?_append_left (by rw [List.length_map]; exact hi), List.getElem?_map, List.getElem?_eq_getElem hi, Option.map_some, Option.map_some, if_neg (h1 i hi), if_pos]
  exact List.mem_filter.2 ⟨List.mem_range.2 (by omega), Y9A (by omega)⟩
 ·rw [List.getElem?_append_right (by omega), List.getElem?_append_right (by rw [List.length_map]; omega), List.length_map, JWu]
  cases hB : l[i - h.length]? with
  | none => rfl
  | some B =>
   have hlt := (List.getElem?_eq_some_iff.1 hB).1
   simp only [Option.map_some, Option.some.injEq, show h.length + (0 + (i - h.length)) = i by omega]
   by_cases hm : i ∈ ws
   ·rw [if_pos hm, if_pos (ZEY.2 hm)]
   ·rw [if_neg hm, if_neg (fun q => hm (ZEY.1 q))]
    by_cases hq : qOk (h.length + c) 0 0 anc past i = true
    ·rw [if_pos hq, if_pos]
     exact List.mem_filter.2 ⟨List.mem_range.2 (by omega), hq⟩
    ·rw [if_neg hq, if_neg]
     exact fun q => hq (List.mem_filter.1 q).2
theorem X1f (ws : List Nat) (G l : List AB) (hw : (ws.all fun id => decide (h.length ≤ id)) = true) : Jlh ws (h.map AB.freeze ++ G) 0 (h ++ l) = h ++ mrgL h.length ws 0 G l := by
 have h1 : ∀ j, j < h.length → j ∉ ws := fun j hj hm => by
  have := List.all_eq_true.1 hw j hm
  simp only [decide_eq_true_eq] at this
  omega
 refine List.ext_getElem? fun i => ?_
 rw [X6A, Nat.zero_add]
 by_cases hi : i < h.length
 ·rw [if_pos (by rw [List.length_append]; omega), if_neg (h1 i hi), List.getElem?_append_left hi, List.getElem?_append_left hi]
 ·have g1 : (h.map AB.freeze ++ G)[i]? = G[i - h.length]? := by rw [List.getElem?_append_right (by rw [List.length_map]; omega), List.length_map]
  rw [g1, List.getElem?_append_right (by omega), List.getElem?_append_right (by omega), ztn, List.length_append, show h.length + (0 + (i - h.length)) = i by omega]
  by_cases hl : i - h.length < l.length
  ·rw [if_pos hl, if_pos (by omega)]
  ·rw [if_neg hl, if_neg (by omega)]
end
end Go.Proofs.Ytpoojfnmhnedpaa
end
