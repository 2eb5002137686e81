/- Part 9 of what the laws' proofs rest on. No condition. -/
import Derived.Test.YtpoojfnmhnedpaaMe8
set_option linter.all false
section
namespace Go.Proofs.Ytpoojfnmhnedpaa
open Go.RowKit
section
variable {T : Env} {fr : List AV} {h : List AB} {α : Type} {r : Row α}
def rsl (r : Row α) (id : Nat) (l : List α) : AV := if l.length = 0 then .sl id 0 0 0 (some 0) else .sl id 0 l.length l.length (some r.sz)
def resB (r : Row α) (m : Bool) (l : List α) : AB := if l.length = 0 then .dead else .blk true m (r.cells l)
theorem zDg (id : Nat) (l : List α) : (rsl r id l).isSl = true := by unfold rsl; split <;> rfl
theorem qXw (id : Nat) (l : List α) : (rsl r id l).isStr = false := QYh (zDg id l)
theorem KSg (id : Nat) (l : List α) : (rsl r id l).one = true := zZE (zDg id l)
theorem QCM (id : Nat) (l : List α) : (rsl r id l).known = true := YGb (zDg id l)
theorem KOK (id : Nat) (l : List α) : (rsl r id l).cells = [rsl r id l] := K1L (zDg id l)
theorem Kzn (id : Nat) (l : List α) : lenV (rsl r id l) = some (l.length : Int) := by
 unfold rsl
 split
 ·rename_i e; rw [e]; rfl
 ·rfl
theorem XPo (q : Nat → Bool) (id : Nat) (l : List α) (hq : q id = true) : (rsl r id l).ok q = true := by unfold rsl; split <;> simp [AV.ok, hq]
theorem zsP (f : Nat → Nat) (id : Nat) (l : List α) : (rsl r id l).ren f = rsl r (f id) l := by unfold rsl; split <;> simp [AV.ren]
theorem JJ1 (id : Nat) (l : List α) : idOf (rsl r id l) = [id] := by unfold rsl; split <;> rfl
theorem q16 : lenV .ns = some 0 := _root_.id rfl
theorem qo8 (m : Bool) (l : List α) : (resB r m l).freeze = resB r false l := by unfold resB; split <;> rfl
theorem zcj (q : Nat → Bool) (m : Bool) (l : List α) : (resB r m l).ok q = true := by unfold resB; split <;> rfl
def ownR (r : Row α) (l : List α) : List AB → Nat → Prop
 | [], _ => False
 | B :: _, 0 => ∃ m, B = resB r m l
 | _ :: L, k + 1 => ownR r l L k
theorem QEy (m : Bool) (l : List α) (L : List AB) : ownR r l (resB r m l :: L) 0 = True := eq_true ⟨m, rfl⟩
theorem Xdu (l : List α) (B : AB) (L : List AB) (k : Nat) : ownR r l (B :: L) (k + 1) = ownR r l L k := _root_.id rfl
theorem Qdo (l : List α) : ∀ (L : List AB) (k : Nat), ownR r l L k → ∃ m, L[k]? = some (resB r m l)
 | [], _, e => e.elim
 | B :: _, 0, ⟨m, e⟩ => ⟨m, by rw [e]; rfl⟩
 | _ :: L, k + 1, e => by simpa using Qdo l L k e
theorem zN9 {H : List AB} {id : Nat} {m : Bool} {l : List α} (e : H[id]? = some (resB r m l)) : rdS H r.sz (rsl r id l) = some (l.length, r.cells l) := by
 unfold rsl
 by_cases h0 : l.length = 0
 ·rw [if_pos h0]
  have : l = [] := List.eq_nil_of_length_eq_zero h0
  subst this
  simp [rdS, Row.cells]
 ·rw [if_neg h0]
  simp only [rdS]
  rw [if_neg h0]
  unfold resB at e
  rw [if_neg h0] at e
  simp only [qhl, e, Option.bind_some, Nat.zero_add, List.drop_zero, r.cells_len]
  rw [if_pos (Nat.le_refl _), List.take_of_length_le (by rw [r.cells_len]; exact Nat.le_refl _)]
theorem zpN {H : List AB} {id : Nat} {m : Bool} {l : List α} (e : H[id]? = some (resB r m l)) (hl : l.length ≤ maxLen) : Rd r H (rsl r id l) l := ⟨zN9 e, hl⟩
theorem zSD (L : List AB) (k : Nat) : (h ++ L)[h.length + k]? = L[k]? := by rw [List.getElem?_append_right (by omega), Nat.add_sub_cancel_left]
theorem Z9G (L : List AB) (k : Nat) (l : List α) (e : ownR r l L k) (hl : l.length ≤ maxLen) : getS r (h ++ L) (rsl r (h.length + k) l) = some l := by
 obtain ⟨m, hm⟩ := Qdo l L k e
 exact (zpN (by rw [zSD]; exact hm) hl).get
theorem QON {sz : Nat} (hz : r.sz = sz) (id : Nat) (l : List α) (k : IntKind) (m : Int) : iadV sz (rsl r id l) (.i k m) = if 0 ≤ m ∧ m < (l.length : Int) then some (elP sz (rsl r id l) m.toNat 0) else none := by
 subst hz
 unfold rsl
 split
 ·rename_i h0
  simp only [iadV, h0, elP, Nat.add_zero]
 ·simp only [iadV, elP, Nat.add_zero]
theorem ZMF (o sz n j : Nat) (id : Nat) (l : List α) : fadV o (elP sz (rsl r id l) n j) = some (elP sz (rsl r id l) n (j + o)) := by
 unfold rsl
 split <;> simp [elP, fadV, Nat.add_assoc]
theorem zjM (q : Nat → Bool) (id sz n j : Nat) (l : List α) (hq : q id = true) : (elP sz (rsl r id l) n j).ok q = true := by unfold rsl; split <;> simp [elP, AV.ok, hq]
theorem QxQ {sz : Nat} (hz : r.sz = sz) (L : List AB) (k : Nat) (l : List α) (n : Nat) (e : ownR r l L k) (hn : n < l.length) : ldV (h ++ L) (some sz) (elP sz (rsl r (h.length + k) l) n 0) = some (.ag (r.f (l.getD n r.d))) := by
 subst hz
 obtain ⟨m, hm⟩ := Qdo l L k e
 have hb : qhl (h ++ L) (h.length + k) = some (r.cells l) := by
  unfold qhl
  rw [zSD, hm]
  unfold resB
  rw [if_neg (by omega)]
 unfold rsl
 rw [if_neg (by omega)]
 have hlt : n * r.sz + r.sz ≤ l.length * r.sz := by
  have := Nat.mul_le_mul_right r.sz (show n + 1 ≤ l.length from hn)
  rw [Nat.add_mul] at this
  omega
 simp only [elP, ldV, hb, Option.bind_some, Nat.zero_add, Nat.add_zero]
 rw [if_pos (by rw [r.cells_len]; exact hlt)]
 congr 2
 refine List.ext_getElem? fun j => ?_
 rw [List.getElem?_take]
 split
 ·rename_i hj
  rw [← r.cells_get l n j hn hj, List.getElem?_drop]
 ·rename_i hj
  rw [List.getElem?_eq_none (by rw [r.len]; omega)]
theorem Y5V {H : List AB} {sz : Nat} {s : AV} {x : Nat × List AV} (e : rdS H sz s = some x) : srcV H sz s = some x := by
 cases s <;> first | exact e | cases e
theorem QQ8 {sz : Nat} (hz : r.sz = sz) (L : List AB) (k : Nat) (l : List α) (e : ownR r l L k) : srcV (h ++ L) sz (rsl r (h.length + k) l) = some (l.length, r.cells l) := by
 subst hz
 obtain ⟨m, hm⟩ := Qdo l L k e
 exact Y5V (zN9 (by rw [zSD]; exact hm))
theorem Rd.src {s : AV} {l : List α} (e : Rd r h s l) {sz : Nat} (hz : r.sz = sz) (x : List AB) : srcV (h ++ x) sz s = some (l.length, r.cells l) := by
 subst hz
 exact Y5V (e.app x).1
theorem Wk.empty (id off id' off' c : Nat) (k : Option Nat) : Wk (.sl id off 0 0 (some 0)) (.sl id' off' 0 c k) := fun ρ v h => by
 cases h with
 | sl _ _ _ _ _ b o n cap' h h1 h2 h3 => exact .sz id off _ cap' h3 (fun e => nomatch e)
 | sz _ _ a c h hn => exact .sz id off a c h hn
theorem KRj (id : Nat) {l : List α} (h0 : l.length = 0) {v : AV} (hv : Wk (.sl id 0 0 0 (some 0)) v) : Wk (rsl r id l) v := by
 unfold rsl
 rw [if_pos h0]
 exact hv
theorem ZsQ (id : Nat) {l : List α} (h0 : l.length ≠ 0) : rsl r id l = .sl id 0 l.length l.length (some r.sz) := by
 unfold rsl
 rw [if_neg h0]
theorem ZZT (m : Bool) {l : List α} (h0 : l.length ≠ 0) : resB r m l = .blk true m (r.cells l) := by
 unfold resB
 rw [if_neg h0]
theorem Yk7 (m : Bool) {l : List α} (h0 : l.length = 0) : resB r m l = .dead := by
 unfold resB
 rw [if_pos h0]
theorem Bt.one {P : Program} {h L : List AB} {v : AV} {l : List α} (k : Nat) (hh : HOk h) (h0 : l.length = 0 → Wk (.sl h.length 0 0 0 (some 0)) v) (hk : k < L.length) (h1 : l.length ≠ 0 → v = .sl (h.length + k) 0 l.length l.length (some r.sz) ∧ L[k]? = some (.blk true true (r.cells l))) : Bt P h.length [v] (h ++ L) [rsl r h.length l] (h ++ [resB r true l]) := by
 by_cases e : l.length = 0
 ·refine Bt.trans (Bt.wk1 (KRj (r := r) h.length e (h0 e))) (Bt.sel [k] hh (by simp) ?_ ?_)
  ·refine ⟨⟨L[k], List.getElem?_eq_getElem hk, ?_⟩, trivial⟩
   rw [Yk7 true e]
   trivial
  ·refine ⟨.inr ⟨XPo _ _ _ (by simp), ?_⟩, trivial⟩
   unfold rsl
   rw [if_pos e]
   exact Wk.empty _ _ _ _ _ _
 ·obtain ⟨rfl, hb⟩ := h1 e
  refine Bt.sel [k] hh (by simp) ⟨⟨_, hb, ?_⟩, trivial⟩ ⟨.inr ⟨XPo _ _ _ (by simp), ?_⟩, trivial⟩
  ·rw [ZZT true e]
   exact ⟨fun _ => rfl, rfl⟩
  ·rw [zsP, ZsQ _ e]
   have : selN h.length [k] h.length = h.length + k := by simp [selN]
   rw [this]
   exact Wk.refl _
theorem Bt.one0 {P : Program} {h : List AB} {v : AV} {l : List α} (h0 : l.length = 0) (hv : Wk (.sl h.length 0 0 0 (some 0)) v) : Bt P h.length [v] (h ++ []) [rsl r h.length l] (h ++ [resB r true l]) := by
 rw [List.append_nil, Yk7 true h0]
 exact Bt.trans (Bt.wk1 (KRj (r := r) h.length h0 hv)) (Bt.pad _ h 1)
theorem FnC.empty1 {P : Program} {g id off cap : Nat} {a : AV} {h' : List AB} (h1 : FnC P g [.ns] h a h') (h2 : FnC P g [.se] h a h') : FnC P g [.sl id off 0 cap (some 0)] h a h' := by
 refine ⟨h1.1, fun ρ w vals hr hv => ?_⟩
 obtain ⟨c, hc, h0⟩ := hv.get (j := 0) rfl
 have mk : ∀ x : AV, VR ρ x c → VL ρ [x] vals := fun x hx => ⟨hv.1, fun j b d hb hd => by
  cases j with
  | zero =>
   cases hb
   rw [hc] at hd
   cases hd
   exact hx
  | succ j => simp at hb⟩
 cases h0 with
 | sl _ _ _ _ _ b o n cap' _ _ _ h3 => exact h2.2 ρ w vals hr (mk .se (.se _ _ h3))
 | sz _ _ ad c hcap hn =>
  cases ad with
  | none =>
   obtain rfl := hn rfl
   exact h1.2 ρ w vals hr (mk .ns .ns)
  | some ad => exact h2.2 ρ w vals hr (mk .se (.se _ _ hcap))
theorem ZG4 (n : Bool) (x y : Opd) : opR T (.eqn n x y) fr h = (K2G (x.ev fr) (y.ev fr)).map fun r => (.b (r ^^ n), h) := _root_.id rfl
theorem XAu : K2G .ns .ns = some true := _root_.id rfl
theorem Jdm : K2G .se .ns = some false := _root_.id rfl
theorem YCF (id off n c : Nat) (k : Option Nat) : K2G (.sl id off n c k) .ns = if n = 0 ∧ k = some 0 then none else some false := _root_.id rfl
theorem X2n : AV.ns.isStr = false := _root_.id rfl
theorem q9L : AV.se.isStr = false := _root_.id rfl
theorem ZG2 (a b c d : Nat) (k : Option Nat) : (AV.sl a b c d k).isStr = false := _root_.id rfl
theorem Ygp (q : Nat → Bool) (f : Nat → Nat) (m : Bool) (l : List α) : BWk q f (resB r m l) (resB r m l) = True := by
 unfold resB
 split
 ·exact eq_true trivial
 ·exact eq_true ⟨fun z => z, rfl⟩
theorem XPY (q : Nat → Bool) (f : Nat → Nat) (m' m : Bool) (xs' xs : List AV) : BWk q f (.blk true m' xs') (.blk true m xs) = ((m' = true → m = true) ∧ xs' = xs) := _root_.id rfl
theorem YTs (q : Nat → Bool) (f : Nat → Nat) (m' m : Bool) (xs' xs : List AV) : BWk q f (.blk false m' xs') (.blk false m xs) = ((m' = true → m = true) ∧ okL q xs' = true ∧ WkL (renL f xs') xs) := _root_.id rfl
theorem Xyz (q : Nat → Bool) (f : Nat → Nat) (B : AB) : BWk q f .dead B = True := by cases B <;> rfl
theorem Zpj (q : Nat → Bool) (f : Nat → Nat) (st' st : LoopState) (pd' pd : XE) (fr' fr : List AV) (ps' ps : List Nat) (a' a b' b : CC) : BWk q f (.lp st' pd' fr' ps' a' b') (.lp st pd fr ps a b) = ((st' = st ∧ pd' = pd ∧ ps' = ps ∧ a' = a ∧ b' = b) ∧ okL q fr' = true ∧ WkL (renL f fr') fr) := _root_.id rfl
theorem zjR (q : Nat → Bool) (id : Nat) (l : List α) (hq : q id = true) : (rsl r id l).ok q = True := eq_true (XPo q id l hq)
theorem ZjS (p k : Nat) (sel : List Nat) : selN p sel (p + k) = p + sel.getD k 0 := Qbt k
theorem KEV (p : Nat) (sel : List Nat) : selN p sel p = p + sel.getD 0 0 := Qbt (p := p) 0
theorem nd_0 (a : Nat) (l : List Nat) : (a :: l).getD 0 0 = a := _root_.id rfl
theorem nd_s (a : Nat) (l : List Nat) (k : Nat) : (a :: l).getD (k + 1) 0 = l.getD k 0 := by simp
theorem YGa : intR.sz = 1 := _root_.id rfl
theorem qeH : dotR.sz = 2 := _root_.id rfl
theorem YjU : r.cells [] = [] := _root_.id rfl
theorem Q9J (k : IntKind) (n : Int) : (AV.i k n).known = true := _root_.id rfl
theorem YEd (x : Bool) : (AV.b x).known = true := _root_.id rfl
theorem Knr (x : List UInt8) : (AV.s x).known = true := _root_.id rfl
theorem zns (a b : Nat) : (AV.p a b).known = true := _root_.id rfl
theorem JeE : AV.ns.known = true := _root_.id rfl
theorem YHh (a b c d : Nat) (k : Option Nat) : (AV.sl a b c d k).known = true := _root_.id rfl
theorem ZXY (f : Fn) (a b : List AV) : (AV.f f a b).known = true := _root_.id rfl
theorem X1c (l : List AV) : (AV.ag l).known = true := _root_.id rfl
def chkI : Nat → Option (List AV) → Bool
 | 0, some [] => true
 | n + 1, some (.i .i64 _ :: l) => chkI n (some l)
 | _, _ => false
def valI : Option (List AV) → List Int
 | some (.i _ a :: l) => a :: valI (some l)
 | _ => []
theorem Q9i : chkI 0 (some []) = true := by simp [chkI]
theorem qvD (n : Nat) (a : Int) (l : List AV) : chkI (n + 1) (some (.i .i64 a :: l)) = chkI n (some l) := by simp [chkI]
theorem K7j : valI (some []) = [] := by simp [valI]
theorem YxZ (k : IntKind) (a : Int) (l : List AV) : valI (some (.i k a :: l)) = a :: valI (some l) := by simp [valI]
theorem Q3d : ∀ (n : Nat) (l : List AV), chkI n (some l) = true → l = intR.cells (valI (some l)) ∧ (valI (some l)).length = n
 | 0, [], _ => by simp [valI, YjU]
 | 0, _ :: _, e => by simp [chkI] at e
 | n + 1, [], e => by simp [chkI] at e
 | n + 1, .i .i64 a :: l, e => by
  rw [qvD] at e
  obtain ⟨h1, h2⟩ := Q3d n l e
  rw [YxZ]
  refine ⟨?_, by simp [h2]⟩
  simp only [Row.cells, List.flatMap_cons, XVJ, List.cons_append, List.nil_append]
  congr 1
 | n + 1, .i .u8 _ :: _, e | n + 1, .i .u16 _ :: _, e | n + 1, .i .u32 _ :: _, e | n + 1, .i .u64 _ :: _, e | n + 1, .i .i8 _ :: _, e | n + 1, .i .i16 _ :: _, e | n + 1, .i .i32 _ :: _, e => by simp [chkI] at e
 | n + 1, .b _ :: _, e | n + 1, .s _ :: _, e | n + 1, .p _ _ :: _, e | n + 1, .np :: _, e | n + 1, .sl _ _ _ _ _ :: _, e | n + 1, .se :: _, e | n + 1, .ns :: _, e | n + 1, .f _ _ _ :: _, e | n + 1, .nf :: _, e | n + 1, .ifc _ _ :: _, e | n + 1, .ni :: _, e | n + 1, .ag _ :: _, e | n + 1, .tu _ :: _, e | n + 1, .top :: _, e | n + 1, .y _ :: _, e => by simp [chkI] at e
theorem ZtM (L : List AB) (k n c : Nat) (kk : Option Nat) (e : chkI n (ownC L k) = true) (hn : n ≤ 1000) : getS intR (h ++ L) (.sl (h.length + k) 0 n c kk) = some (valI (ownC L k)) := by
 refine Rd.get ⟨?_, ?_⟩
 ·cases hc : ownC L k with
  | none => rw [hc] at e; cases n <;> simp [chkI] at e
  | some l =>
   rw [hc] at e
   obtain ⟨h1, h2⟩ := Q3d n l e
   have hb : qhl (h ++ L) (h.length + k) = some l := by rw [Q9u, hc]
   have hl : l.length = n := by rw [h1, Row.cells_len, h2]; exact Nat.mul_one n
   simp only [rdS, hb, Option.bind_some, Nat.zero_add, List.drop_zero, show intR.sz = 1 from rfl, Nat.mul_one, hl]
   split
   ·rename_i h0
    subst h0
    have : l = [] := List.eq_nil_of_length_eq_zero hl
    subst this
    simp [valI, YjU]
   ·rw [if_pos (Nat.le_refl _), List.take_of_length_le (by omega), ← h1, h2]
 ·cases hc : ownC L k with
  | none => simp [valI]
  | some l =>
   rw [hc] at e
   obtain ⟨h1, h2⟩ := Q3d n l e
   rw [h2]
   unfold maxLen
   omega
theorem Bt.drop {P : Program} {h : List AB} {v a : AV} (L : List AB) (hh : HOk h) (e : v = a) (hok : v.ok (fun i => decide (i < h.length)) = true) : Bt P h.length [v] (h ++ L) [a] h := by
 subst e
 have := Bt.sel (P := P) (h := h) (l := L) (l' := []) (fr := [v]) (fr' := [v]) [] hh (by simp) trivial ⟨.inr ⟨hok, Wk.ren (fun i hi => zLb hi) hok⟩, trivial⟩
 rw [List.append_nil] at this
 exact this
theorem Bt.dropB {P : Program} {h : List AB} {x y : Bool} (L : List AB) (hh : HOk h) (e : x = y) : Bt P h.length [.b x] (h ++ L) [.b y] h := Bt.drop L hh (by rw [e]) (by simp [AV.ok])
def FinO (P : Program) (p : Nat) (o : Option AV) (h : List AB) (a : AV) (h' : List AB) : Prop := ∃ v, o = some v ∧ Bt P p [v] h [a] h'
theorem qoo {P : Program} {p : Nat} {v a : AV} {h' : List AB} : FinO P p (some v) h a h' = Bt P p [v] h [a] h' := by simp [FinO]
theorem QXi {P : Program} {p n : Nat} {sz : Option Nat} {a : AV} {h' : List AB} : (∃ v, resV fr h [RC.cell n sz] = some v ∧ Bt P p [v] h [a] h') = FinO P p (ldV h sz (pl fr n)) h a h' := by
 have e : resV fr h [RC.cell n sz] = ldV h sz (pl fr n) := by
  simp only [resV, XVF, KZq, ZOH]
  cases ldV h sz (pl fr n) <;> rfl
 rw [e]
 rfl
theorem JXV {P : Program} {p n m : Nat} {sz : Option Nat} {a : AV} {h' : List AB} : (∃ v, resV fr h [RC.cell n sz, RC.t m] = some v ∧ Bt P p [v] h [a] h') = FinO P p ((ldV h sz (pl fr n)).map fun x => .tu [x, pl fr m]) h a h' := by
 have e : resV fr h [RC.cell n sz, RC.t m] = (ldV h sz (pl fr n)).map fun x => .tu [x, pl fr m] := by
  simp only [resV, XVF, KZq, ZOH, Option.bind_some]
  cases ldV h sz (pl fr n) <;> rfl
 rw [e]
 rfl
def appW (H : List AB) (fl : Bool) (sz by_ : Nat) (s : AV) (m : Nat) (ys : List AV) : Option (AV × List AB) :=
 match s with
 | .ns => if m = 0 then some (.ns, H) else if m * by_ ≤ 140737488355328 ∧ m ≤ maxLen then some (.sl H.length 0 m m (some sz), H ++ [.blk fl true ys]) else none
 | .sl id off len cap k =>
  if m = 0 then some (.sl id off len cap k, H)
  else if len + m ≤ cap then (stB H id (off + len * sz) ys).map fun h' => (.sl id off (len + m) cap k, h')
  else match H[id]? with
   | some (.blk fl' mu xs) =>
    if fl' = fl ∧ off + len * sz ≤ xs.length ∧ (len + m) * by_ ≤ 140737488355328 ∧ len + m ≤ maxLen then
     if k = none then some (.sl H.length 0 (len + m) (len + m) (some sz), H ++ [.blk fl true ((xs.drop off).take (len * sz) ++ ys)])
     else if k = some sz ∧ sz ≠ 0 ∧ mu = true ∧ off + len * sz = xs.length then some (.sl H.length 0 (len + m) (len + m) (some sz), H.set id .dead ++ [.blk fl true (xs.drop off ++ ys)])
     else if k = some sz ∧ sz ≠ 0 ∧ mu = true then some (.sl H.length 0 (len + m) (len + m) (some sz), H.set id .dead ++ [.blk fl true ((xs.drop off).take (len * sz) ++ ys)])
     else none
    else none
   | _ => none
 | _ => none
theorem Koc (H : List AB) (fl : Bool) (sz by_ : Nat) (s x : AV) : appV H fl sz by_ s x = (srcV H sz x).bind fun my => if my.2.all (wrOk fl) = true then appW H fl sz by_ s my.1 my.2 else none := _root_.id rfl
def flB (fl : Bool) : List AB → Nat → Prop
 | [], _ => False
 | B :: _, 0 => ∃ m xs, B = .blk fl m xs
 | _ :: L, k + 1 => flB fl L k
theorem K3T (fl m : Bool) (xs : List AV) (L : List AB) : flB fl (.blk fl m xs :: L) 0 = True := eq_true ⟨m, xs, rfl⟩
theorem zo0 (fl : Bool) (B : AB) (L : List AB) (k : Nat) : flB fl (B :: L) (k + 1) = flB fl L k := _root_.id rfl
theorem X6O (fl : Bool) : ∀ (L : List AB) (k : Nat), flB fl L k → ∃ m xs, L[k]? = some (.blk fl m xs)
 | [], _, e => e.elim
 | B :: _, 0, ⟨m, xs, e⟩ => ⟨m, xs, by rw [e]; rfl⟩
 | _ :: L, k + 1, e => by simpa using X6O fl L k e
theorem ZjO (L : List AB) (k : Nat) (fl : Bool) (sz by_ m : Nat) (ys : List AV) (hb : flB fl L k) : appW (h ++ L) fl sz by_ (.sl (h.length + k) 0 0 0 none) m ys = if m = 0 then some (.sl (h.length + k) 0 0 0 none, h ++ L) else if m * by_ ≤ 140737488355328 ∧ m ≤ maxLen then some (.sl (h.length + L.length) 0 m m (some sz), h ++ (L ++ [.blk fl true ys])) else none := by
 obtain ⟨mu, xs, hx⟩ := X6O fl L k hb
 unfold appW
 dsimp only
 split
 ·rfl
 ·rename_i hm
  rw [if_neg (by omega), zSD, hx]
  simp only [true_and, Nat.zero_add, Nat.zero_mul, Nat.zero_le, List.take_zero, List.nil_append, if_true, List.length_append, List.append_assoc]
theorem K2e (L : List AB) (fl : Bool) (sz by_ m : Nat) (ys : List AV) : appW (h ++ L) fl sz by_ .ns m ys = if m = 0 then some (.ns, h ++ L) else if m * by_ ≤ 140737488355328 ∧ m ≤ maxLen then some (.sl (h.length + L.length) 0 m m (some sz), h ++ (L ++ [.blk fl true ys])) else none := by
 unfold appW
 simp only [List.length_append, List.append_assoc]
theorem qDg (l : List Int) : (intR.cells l).all (wrOk true) = true := by
 induction l with
 | nil => rfl
 | cons a l ih =>
  simp only [Row.cells, List.flatMap_cons, List.all_append] at ih ⊢
  rw [ih]
  rfl
theorem qke (l : List (Int × Int)) : (dotR.cells l).all (wrOk true) = true := by
 induction l with
 | nil => rfl
 | cons a l ih =>
  simp only [Row.cells, List.flatMap_cons, List.all_append] at ih ⊢
  rw [ih]
  rfl
def apS (r : Row α) (id : Nat) (l : List α) : AV := if l.length = 0 then .ns else .sl id 0 l.length l.length (some r.sz)
theorem Jiz (id : Nat) (l : List α) : Wk (rsl r id l) (apS r id l) := by
 unfold rsl apS
 split
 ·exact Wk.nil _ _
 ·exact Wk.refl _
theorem Jzn (q : Nat → Bool) (id : Nat) (l : List α) (hq : q id = true) : (apS r id l).ok q = true := by unfold apS; split <;> simp [AV.ok, hq]
theorem Y7l (f : Nat → Nat) (id : Nat) (l : List α) : (apS r id l).ren f = apS r (f id) l := by unfold apS; split <;> simp [AV.ren]
theorem Jlo (id : Nat) (l : List α) : (apS r id l).isSl = true := by unfold apS; split <;> rfl
theorem QHg (id : Nat) (l : List α) : lenV (apS r id l) = some (l.length : Int) := by
 unfold apS
 split
 ·rename_i e; rw [e]; rfl
 ·rfl
theorem Y7j (id : Nat) : apS r id [] = .ns := _root_.id rfl
theorem JeD (id : Nat) {l : List α} (h0 : l.length ≠ 0) : apS r id l = rsl r id l := by
 unfold apS rsl
 rw [if_neg h0, if_neg h0]
theorem YPo (id : Nat) (l : List α) : (apS r id l).isStr = false := QYh (Jlo id l)
theorem ZGp (id : Nat) (l : List α) : (apS r id l).one = true := zZE (Jlo id l)
theorem qdr (id : Nat) (l : List α) : (apS r id l).known = true := YGb (Jlo id l)
theorem Ywq (id : Nat) (l : List α) : (apS r id l).cells = [apS r id l] := K1L (Jlo id l)
theorem zAf (id : Nat) (l : List α) (x : α) : apS r id (l ++ [x]) = .sl id 0 (l.length + 1) (l.length + 1) (some r.sz) := by
 unfold apS
 rw [if_neg (by simp), List.length_append]
 rfl
theorem Qtn (m : Bool) (l : List α) (x : α) : resB r m (l ++ [x]) = .blk true m (r.cells l ++ r.f x) := by
 unfold resB
 rw [if_neg (by simp)]
 simp [Row.cells]
theorem Ycp (d : Int × Int) : (d.1, d.2) = d := _root_.id rfl
theorem KsF (id : Nat) (x : α) : apS r id [x] = .sl id 0 1 1 (some r.sz) := _root_.id rfl
theorem Ztp (m : Bool) (x : α) : resB r m [x] = .blk true m (r.f x) := by
 unfold resB
 rw [if_neg (by simp)]
 simp [Row.cells]
theorem XOa {id : Nat} {l l' : List α} {m m' : Bool} (h1 : apS r id l = apS r id l') (h2 : resB r m l = resB r m' l') : l = l' := by
 have hl : l.length = l'.length := by
  have := congrArg lenV h1
  have g : ∀ l : List α, lenV (apS r id l) = some (l.length : Int) := fun l => by
   unfold apS
   split
   ·rename_i e; rw [e]; rfl
   ·rfl
  rw [g, g] at this
  exact Int.ofNat_inj.1 (Option.some.inj this)
 by_cases h0 : l.length = 0
 ·have a1 : l = [] := List.length_eq_zero_iff.1 h0
  have a2 : l' = [] := List.length_eq_zero_iff.1 (by omega)
  rw [a1, a2]
 ·rw [ZZT m h0, ZZT m' (hl ▸ h0)] at h2
  simp only [AB.blk.injEq, true_and] at h2
  exact r.cells_inj l l' hl h2.2
def QIT : List AB → Nat → List AB
 | [], _ => []
 | _ :: L, 0 => .dead :: L
 | B :: L, k + 1 => B :: QIT L k
theorem JUo : ∀ (L : List AB) (k : Nat), QIT L k = L.set k .dead
 | [], k => by simp [QIT]
 | _ :: L, 0 => rfl
 | B :: L, k + 1 => by simp [QIT, JUo L k]
theorem QLJ (B : AB) (L : List AB) : QIT (B :: L) 0 = .dead :: L := _root_.id rfl
theorem Ksc (B : AB) (L : List AB) (k : Nat) : QIT (B :: L) (k + 1) = B :: QIT L k := _root_.id rfl
def ownM (r : Row α) (l : List α) : List AB → Nat → Prop
 | [], _ => False
 | B :: _, 0 => B = resB r true l
 | _ :: L, k + 1 => ownM r l L k
theorem YKt (l : List α) (L : List AB) : ownM r l (resB r true l :: L) 0 = True := eq_true rfl
theorem Qdp (l : List α) (B : AB) (L : List AB) (k : Nat) : ownM r l (B :: L) (k + 1) = ownM r l L k := _root_.id rfl
theorem qlS (l : List α) : ∀ (L : List AB) (k : Nat), ownM r l L k → L[k]? = some (resB r true l)
 | [], _, e => e.elim
 | B :: _, 0, e => by rw [show B = resB r true l from e]; rfl
 | _ :: L, k + 1, e => by simpa using qlS l L k e
theorem QUv {sz : Nat} (hz : r.sz = sz) (L : List AB) (k : Nat) (l : List α) (by_ m : Nat) (ys : List AV) (hb : ownM r l L k) (hm : m ≠ 0) (h1 : (l.length + m) * by_ ≤ 140737488355328) (h2 : l.length + m ≤ maxLen) :
  appW (h ++ L) true sz by_ (apS r (h.length + k) l) m ys = some (.sl (h.length + L.length) 0 (l.length + m) (l.length + m) (some sz), h ++ (QIT L k ++ [.blk true true (r.cells l ++ ys)])) := by
 subst hz
 have hx := qlS l L k hb
 have hk : k < L.length := (List.getElem?_eq_some_iff.1 hx).1
 unfold apS
 by_cases h0 : l.length = 0
 ·rw [if_pos h0]
  have : l = [] := List.eq_nil_of_length_eq_zero h0
  subst this
  simp only [List.length_nil, Nat.zero_add] at h1 h2
  rw [K2e, if_neg hm, if_pos ⟨h1, h2⟩]
  rw [Yk7 true rfl] at hx
  have hs : L.set k .dead = L := List.ext_getElem? fun i => by
   rw [List.getElem?_set]
   by_cases e : k = i
   ·subst e
    rw [if_pos rfl, if_pos hk, hx]
   ·rw [if_neg e]
  simp only [List.length_nil, Nat.zero_add, YjU, List.nil_append, JUo, hs]
 ·rw [if_neg h0]
  rw [ZZT true h0] at hx
  unfold appW
  dsimp only
  rw [if_neg hm, if_neg (by omega), zSD, hx]
  simp only [true_and, Nat.zero_add, r.cells_len, Nat.le_refl, h1, h2, if_true, reduceCtorEq, if_false, List.drop_zero, List.length_append]
  rw [if_pos (by have := r.pos; exact ⟨by omega, trivial⟩), JUo, List.set_append_right _ _ (by omega), Nat.add_sub_cancel_left, List.append_assoc]
end
end Go.Proofs.Ytpoojfnmhnedpaa
end
section
namespace Go.Proofs.Ytpoojfnmhnedpaa
open Go.RowKit
def mksV (h : List AB) (fl : Bool) (z : List AV) (by_ : Nat) (le ca : AV) : Option (AV × List AB) :=
 match le, ca with
 | .i _ l, .i _ c => if 0 ≤ l ∧ l ≤ c ∧ (by_ : Int) * c ≤ 2 ^ 47 ∧ c ≤ maxLen then newB h fl ((List.replicate c.toNat z).flatten) (fun n => .sl n 0 l.toNat c.toNat none) else none
 | _, _ => none
theorem JiW {h : List AB} (L : List AB) (k off n cap sz : Nat) (kk : Option Nat) : srcV (h ++ L) sz (.sl (h.length + k) off n cap kk) = if n = 0 then some (0, []) else (ownC L k).bind fun xs => if off + n * sz ≤ xs.length then some (n, (xs.drop off).take (n * sz)) else none := by
 simp only [srcV, Q9u]
theorem YFW {h : List AB} (L : List AB) (k : Nat) (B : AB) : (h ++ L).set (h.length + k) B = h ++ L.set k B := by
 rw [List.set_append_right _ _ (by omega), Nat.add_sub_cancel_left]
theorem JSj {α : Type} (a b : α) (l : List α) : (a :: l).set 0 b = b :: l := _root_.id rfl
theorem Y1u {α : Type} (a b : α) (l : List α) (n : Nat) : (a :: l).set (n + 1) b = a :: l.set n b := _root_.id rfl
theorem YuE {h : List AB} {i : Nat} {xs : List AV} (e : qhl h i = some xs) (L : List AB) : qhl (h ++ L) i = some xs := by
 unfold qhl at e ⊢
 split at e
 ·rename_i h2
  rw [List.getElem?_append_left (List.getElem?_eq_some_iff.1 h2).1, h2]
  exact e
 ·cases e
theorem Zxv {h : List AB} {i : Nat} {xs : List AV} (e : qhl h i = some xs) : i < h.length := by
 unfold qhl at e
 split at e
 ·rename_i h2
  exact (List.getElem?_eq_some_iff.1 h2).1
 ·cases e
theorem zW9 {h : List AB} {i : Nat} {xs : List AV} (e : qhl h i = some xs) : (∀ L, qhl (h ++ L) i = some xs) ∧ (∀ L o, ldV (h ++ L) none (.p i o) = xs[o]?) ∧ (∀ L o n, ldV (h ++ L) (some n) (.p i o) = if o + n ≤ xs.length then some (.ag ((xs.drop o).take n)) else none) ∧ (∀ c lo hi anc past, qOk (h.length + c) lo hi anc past i = true) ∧ (∀ c, (i < h.length + c) = True) ∧ (i < h.length) = True := by
 have hl := Zxv e
 refine ⟨YuE e, fun L o => ?_, fun L o n => ?_, fun c lo hi anc past => qcC (by omega), fun c => eq_true (by omega), eq_true hl⟩
 ·simp only [ldV, YuE e, Option.bind_some]
 ·simp only [ldV, YuE e, Option.bind_some]
theorem QKn {α : Type} (r : Row α) (h : List AB) : Rd r h .ns [] := ⟨rfl, Nat.zero_le _⟩
theorem Jpk {α : Type} (r : Row α) (h : List AB) : getS r h .ns = some [] := (QKn r h).get
theorem Ktj (sz id off n c : Nat) (k : Option Nat) (kk : IntKind) (m : Int) : iadV sz (.sl id off n c k) (.i kk m) = if 0 ≤ m ∧ m < (n : Int) then some (.p id (off + m.toNat * sz)) else none := _root_.id rfl
theorem Kjs {T : Env} {fr : List AV} {h : List AB} (fl : Bool) (z : List AV) (by_ : Nat) (le ca : Opd) : opR T (.mks fl z by_ le ca) fr h = mksV h fl z by_ (le.ev fr) (ca.ev fr) := by
 show (match le.ev fr, ca.ev fr with
  | .i _ l, .i _ c => if 0 ≤ l ∧ l ≤ c ∧ (by_ : Int) * c ≤ 2 ^ 47 ∧ c ≤ maxLen then newB h fl ((List.replicate c.toNat z).flatten) (fun n => .sl n 0 l.toNat c.toNat none) else none
  | _, _ => none) = _
 rfl
theorem KbL (h : List AB) (fl : Bool) (z : List AV) (by_ : Nat) (k k' : IntKind) (l c : Int) : mksV h fl z by_ (.i k l) (.i k' c) = if 0 ≤ l ∧ l ≤ c ∧ (by_ : Int) * c ≤ 2 ^ 47 ∧ c ≤ maxLen then newB h fl ((List.replicate c.toNat z).flatten) (fun n => .sl n 0 l.toNat c.toNat none) else none := _root_.id rfl
theorem Yz2 {α : Type} {r : Row α} {h L : List AB} {k c : Nat} {kk : Option Nat} {l : List α} (hb : ownC L k = some (r.cells l)) (hl : l.length ≤ maxLen) : Rd r (h ++ L) (.sl (h.length + k) 0 l.length c kk) l := by
 refine ⟨?_, hl⟩
 simp only [rdS, Q9u, hb, Option.bind_some, Nat.zero_add, List.drop_zero, r.cells_len]
 split
 ·rename_i h0
  rw [List.length_eq_zero_iff.1 h0]
  rfl
 ·rw [if_pos (Nat.le_refl _), List.take_of_length_le (by rw [r.cells_len]; exact Nat.le_refl _)]
def bxS (h : List AB) (i : Nat) : Option AV :=
 match h[i]? with
 | some (.blk false _ [v]) => some v
 | _ => none
def bxL : List AB → Nat → Option AV
 | [], _ => none
 | .blk false _ [v] :: _, 0 => some v
 | _ :: _, 0 => none
 | _ :: L, k + 1 => bxL L k
theorem qQT : ∀ (L : List AB) (k : Nat), bxS L k = bxL L k
 | [], k => by simp [bxS, bxL]
 | B :: L, 0 => by
  cases B with
  | blk fl m xs => cases fl <;> (cases xs with | nil => simp [bxS, bxL] | cons a l => cases l <;> simp [bxS, bxL])
  | _ => simp [bxS, bxL]
 | B :: L, k + 1 => by
  have := qQT L k
  have e : bxL (B :: L) (k + 1) = bxL L k := by
   cases B with
   | blk fl m xs => cases fl <;> (cases xs with | nil => rfl | cons a l => cases l <;> rfl)
   | _ => rfl
  rw [e, ← this]
  unfold bxS
  rw [List.getElem?_cons_succ]
theorem K05 {h : List AB} (L : List AB) (k : Nat) : bxS (h ++ L) (h.length + k) = bxL L k := by
 rw [← qQT]
 unfold bxS
 rw [zSD]
theorem Q2J (m : Bool) (v : AV) (L : List AB) : bxL (.blk false m [v] :: L) 0 = some v := _root_.id rfl
theorem XQi (B : AB) (L : List AB) (k : Nat) : bxL (B :: L) (k + 1) = bxL L k := by
 cases B with
 | blk fl m xs => cases fl <;> (cases xs with | nil => rfl | cons a l => cases l <;> rfl)
 | _ => rfl
theorem XZS (q : Nat → Bool) (st : LoopState) (pd : XE) (fr : List AV) (ps : List Nat) (a b : CC) : (AB.lp st pd fr ps a b).ok q = okL q fr := _root_.id rfl
section
variable {c : Ctx} {k : List IT} {fr : List AV} {h : List AB}
end
def Yc4 : List Pt → List Pt
 | [] => []
 | p :: l => ⟨p.k, p.lo, p.hi, [], []⟩ :: Yc4 l
theorem qkI : Yc4 [] = [] := _root_.id rfl
theorem K9z (k lo hi : Nat) (rs ws : List Nat) (l : List Pt) : Yc4 (⟨k, lo, hi, rs, ws⟩ :: l) = ⟨k, lo, hi, [], []⟩ :: Yc4 l := _root_.id rfl
theorem zmy (len0 lo hi anc : Nat) (past : List Pt) (id : Nat) : qOk len0 lo hi anc (Yc4 past) id = qOk len0 lo hi anc past id := by
 unfold qOk
 congr 1
 induction past with
 | nil => rfl
 | cons p l ih => simp only [Yc4, List.any_cons, ih]
theorem YrM (len0 anc n : Nat) (past : List Pt) : seen len0 anc (Yc4 past) n = seen len0 anc past n := by
 unfold seen
 congr 1
 funext id
 exact zmy len0 0 0 anc past id
theorem KAR {c : Ctx} {k : List IT} {fr : List AV} {h : List AB} {len0 n anc : Nat} {past : List Pt} {d : Option Nat} {l : List DOp} (ws : List Nat) (vs : List AV) (v : AV) (G : List AB) : W c (.dmk ws vs (some (v, G)) len0 n anc past d l :: k) fr h = (okL (fun i => decide (i < h.length)) vs = true ∧ HOk h ∧ past.all (qX9 len0 anc past ws) = true ∧ (ws.all fun id => decide (id < h.length)) = true ∧ h.length ≤ G.length ∧ v.ok (qOk len0 h.length G.length anc past) = true ∧
      (ws.all fun id => (G.getD id .dead).ok (qOk len0 h.length G.length anc past)) = true ∧ ((G.drop h.length).all fun B => B.ok (qOk len0 h.length G.length anc past)) = true ∧
      W c (.drw len0 (n + 1) (⟨n, h.length, G.length, seen len0 anc (Yc4 past) h.length, ws⟩ :: past) l :: k) (put fr d v) (KJX ws G 0 h)) := by
  rw [YrM]
  exact Yoy ws vs v G
end Go.Proofs.Ytpoojfnmhnedpaa
end
section
namespace Go.Proofs.Ytpoojfnmhnedpaa
def qe2 := (And.intro (And.intro (And.intro (And.intro (And.intro (And.intro (And.intro @zeU (And.intro @KBk @Kq9)) (And.intro (And.intro @qjQ @Xxa) (And.intro @QlM @JGk))) (And.intro (And.intro @qtA (And.intro @zzD @JHd)) (And.intro (And.intro @QKe @KJS) (And.intro @Z0p @qKZ)))) (And.intro (And.intro (And.intro @Q4e (And.intro @Kby @XGn)) (And.intro (And.intro @JS5 @JK1) (And.intro @Zq2 @QwH))) (And.intro (And.intro (And.intro @KM4 @W_op) (And.intro @QeC @KNc)) (And.intro (And.intro @JsZ @Q4h) (And.intro @YgA @zxY))))) (And.intro (And.intro (And.intro (And.intro @Z4u (And.intro @Y75 @qfD)) (And.intro (And.intro @qBP @QQE) (And.intro @pl_0 @pl_s))) (And.intro (And.intro @XNW (And.intro @JIJ @Z34)) (And.intro (And.intro @Z6l @ev_t) (And.intro @ev_c @YIU)))) (And.intro (And.intro (And.intro @JYy (And.intro @XQl @QiK)) (And.intro (And.intro @zow @Knd) (And.intro @QOY @qJu))) (And.intro (And.intro (And.intro @Q9C @JDw) (And.intro @qgn @qWd)) (And.intro (And.intro @YEY @Y0c) (And.intro @zcz @QxZ)))))) (And.intro (And.intro (And.intro (And.intro (And.intro @KFh (And.intro @JsY @Q2m)) (And.intro (And.intro @zdo @QJ9) (And.intro @qBs @KQ9))) (And.intro (And.intro @JAF (And.intro @JQI @Qj1)) (And.intro (And.intro @KsN @Jza) (And.intro @Zgh @JfW)))) (And.intro (And.intro (And.intro @Kko (And.intro @QD3 @YzP)) (And.intro (And.intro @z0n @JbM) (And.intro @qdB @JRU))) (And.intro (And.intro (And.intro @YuX @zpL) (And.intro @K7L @JWc)) (And.intro (And.intro @JUa @JKS) (And.intro @zms @qsg))))) (And.intro (And.intro (And.intro (And.intro @XBX (And.intro @Tab.at_nil @Tab.at_cons)) (And.intro (And.intro @qD2 @QV9) (And.intro @Qtm @YXO))) (And.intro (And.intro (And.intro @qVT @KrJ) (And.intro @ZL0 @JYJ)) (And.intro (And.intro @Y67 @Kbn) (And.intro @KAh @YBM)))) (And.intro (And.intro (And.intro @qKv (And.intro @JRn @Zon)) (And.intro (And.intro @all_nil @all_cons) (And.intro @Jtu @KMU))) (And.intro (And.intro (And.intro @KKd @Zbe) (And.intro @qs9 @QPb)) (And.intro (And.intro @Jrj @Zqz) (And.intro @qTv @KKL))))))) (And.intro (And.intro (And.intro (And.intro (And.intro (And.intro @zaL (And.intro @Z5O @zju)) (And.intro (And.intro @JoO @JTL) (And.intro @ZJU @Jc7))) (And.intro (And.intro @Zzy (And.intro @Z4X @KIM)) (And.intro (And.intro @QEJ @qRo) (And.intro @QqD @Z9K)))) (And.intro (And.intro (And.intro @Jni (And.intro @Q9t @X97)) (And.intro (And.intro @QSP @zZb) (And.intro @QxP @QXC))) (And.intro (And.intro (And.intro @zgu @zc9) (And.intro @Y3s @YM4)) (And.intro (And.intro @zOS @Yod) (And.intro @Yof @q4Y))))) (And.intro (And.intro (And.intro (And.intro @true_and (And.intro @and_true @true_implies)) (And.intro (And.intro @Bool.true_and @Bool.and_true) (And.intro @Bool.false_and @Bool.and_false))) (And.intro (And.intro (And.intro @Nat.lt_add_one @tp_0) (And.intro @tp_s @YI5)) (And.intro (And.intro @zES @KLA) (And.intro @QN3 @Int.cast_ofNat_Int)))) (And.intro (And.intro (And.intro @Int.natCast_inj (And.intro @Int.ofNat_lt @Int.ofNat_le)) (And.intro (And.intro @Int.toNat_natCast @Int.natCast_nonneg) (And.intro @not_false_eq_true @not_true_eq_false))) (And.intro (And.intro (And.intro @Bool.false_eq_true @qXw) (And.intro @KSg @QCM)) (And.intro (And.intro @KOK @Kzn) (And.intro @ZMF @qo8)))))) (And.intro (And.intro (And.intro (And.intro (And.intro @QEy (And.intro @Xdu @Koc)) (And.intro (And.intro @K3T @zo0) (And.intro @ZjO @K2e))) (And.intro (And.intro @qDg (And.intro @qke @QLJ)) (And.intro (And.intro @Ksc @YKt) (And.intro @Qdp @QHg)))) (And.intro (And.intro (And.intro @ZG4 (And.intro @XAu @Jdm)) (And.intro (And.intro @X2n @q9L) (And.intro @ZG2 @Zk7))) (And.intro (And.intro (And.intro @zxE @ZIo) (And.intro @YVd @J5Q)) (And.intro (And.intro @YiE @qoo) (And.intro @QXi @JXV))))) (And.intro (And.intro (And.intro (And.intro @Q9J (And.intro @YEd @Knr)) (And.intro (And.intro @zns @JeE) (And.intro @YHh @ZXY))) (And.intro (And.intro (And.intro @X1c @ZtM) (And.intro @Q9i @qvD)) (And.intro (And.intro @K7j @YxZ) (And.intro @YFW @JSj)))) (And.intro (And.intro (And.intro @Y1u (And.intro @Nat.add_assoc @K05)) (And.intro (And.intro @Q2J @XQi) (And.intro @Q9u @Jpk))) (And.intro (And.intro (And.intro @Ktj @Kjs) (And.intro @KbL @YPo)) (And.intro (And.intro @ZGp @qdr) (And.intro @Ywq @q16))))))))
def XQy := (And.intro (And.intro (And.intro (And.intro (And.intro @Ygp @zsP) (And.intro @Y7l (And.intro @ZjS @KEV))) (And.intro (And.intro @nd_0 (And.intro @nd_s @zjR)) (And.intro @QN3 (And.intro @KLA @Q9t)))) (And.intro (And.intro (And.intro @X97 (And.intro @decide_eq_true_eq @Bool.and_eq_true)) (And.intro @Bool.and_true (And.intro @Bool.true_and @Nat.lt_add_right_iff_pos))) (And.intro (And.intro @Nat.lt_add_one (And.intro @Nat.add_lt_add_iff_left @Nat.zero_lt_succ)) (And.intro @or_true (And.intro @true_or @and_true))))) (And.intro (And.intro (And.intro (And.intro @true_and @and_self) (And.intro @Nat.zero_add (And.intro @Nat.add_zero @false_or))) (And.intro (And.intro @XPY (And.intro @YTs @Xyz)) (And.intro @Zpj (And.intro @zES @YI5)))) (And.intro (And.intro (And.intro @imp_self (And.intro @YGa @qeH)) (And.intro @XVJ (And.intro @Z8f @decide_true))) (And.intro (And.intro @Bool.or_true (And.intro @Ycp @Y7j)) (And.intro @KsF (And.intro @Ztp @Nat.lt_irrefl))))))
def X6x := (And.intro (And.intro (And.intro @J42 @Z7c) (And.intro @Qir (And.intro @Qn8 @JiW))) (And.intro (And.intro @Z9G @qkL) (And.intro @YXS (And.intro @zQ9 @zSR))))
end Go.Proofs.Ytpoojfnmhnedpaa
end
section
namespace Go.Proofs.Ytpoojfnmhnedpaa
open Go.RowKit
section
variable {T : Env} {fr : List AV} {h : List AB} {p : Nat}
theorem Q3v (hp : h.length = p) (l : List AB) (k o : Nat) : ldV (h ++ l) none (.p (p + k) o) = (ownC l k).bind fun xs => xs[o]? := by subst hp; exact J42 l k o
theorem JFu (hp : h.length = p) (l : List AB) (k o n : Nat) : ldV (h ++ l) (some n) (.p (p + k) o) = (ownC l k).bind fun xs => if o + n ≤ xs.length then some (.ag ((xs.drop o).take n)) else none := by subst hp; exact Z7c l k o n
theorem YRr (hp : h.length = p) (l : List AB) (k o : Nat) (v : AV) : stV (h ++ l) none (.p (p + k) o) v = if v.one = true then (ownW l k o [v]).map (h ++ ·) else none := by subst hp; exact Qir l k o v
theorem Kti (hp : h.length = p) (l : List AB) (k o n : Nat) (vs : List AV) : stV (h ++ l) (some n) (.p (p + k) o) (.ag vs) = if vs.length = n then (ownW l k o vs).map (h ++ ·) else none := by subst hp; exact Qn8 l k o n vs
theorem Qv7 (hp : h.length = p) (L : List AB) (k off n cap sz : Nat) (kk : Option Nat) : srcV (h ++ L) sz (.sl (p + k) off n cap kk) = if n = 0 then some (0, []) else (ownC L k).bind fun xs => if off + n * sz ≤ xs.length then some (n, (xs.drop off).take (n * sz)) else none := by subst hp; exact JiW L k off n cap sz kk
theorem J5e {α : Type} {r : Row α} (hp : h.length = p) {sz : Nat} (hz : r.sz = sz) (L : List AB) (k : Nat) (l : List α) (by_ m : Nat) (ys : List AV) (hb : ownM r l L k) (hm : m ≠ 0) (h1 : (l.length + m) * by_ ≤ 140737488355328) (h2 : l.length + m ≤ maxLen) :
  appW (h ++ L) true sz by_ (apS r (p + k) l) m ys = some (.sl (p + L.length) 0 (l.length + m) (l.length + m) (some sz), h ++ (QIT L k ++ [.blk true true (r.cells l ++ ys)])) := by subst hp; exact QUv hz L k l by_ m ys hb hm h1 h2
theorem XS3 {α : Type} {r : Row α} (hp : h.length = p) {sz : Nat} (hz : r.sz = sz) (L : List AB) (k : Nat) (l : List α) (by_ m : Nat) (ys : List AV) (h0 : l.length ≠ 0) (hb : ownM r l L k) (hm : m ≠ 0) (h1 : (l.length + m) * by_ ≤ 140737488355328) (h2 : l.length + m ≤ maxLen) :
  appW (h ++ L) true sz by_ (rsl r (p + k) l) m ys = some (.sl (p + L.length) 0 (l.length + m) (l.length + m) (some sz), h ++ (QIT L k ++ [.blk true true (r.cells l ++ ys)])) := by rw [← JeD _ h0]; exact J5e hp hz L k l by_ m ys hb hm h1 h2
theorem KJw {α : Type} {r : Row α} (hp : h.length = p) {sz : Nat} (hz : r.sz = sz) (L : List AB) (k : Nat) (l : List α) (n : Nat) (e : ownR r l L k) (hn : n < l.length) : ldV (h ++ L) (some sz) (elP sz (rsl r (p + k) l) n 0) = some (.ag (r.f (l.getD n r.d))) := by subst hp; exact QxQ hz L k l n e hn
theorem Zap (hp : h.length = p) (l : List AB) (n : Nat) : (h ++ l).drop (p + n) = l.drop n := by subst hp; exact YXS l n
theorem Jm3 (hp : h.length = p) (l : List AB) (n : Nat) : (h ++ l).getD (p + n) .dead = l.getD n .dead := by subst hp; exact zQ9 l n
theorem Ysp (hp : h.length = p) (c anc n : Nat) (past : List Pt) (ws : List Nat) (l : List AB) (hn : n = p + l.length) (hw : (ws.all fun id => decide (p ≤ id)) = true) : YiL (seen (p + c) anc past n) ws 0 (h ++ l) = h.map AB.freeze ++ mskL p c anc past ws 0 l := by
 subst hp
 have h1 : ∀ j, j < h.length → j ∉ ws := fun j hj hm => by
  have := List.all_eq_true.1 hw j hm
  simp only [decide_eq_true_eq] at this
  omega
 refine List.ext_getElem? fun i => ?_
 rw [KFl, Nat.zero_add]
 by_cases hi : i < h.length
 ·rw [List.getElem?_append_left hi, List.getElem?_append_left (by rw [List.length_map]; exact hi), List.getElem?_map, List.getElem?_eq_getElem hi, Option.map_some, Option.map_some, if_neg (h1 i hi), if_pos]
  exact List.mem_filter.2 ⟨List.mem_range.2 (by omega), qcC (by omega)⟩
 ·rw [List.getElem?_append_right (by omega), List.getElem?_append_right (by rw [List.length_map]; omega), List.length_map, quf]
  cases hB : l[i - h.length]? with
  | none => rfl
  | some B =>
   have hlt := (List.getElem?_eq_some_iff.1 hB).1
   simp only [Option.map_some, Option.some.injEq, show h.length + (0 + (i - h.length)) = i by omega]
   by_cases hm : i ∈ ws
   ·rw [if_pos hm, if_pos (QHJ.2 hm)]
   ·rw [if_neg hm, if_neg (fun q => hm (QHJ.1 q))]
    by_cases hq : qOk (h.length + c) 0 0 anc past i = true
    ·rw [if_pos hq, if_pos]
     exact List.mem_filter.2 ⟨List.mem_range.2 (by omega), hq⟩
    ·rw [if_neg hq, if_neg]
     exact fun q => hq (List.mem_filter.1 q).2
theorem JHl (ws : List Nat) (G l : List AB) (hw : (ws.all fun id => decide (h.length ≤ id)) = true) : KJX ws (h.map AB.freeze ++ G) 0 (h ++ l) = h ++ mrgL h.length ws 0 G l := by
 have h1 : ∀ j, j < h.length → j ∉ ws := fun j hj hm => by
  have := List.all_eq_true.1 hw j hm
  simp only [decide_eq_true_eq] at this
  omega
 refine List.ext_getElem? fun i => ?_
 rw [KN2, Nat.zero_add]
 by_cases hi : i < h.length
 ·rw [if_pos (by rw [List.length_append]; omega), if_neg (h1 i hi), List.getElem?_append_left hi, List.getElem?_append_left hi]
 ·have g1 : (h.map AB.freeze ++ G)[i]? = G[i - h.length]? := by rw [List.getElem?_append_right (by rw [List.length_map]; omega), List.length_map]
  rw [g1, List.getElem?_append_right (by omega), List.getElem?_append_right (by omega), qR4, List.length_append, show h.length + (0 + (i - h.length)) = i by omega]
  by_cases hl : i - h.length < l.length
  ·rw [if_pos hl, if_pos (by omega)]
  ·rw [if_neg hl, if_neg (by omega)]
end
end Go.Proofs.Ytpoojfnmhnedpaa
end
