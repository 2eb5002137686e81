/- Part 10 of what the laws' proofs rest on. No condition. -/
import Derived.Test.YtfaccliekejngaaGreatOo9
set_option linter.all false
section
namespace Go.Proofs.YtfaccliekejngaaGreat
open Go.RowKit
section
variable {T : Env} {fr : List AV} {h : List AB} {α : Type} {r : Row α}
def rsl (r : Row α) (id : Nat) (l : List α) : AV := if l.length = 0 then .sl id 0 0 0 (some 0) else .sl id 0 l.length l.length (some r.sz)
def resB (r : Row α) (m : Bool) (l : List α) : AB := if l.length = 0 then .dead else .blk true m (r.cells l)
theorem QV1 (id : Nat) (l : List α) : (rsl r id l).isSl = true := by unfold rsl; split <;> rfl
theorem YCu (id : Nat) (l : List α) : (rsl r id l).isStr = false := zJM (QV1 id l)
theorem z93 (id : Nat) (l : List α) : (rsl r id l).one = true := Qwl (QV1 id l)
theorem zY9 (id : Nat) (l : List α) : (rsl r id l).known = true := ZVo (QV1 id l)
theorem Yzc (id : Nat) (l : List α) : (rsl r id l).cells = [rsl r id l] := YCL (QV1 id l)
theorem K8x (id : Nat) (l : List α) : lenV (rsl r id l) = some (l.length : Int) := by
 unfold rsl
 split
 ·rename_i e; rw [e]; rfl
 ·rfl
theorem XNG (q : Nat → Bool) (id : Nat) (l : List α) (hq : q id = true) : (rsl r id l).ok q = true := by unfold rsl; split <;> simp [AV.ok, hq]
theorem XkF (f : Nat → Nat) (id : Nat) (l : List α) : (rsl r id l).ren f = rsl r (f id) l := by unfold rsl; split <;> simp [AV.ren]
theorem XPg (id : Nat) (l : List α) : idOf (rsl r id l) = [id] := by unfold rsl; split <;> rfl
theorem qhD : lenV .ns = some 0 := _root_.id rfl
theorem Q7O (m : Bool) (l : List α) : (resB r m l).freeze = resB r false l := by unfold resB; split <;> rfl
theorem KSA (q : Nat → Bool) (m : Bool) (l : List α) : (resB r m l).ok q = true := by unfold resB; split <;> rfl
def ownR (r : Row α) (l : List α) : List AB → Nat → Prop
 | [], _ => False
 | B :: _, 0 => ∃ m, B = resB r m l
 | _ :: L, k + 1 => ownR r l L k
theorem z3R (m : Bool) (l : List α) (L : List AB) : ownR r l (resB r m l :: L) 0 = True := eq_true ⟨m, rfl⟩
theorem qBT (l : List α) (B : AB) (L : List AB) (k : Nat) : ownR r l (B :: L) (k + 1) = ownR r l L k := _root_.id rfl
theorem QSW (l : List α) : ∀ (L : List AB) (k : Nat), ownR r l L k → ∃ m, L[k]? = some (resB r m l)
 | [], _, e => e.elim
 | B :: _, 0, ⟨m, e⟩ => ⟨m, by rw [e]; rfl⟩
 | _ :: L, k + 1, e => by simpa using QSW l L k e
theorem Q2P {H : List AB} {id : Nat} {m : Bool} {l : List α} (e : H[id]? = some (resB r m l)) : rdS H r.sz (rsl r id l) = some (l.length, r.cells l) := by
 unfold rsl
 by_cases h0 : l.length = 0
 ·rw [if_pos h0]
  have : l = [] := List.eq_nil_of_length_eq_zero h0
  subst this
  simp [rdS, Row.cells]
 ·rw [if_neg h0]
  simp only [rdS]
  rw [if_neg h0]
  unfold resB at e
  rw [if_neg h0] at e
  simp only [XAh, e, Option.bind_some, Nat.zero_add, List.drop_zero, r.cells_len]
  rw [if_pos (Nat.le_refl _), List.take_of_length_le (by rw [r.cells_len]; exact Nat.le_refl _)]
theorem zRx {H : List AB} {id : Nat} {m : Bool} {l : List α} (e : H[id]? = some (resB r m l)) (hl : l.length ≤ maxLen) : Rd r H (rsl r id l) l := ⟨Q2P e, hl⟩
theorem Yn6 (L : List AB) (k : Nat) : (h ++ L)[h.length + k]? = L[k]? := by rw [List.getElem?_append_right (by omega), Nat.add_sub_cancel_left]
theorem YaF (L : List AB) (k : Nat) (l : List α) (e : ownR r l L k) (hl : l.length ≤ maxLen) : getS r (h ++ L) (rsl r (h.length + k) l) = some l := by
 obtain ⟨m, hm⟩ := QSW l L k e
 exact (zRx (by rw [Yn6]; exact hm) hl).get
theorem KnF {sz : Nat} (hz : r.sz = sz) (id : Nat) (l : List α) (k : IntKind) (m : Int) : iadV sz (rsl r id l) (.i k m) = if 0 ≤ m ∧ m < (l.length : Int) then some (elP sz (rsl r id l) m.toNat 0) else none := by
 subst hz
 unfold rsl
 split
 ·rename_i h0
  simp only [iadV, h0, elP, Nat.add_zero]
 ·simp only [iadV, elP, Nat.add_zero]
theorem zas (o sz n j : Nat) (id : Nat) (l : List α) : fadV o (elP sz (rsl r id l) n j) = some (elP sz (rsl r id l) n (j + o)) := by
 unfold rsl
 split <;> simp [elP, fadV, Nat.add_assoc]
theorem ZyD (q : Nat → Bool) (id sz n j : Nat) (l : List α) (hq : q id = true) : (elP sz (rsl r id l) n j).ok q = true := by unfold rsl; split <;> simp [elP, AV.ok, hq]
theorem JVv {sz : Nat} (hz : r.sz = sz) (L : List AB) (k : Nat) (l : List α) (n : Nat) (e : ownR r l L k) (hn : n < l.length) : ldV (h ++ L) (some sz) (elP sz (rsl r (h.length + k) l) n 0) = some (.ag (r.f (l.getD n r.d))) := by
 subst hz
 obtain ⟨m, hm⟩ := QSW l L k e
 have hb : XAh (h ++ L) (h.length + k) = some (r.cells l) := by
  unfold XAh
  rw [Yn6, hm]
  unfold resB
  rw [if_neg (by omega)]
 unfold rsl
 rw [if_neg (by omega)]
 have hlt : n * r.sz + r.sz ≤ l.length * r.sz := by
  have := Nat.mul_le_mul_right r.sz (show n + 1 ≤ l.length from hn)
  rw [Nat.add_mul] at this
  omega
 simp only [elP, ldV, hb, Option.bind_some, Nat.zero_add, Nat.add_zero]
 rw [if_pos (by rw [r.cells_len]; exact hlt)]
 congr 2
 refine List.ext_getElem? fun j => ?_
 rw [List.getElem?_take]
 split
 ·rename_i hj
  rw [← r.cells_get l n j hn hj, List.getElem?_drop]
 ·rename_i hj
  rw [List.getElem?_eq_none (by rw [r.len]; omega)]
theorem Xfq {H : List AB} {sz : Nat} {s : AV} {x : Nat × List AV} (e : rdS H sz s = some x) : srcV H sz s = some x := by
 cases s <;> first | exact e | cases e
theorem Rd.src {s : AV} {l : List α} (e : Rd r h s l) {sz : Nat} (hz : r.sz = sz) (x : List AB) : srcV (h ++ x) sz s = some (l.length, r.cells l) := by
 subst hz
 exact Xfq (e.app x).1
theorem Wk.empty (id off id' off' c : Nat) (k : Option Nat) : Wk (.sl id off 0 0 (some 0)) (.sl id' off' 0 c k) := fun ρ v h => by
 cases h with
 | sl _ _ _ _ _ b o n cap' h h1 h2 h3 => exact .sz id off _ cap' h3 (fun e => nomatch e)
 | sz _ _ a c h hn => exact .sz id off a c h hn
theorem Je9 (id : Nat) {l : List α} (h0 : l.length = 0) {v : AV} (hv : Wk (.sl id 0 0 0 (some 0)) v) : Wk (rsl r id l) v := by
 unfold rsl
 rw [if_pos h0]
 exact hv
theorem ZZP (id : Nat) {l : List α} (h0 : l.length ≠ 0) : rsl r id l = .sl id 0 l.length l.length (some r.sz) := by
 unfold rsl
 rw [if_neg h0]
theorem XCu (m : Bool) {l : List α} (h0 : l.length ≠ 0) : resB r m l = .blk true m (r.cells l) := by
 unfold resB
 rw [if_neg h0]
theorem Yro (m : Bool) {l : List α} (h0 : l.length = 0) : resB r m l = .dead := by
 unfold resB
 rw [if_pos h0]
theorem Bt.one {P : Program} {h L : List AB} {v : AV} {l : List α} (k : Nat) (hh : HOk h) (h0 : l.length = 0 → Wk (.sl h.length 0 0 0 (some 0)) v) (hk : k < L.length) (h1 : l.length ≠ 0 → v = .sl (h.length + k) 0 l.length l.length (some r.sz) ∧ L[k]? = some (.blk true true (r.cells l))) : Bt P h.length [v] (h ++ L) [rsl r h.length l] (h ++ [resB r true l]) := by
 by_cases e : l.length = 0
 ·refine Bt.trans (Bt.wk1 (Je9 (r := r) h.length e (h0 e))) (Bt.sel [k] hh (by simp) ?_ ?_)
  ·refine ⟨⟨L[k], List.getElem?_eq_getElem hk, ?_⟩, trivial⟩
   rw [Yro true e]
   trivial
  ·refine ⟨.inr ⟨XNG _ _ _ (by simp), ?_⟩, trivial⟩
   unfold rsl
   rw [if_pos e]
   exact Wk.empty _ _ _ _ _ _
 ·obtain ⟨rfl, hb⟩ := h1 e
  refine Bt.sel [k] hh (by simp) ⟨⟨_, hb, ?_⟩, trivial⟩ ⟨.inr ⟨XNG _ _ _ (by simp), ?_⟩, trivial⟩
  ·rw [XCu true e]
   exact ⟨fun _ => rfl, rfl⟩
  ·rw [XkF, ZZP _ e]
   have : selN h.length [k] h.length = h.length + k := by simp [selN]
   rw [this]
   exact Wk.refl _
theorem Bt.one0 {P : Program} {h : List AB} {v : AV} {l : List α} (h0 : l.length = 0) (hv : Wk (.sl h.length 0 0 0 (some 0)) v) : Bt P h.length [v] (h ++ []) [rsl r h.length l] (h ++ [resB r true l]) := by
 rw [List.append_nil, Yro true h0]
 exact Bt.trans (Bt.wk1 (Je9 (r := r) h.length h0 hv)) (Bt.pad _ h 1)
theorem FnC.empty1 {P : Program} {g id off cap : Nat} {a : AV} {h' : List AB} (h1 : FnC P g [.ns] h a h') (h2 : FnC P g [.se] h a h') : FnC P g [.sl id off 0 cap (some 0)] h a h' := by
 refine ⟨h1.1, fun ρ w vals hr hv => ?_⟩
 obtain ⟨c, hc, h0⟩ := hv.get (j := 0) rfl
 have mk : ∀ x : AV, VR ρ x c → VL ρ [x] vals := fun x hx => ⟨hv.1, fun j b d hb hd => by
  cases j with
  | zero =>
   cases hb
   rw [hc] at hd
   cases hd
   exact hx
  | succ j => simp at hb⟩
 cases h0 with
 | sl _ _ _ _ _ b o n cap' _ _ _ h3 => exact h2.2 ρ w vals hr (mk .se (.se _ _ h3))
 | sz _ _ ad c hcap hn =>
  cases ad with
  | none =>
   obtain rfl := hn rfl
   exact h1.2 ρ w vals hr (mk .ns .ns)
  | some ad => exact h2.2 ρ w vals hr (mk .se (.se _ _ hcap))
theorem zcp (n : Bool) (x y : Opd) : opR T (.eqn n x y) fr h = (Y1v (x.ev fr) (y.ev fr)).map fun r => (.b (r ^^ n), h) := _root_.id rfl
theorem XAn : Y1v .ns .ns = some true := _root_.id rfl
theorem q5Y : Y1v .se .ns = some false := _root_.id rfl
theorem zON (id off n c : Nat) (k : Option Nat) : Y1v (.sl id off n c k) .ns = if n = 0 ∧ k = some 0 then none else some false := _root_.id rfl
theorem zo5 : AV.ns.isStr = false := _root_.id rfl
theorem Z8N : AV.se.isStr = false := _root_.id rfl
theorem qH0 (a b c d : Nat) (k : Option Nat) : (AV.sl a b c d k).isStr = false := _root_.id rfl
theorem YEP (q : Nat → Bool) (f : Nat → Nat) (m : Bool) (l : List α) : BWk q f (resB r m l) (resB r m l) = True := by
 unfold resB
 split
 ·exact eq_true trivial
 ·exact eq_true ⟨fun z => z, rfl⟩
theorem zfI (q : Nat → Bool) (f : Nat → Nat) (m' m : Bool) (xs' xs : List AV) : BWk q f (.blk true m' xs') (.blk true m xs) = ((m' = true → m = true) ∧ xs' = xs) := _root_.id rfl
theorem q2w (q : Nat → Bool) (f : Nat → Nat) (m' m : Bool) (xs' xs : List AV) : BWk q f (.blk false m' xs') (.blk false m xs) = ((m' = true → m = true) ∧ okL q xs' = true ∧ WkL (renL f xs') xs) := _root_.id rfl
theorem YRK (q : Nat → Bool) (f : Nat → Nat) (B : AB) : BWk q f .dead B = True := by cases B <;> rfl
theorem Zso (q : Nat → Bool) (f : Nat → Nat) (st' st : LoopState) (pd' pd : XE) (fr' fr : List AV) (ps' ps : List Nat) (a' a b' b : CC) : BWk q f (.lp st' pd' fr' ps' a' b') (.lp st pd fr ps a b) = ((st' = st ∧ pd' = pd ∧ ps' = ps ∧ a' = a ∧ b' = b) ∧ okL q fr' = true ∧ WkL (renL f fr') fr) := _root_.id rfl
theorem Bt.selL {P : Program} {h l l' : List AB} {fr fr' : List AV} (n : Nat) (sel : List Nat) (hh : HOk h) (hc : sel.take n = List.range n) (hup : ((sel.drop n).all fun k => decide (n ≤ k)) = true) (hn : n ≤ sel.length) (hnd : sel.Nodup) (hb : BlkSel h.length sel sel.length l sel l') (hfr : FrSel h.length sel sel.length fr fr') : Bt P (h.length + n) fr (h ++ l) fr' (h ++ l') := by
 refine Bt.selc n sel hh (fun i hi => ?_) (fun i k hi hk => ?_) hn hnd hb hfr
 ·have := congrArg (fun x => x[i]?) hc
  simp only [List.getElem?_take, List.getElem?_range hi, if_pos hi] at this
  exact this
 ·refine of_decide_eq_true (List.all_eq_true.1 hup k ?_)
  refine List.mem_of_getElem? (i := i - n) ?_
  rw [List.getElem?_drop, show n + (i - n) = i by omega]
  exact hk
theorem KdE (q : Nat → Bool) (id : Nat) (l : List α) (hq : q id = true) : (rsl r id l).ok q = True := eq_true (XNG q id l hq)
theorem Q7o (p k : Nat) (sel : List Nat) : selN p sel (p + k) = p + sel.getD k 0 := Qo0 k
theorem Y0G (p : Nat) (sel : List Nat) : selN p sel p = p + sel.getD 0 0 := Qo0 (p := p) 0
theorem nd_0 (a : Nat) (l : List Nat) : (a :: l).getD 0 0 = a := _root_.id rfl
theorem nd_s (a : Nat) (l : List Nat) (k : Nat) : (a :: l).getD (k + 1) 0 = l.getD k 0 := by simp
theorem QPQ : intR.sz = 1 := _root_.id rfl
theorem ZeP : dotR.sz = 2 := _root_.id rfl
theorem Qj7 : r.cells [] = [] := _root_.id rfl
theorem Xf7 (k : IntKind) (n : Int) : (AV.i k n).known = true := _root_.id rfl
theorem qy1 (x : Bool) : (AV.b x).known = true := _root_.id rfl
theorem QmC (x : List UInt8) : (AV.s x).known = true := _root_.id rfl
theorem zlI (a b : Nat) : (AV.p a b).known = true := _root_.id rfl
theorem KNY : AV.ns.known = true := _root_.id rfl
theorem JFs (a b c d : Nat) (k : Option Nat) : (AV.sl a b c d k).known = true := _root_.id rfl
theorem KXp (f : Fn) (a b : List AV) : (AV.f f a b).known = true := _root_.id rfl
theorem XFB (l : List AV) : (AV.ag l).known = true := _root_.id rfl
def chkI : Nat → Option (List AV) → Bool
 | 0, some [] => true
 | n + 1, some (.i .i64 _ :: l) => chkI n (some l)
 | _, _ => false
def valI : Option (List AV) → List Int
 | some (.i _ a :: l) => a :: valI (some l)
 | _ => []
theorem Ky1 : chkI 0 (some []) = true := by simp [chkI]
theorem Y4N (n : Nat) (a : Int) (l : List AV) : chkI (n + 1) (some (.i .i64 a :: l)) = chkI n (some l) := by simp [chkI]
theorem XKn : valI (some []) = [] := by simp [valI]
theorem JPb (k : IntKind) (a : Int) (l : List AV) : valI (some (.i k a :: l)) = a :: valI (some l) := by simp [valI]
theorem YaC : ∀ (n : Nat) (l : List AV), chkI n (some l) = true → l = intR.cells (valI (some l)) ∧ (valI (some l)).length = n
 | 0, [], _ => by simp [valI, Qj7]
 | 0, _ :: _, e => by simp [chkI] at e
 | n + 1, [], e => by simp [chkI] at e
 | n + 1, .i .i64 a :: l, e => by
  rw [Y4N] at e
  obtain ⟨h1, h2⟩ := YaC n l e
  rw [JPb]
  refine ⟨?_, by simp [h2]⟩
  simp only [Row.cells, List.flatMap_cons, JEE, List.cons_append, List.nil_append]
  congr 1
 | n + 1, .i .u8 _ :: _, e | n + 1, .i .u16 _ :: _, e | n + 1, .i .u32 _ :: _, e | n + 1, .i .u64 _ :: _, e | n + 1, .i .i8 _ :: _, e | n + 1, .i .i16 _ :: _, e | n + 1, .i .i32 _ :: _, e => by simp [chkI] at e
 | n + 1, .b _ :: _, e | n + 1, .s _ :: _, e | n + 1, .p _ _ :: _, e | n + 1, .np :: _, e | n + 1, .sl _ _ _ _ _ :: _, e | n + 1, .se :: _, e | n + 1, .ns :: _, e | n + 1, .f _ _ _ :: _, e | n + 1, .nf :: _, e | n + 1, .ifc _ _ :: _, e | n + 1, .ni :: _, e | n + 1, .ag _ :: _, e | n + 1, .tu _ :: _, e | n + 1, .top :: _, e | n + 1, .y _ :: _, e => by simp [chkI] at e
theorem ZqC (L : List AB) (k n c : Nat) (kk : Option Nat) (e : chkI n (ownC L k) = true) (hn : n ≤ 1000) : getS intR (h ++ L) (.sl (h.length + k) 0 n c kk) = some (valI (ownC L k)) := by
 refine Rd.get ⟨?_, ?_⟩
 ·cases hc : ownC L k with
  | none => rw [hc] at e; cases n <;> simp [chkI] at e
  | some l =>
   rw [hc] at e
   obtain ⟨h1, h2⟩ := YaC n l e
   have hb : XAh (h ++ L) (h.length + k) = some l := by rw [Q4R, hc]
   have hl : l.length = n := by rw [h1, Row.cells_len, h2]; exact Nat.mul_one n
   simp only [rdS, hb, Option.bind_some, Nat.zero_add, List.drop_zero, show intR.sz = 1 from rfl, Nat.mul_one, hl]
   split
   ·rename_i h0
    subst h0
    have : l = [] := List.eq_nil_of_length_eq_zero hl
    subst this
    simp [valI, Qj7]
   ·rw [if_pos (Nat.le_refl _), List.take_of_length_le (by omega), ← h1, h2]
 ·cases hc : ownC L k with
  | none => simp [valI]
  | some l =>
   rw [hc] at e
   obtain ⟨h1, h2⟩ := YaC n l e
   rw [h2]
   unfold maxLen
   omega
theorem Bt.drop {P : Program} {h : List AB} {v a : AV} (L : List AB) (hh : HOk h) (e : v = a) (hok : v.ok (fun i => decide (i < h.length)) = true) : Bt P h.length [v] (h ++ L) [a] h := by
 subst e
 have := Bt.sel (P := P) (h := h) (l := L) (l' := []) (fr := [v]) (fr' := [v]) [] hh (by simp) trivial ⟨.inr ⟨hok, Wk.ren (fun i hi => Xdk hi) hok⟩, trivial⟩
 rw [List.append_nil] at this
 exact this
theorem Bt.dropB {P : Program} {h : List AB} {x y : Bool} (L : List AB) (hh : HOk h) (e : x = y) : Bt P h.length [.b x] (h ++ L) [.b y] h := Bt.drop L hh (by rw [e]) (by simp [AV.ok])
theorem Bt.dropI {P : Program} {h : List AB} {x y : Int} {k : IntKind} (L : List AB) (hh : HOk h) (e : x = y) : Bt P h.length [.i k x] (h ++ L) [.i k y] h := Bt.drop L hh (by rw [e]) (by simp [AV.ok])
def FinO (P : Program) (p : Nat) (o : Option AV) (h : List AB) (a : AV) (h' : List AB) : Prop := ∃ v, o = some v ∧ Bt P p [v] h [a] h'
theorem KRX {P : Program} {p : Nat} {v a : AV} {h' : List AB} : FinO P p (some v) h a h' = Bt P p [v] h [a] h' := by simp [FinO]
theorem XOq {P : Program} {p n : Nat} {sz : Option Nat} {a : AV} {h' : List AB} : (∃ v, resV fr h [RC.cell n sz] = some v ∧ Bt P p [v] h [a] h') = FinO P p (ldV h sz (pl fr n)) h a h' := by
 have e : resV fr h [RC.cell n sz] = ldV h sz (pl fr n) := by
  simp only [resV, XvI, qhQ, zv7]
  cases ldV h sz (pl fr n) <;> rfl
 rw [e]
 rfl
theorem qb9 {P : Program} {p n m : Nat} {sz : Option Nat} {a : AV} {h' : List AB} : (∃ v, resV fr h [RC.cell n sz, RC.t m] = some v ∧ Bt P p [v] h [a] h') = FinO P p ((ldV h sz (pl fr n)).map fun x => .tu [x, pl fr m]) h a h' := by
 have e : resV fr h [RC.cell n sz, RC.t m] = (ldV h sz (pl fr n)).map fun x => .tu [x, pl fr m] := by
  simp only [resV, XvI, qhQ, zv7, Option.bind_some]
  cases ldV h sz (pl fr n) <;> rfl
 rw [e]
 rfl
def appW (H : List AB) (fl : Bool) (sz by_ : Nat) (s : AV) (m : Nat) (ys : List AV) : Option (AV × List AB) :=
 match s with
 | .ns => if m = 0 then some (.ns, H) else if m * by_ ≤ 140737488355328 ∧ m ≤ maxLen then some (.sl H.length 0 m m (some sz), H ++ [.blk fl true ys]) else none
 | .sl id off len cap k =>
  if m = 0 then some (.sl id off len cap k, H)
  else if len + m ≤ cap then (stB H id (off + len * sz) ys).map fun h' => (.sl id off (len + m) cap k, h')
  else match H[id]? with
   | some (.blk fl' mu xs) =>
    if fl' = fl ∧ off + len * sz ≤ xs.length ∧ (len + m) * by_ ≤ 140737488355328 ∧ len + m ≤ maxLen then
     if k = none then some (.sl H.length 0 (len + m) (len + m) (some sz), H ++ [.blk fl true ((xs.drop off).take (len * sz) ++ ys)])
     else if k = some sz ∧ sz ≠ 0 ∧ mu = true ∧ off + len * sz = xs.length then some (.sl H.length 0 (len + m) (len + m) (some sz), H.set id .dead ++ [.blk fl true (xs.drop off ++ ys)])
     else if k = some sz ∧ sz ≠ 0 ∧ mu = true then some (.sl H.length 0 (len + m) (len + m) (some sz), H.set id .dead ++ [.blk fl true ((xs.drop off).take (len * sz) ++ ys)])
     else none
    else none
   | _ => none
 | _ => none
theorem XIn (H : List AB) (fl : Bool) (sz by_ : Nat) (s x : AV) : appV H fl sz by_ s x = (srcV H sz x).bind fun my => if my.2.all (wrOk fl) = true then appW H fl sz by_ s my.1 my.2 else none := _root_.id rfl
def flB (fl : Bool) : List AB → Nat → Prop
 | [], _ => False
 | B :: _, 0 => ∃ m xs, B = .blk fl m xs
 | _ :: L, k + 1 => flB fl L k
theorem qZZ (fl m : Bool) (xs : List AV) (L : List AB) : flB fl (.blk fl m xs :: L) 0 = True := eq_true ⟨m, xs, rfl⟩
theorem qfO (fl : Bool) (B : AB) (L : List AB) (k : Nat) : flB fl (B :: L) (k + 1) = flB fl L k := _root_.id rfl
theorem zSm (fl : Bool) : ∀ (L : List AB) (k : Nat), flB fl L k → ∃ m xs, L[k]? = some (.blk fl m xs)
 | [], _, e => e.elim
 | B :: _, 0, ⟨m, xs, e⟩ => ⟨m, xs, by rw [e]; rfl⟩
 | _ :: L, k + 1, e => by simpa using zSm fl L k e
theorem z1m (L : List AB) (k : Nat) (fl : Bool) (sz by_ m : Nat) (ys : List AV) (hb : flB fl L k) : appW (h ++ L) fl sz by_ (.sl (h.length + k) 0 0 0 none) m ys = if m = 0 then some (.sl (h.length + k) 0 0 0 none, h ++ L) else if m * by_ ≤ 140737488355328 ∧ m ≤ maxLen then some (.sl (h.length + L.length) 0 m m (some sz), h ++ (L ++ [.blk fl true ys])) else none := by
 obtain ⟨mu, xs, hx⟩ := zSm fl L k hb
 unfold appW
 dsimp only
 split
 ·rfl
 ·rename_i hm
  rw [if_neg (by omega), Yn6, hx]
  simp only [true_and, Nat.zero_add, Nat.zero_mul, Nat.zero_le, List.take_zero, List.nil_append, if_true, List.length_append, List.append_assoc]
theorem QqP (L : List AB) (fl : Bool) (sz by_ m : Nat) (ys : List AV) : appW (h ++ L) fl sz by_ .ns m ys = if m = 0 then some (.ns, h ++ L) else if m * by_ ≤ 140737488355328 ∧ m ≤ maxLen then some (.sl (h.length + L.length) 0 m m (some sz), h ++ (L ++ [.blk fl true ys])) else none := by
 unfold appW
 simp only [List.length_append, List.append_assoc]
theorem Xh7 (l : List Int) : (intR.cells l).all (wrOk true) = true := by
 induction l with
 | nil => rfl
 | cons a l ih =>
  simp only [Row.cells, List.flatMap_cons, List.all_append] at ih ⊢
  rw [ih]
  rfl
theorem zyQ (l : List (Int × Int)) : (dotR.cells l).all (wrOk true) = true := by
 induction l with
 | nil => rfl
 | cons a l ih =>
  simp only [Row.cells, List.flatMap_cons, List.all_append] at ih ⊢
  rw [ih]
  rfl
def apS (r : Row α) (id : Nat) (l : List α) : AV := if l.length = 0 then .ns else .sl id 0 l.length l.length (some r.sz)
theorem J2U (id : Nat) (l : List α) : Wk (rsl r id l) (apS r id l) := by
 unfold rsl apS
 split
 ·exact Wk.nil _ _
 ·exact Wk.refl _
theorem ZrU (q : Nat → Bool) (id : Nat) (l : List α) (hq : q id = true) : (apS r id l).ok q = true := by unfold apS; split <;> simp [AV.ok, hq]
theorem zRa (f : Nat → Nat) (id : Nat) (l : List α) : (apS r id l).ren f = apS r (f id) l := by unfold apS; split <;> simp [AV.ren]
theorem zoL (id : Nat) (l : List α) : (apS r id l).isSl = true := by unfold apS; split <;> rfl
theorem Qza (id : Nat) (l : List α) : lenV (apS r id l) = some (l.length : Int) := by
 unfold apS
 split
 ·rename_i e; rw [e]; rfl
 ·rfl
theorem ZLN (id : Nat) : apS r id [] = .ns := _root_.id rfl
theorem J0z (id : Nat) {l : List α} (h0 : l.length ≠ 0) : apS r id l = rsl r id l := by
 unfold apS rsl
 rw [if_neg h0, if_neg h0]
theorem ZD2 (id : Nat) (l : List α) : (apS r id l).isStr = false := zJM (zoL id l)
theorem JCL (id : Nat) (l : List α) : (apS r id l).one = true := Qwl (zoL id l)
theorem Ye5 (id : Nat) (l : List α) : (apS r id l).known = true := ZVo (zoL id l)
theorem Qjs (id : Nat) (l : List α) : (apS r id l).cells = [apS r id l] := YCL (zoL id l)
theorem XlZ (id : Nat) (l : List α) (x : α) : apS r id (l ++ [x]) = .sl id 0 (l.length + 1) (l.length + 1) (some r.sz) := by
 unfold apS
 rw [if_neg (by simp), List.length_append]
 rfl
theorem zbl (m : Bool) (l : List α) (x : α) : resB r m (l ++ [x]) = .blk true m (r.cells l ++ r.f x) := by
 unfold resB
 rw [if_neg (by simp)]
 simp [Row.cells]
theorem ZIt (d : Int × Int) : (d.1, d.2) = d := _root_.id rfl
theorem J8D (id : Nat) (x : α) : apS r id [x] = .sl id 0 1 1 (some r.sz) := _root_.id rfl
theorem KvS (m : Bool) (x : α) : resB r m [x] = .blk true m (r.f x) := by
 unfold resB
 rw [if_neg (by simp)]
 simp [Row.cells]
theorem Yqn {id : Nat} {l l' : List α} {m m' : Bool} (h1 : apS r id l = apS r id l') (h2 : resB r m l = resB r m' l') : l = l' := by
 have hl : l.length = l'.length := by
  have := congrArg lenV h1
  have g : ∀ l : List α, lenV (apS r id l) = some (l.length : Int) := fun l => by
   unfold apS
   split
   ·rename_i e; rw [e]; rfl
   ·rfl
  rw [g, g] at this
  exact Int.ofNat_inj.1 (Option.some.inj this)
 by_cases h0 : l.length = 0
 ·have a1 : l = [] := List.length_eq_zero_iff.1 h0
  have a2 : l' = [] := List.length_eq_zero_iff.1 (by omega)
  rw [a1, a2]
 ·rw [XCu m h0, XCu m' (hl ▸ h0)] at h2
  simp only [AB.blk.injEq, true_and] at h2
  exact r.cells_inj l l' hl h2.2
theorem Bt.oneR {P : Program} {h L : List AB} {l : List α} (k : Nat) (hh : HOk h) (hk : L[k]? = some (resB r true l)) : Bt P h.length [rsl r (h.length + k) l] (h ++ L) [rsl r h.length l] (h ++ [resB r true l]) := by
 refine Bt.sel [k] hh (by simp) ⟨⟨_, hk, ?_⟩, trivial⟩ ⟨.inr ⟨XNG _ _ _ (by simp), ?_⟩, trivial⟩
 ·rw [YEP]
  trivial
 ·rw [XkF]
  have : selN h.length [k] h.length = h.length + k := by simp [selN]
  rw [this]
  exact Wk.refl _
theorem Bt.oneA {P : Program} {h L : List AB} {l : List α} (k : Nat) (hh : HOk h) (hk : L[k]? = some (resB r true l)) : Bt P h.length [apS r (h.length + k) l] (h ++ L) [rsl r h.length l] (h ++ [resB r true l]) :=
 Bt.trans (Bt.wk1 (J2U _ _)) (Bt.oneR k hh hk)
def Ycl : List AB → Nat → List AB
 | [], _ => []
 | _ :: L, 0 => .dead :: L
 | B :: L, k + 1 => B :: Ycl L k
theorem ZII : ∀ (L : List AB) (k : Nat), Ycl L k = L.set k .dead
 | [], k => by simp [Ycl]
 | _ :: L, 0 => rfl
 | B :: L, k + 1 => by simp [Ycl, ZII L k]
theorem Kv4 (B : AB) (L : List AB) : Ycl (B :: L) 0 = .dead :: L := _root_.id rfl
theorem JsW (B : AB) (L : List AB) (k : Nat) : Ycl (B :: L) (k + 1) = B :: Ycl L k := _root_.id rfl
def ownM (r : Row α) (l : List α) : List AB → Nat → Prop
 | [], _ => False
 | B :: _, 0 => B = resB r true l
 | _ :: L, k + 1 => ownM r l L k
theorem Xb7 (l : List α) (L : List AB) : ownM r l (resB r true l :: L) 0 = True := eq_true rfl
theorem zor (l : List α) (B : AB) (L : List AB) (k : Nat) : ownM r l (B :: L) (k + 1) = ownM r l L k := _root_.id rfl
theorem ZLZ (l : List α) : ∀ (L : List AB) (k : Nat), ownM r l L k → L[k]? = some (resB r true l)
 | [], _, e => e.elim
 | B :: _, 0, e => by rw [show B = resB r true l from e]; rfl
 | _ :: L, k + 1, e => by simpa using ZLZ l L k e
theorem J7h {sz : Nat} (hz : r.sz = sz) (L : List AB) (k : Nat) (l : List α) (by_ m : Nat) (ys : List AV) (hb : ownM r l L k) (hm : m ≠ 0) (h1 : (l.length + m) * by_ ≤ 140737488355328) (h2 : l.length + m ≤ maxLen) :
  appW (h ++ L) true sz by_ (apS r (h.length + k) l) m ys = some (.sl (h.length + L.length) 0 (l.length + m) (l.length + m) (some sz), h ++ (Ycl L k ++ [.blk true true (r.cells l ++ ys)])) := by
 subst hz
 have hx := ZLZ l L k hb
 have hk : k < L.length := (List.getElem?_eq_some_iff.1 hx).1
 unfold apS
 by_cases h0 : l.length = 0
 ·rw [if_pos h0]
  have : l = [] := List.eq_nil_of_length_eq_zero h0
  subst this
  simp only [List.length_nil, Nat.zero_add] at h1 h2
  rw [QqP, if_neg hm, if_pos ⟨h1, h2⟩]
  rw [Yro true rfl] at hx
  have hs : L.set k .dead = L := List.ext_getElem? fun i => by
   rw [List.getElem?_set]
   by_cases e : k = i
   ·subst e
    rw [if_pos rfl, if_pos hk, hx]
   ·rw [if_neg e]
  simp only [List.length_nil, Nat.zero_add, Qj7, List.nil_append, ZII, hs]
 ·rw [if_neg h0]
  rw [XCu true h0] at hx
  unfold appW
  dsimp only
  rw [if_neg hm, if_neg (by omega), Yn6, hx]
  simp only [true_and, Nat.zero_add, r.cells_len, Nat.le_refl, h1, h2, if_true, reduceCtorEq, if_false, List.drop_zero, List.length_append]
  rw [if_pos (by have := r.pos; exact ⟨by omega, trivial⟩), ZII, List.set_append_right _ _ (by omega), Nat.add_sub_cancel_left, List.append_assoc]
end
end Go.Proofs.YtfaccliekejngaaGreat
end
section
namespace Go.Proofs.YtfaccliekejngaaGreat
open Go.RowKit
def mksV (h : List AB) (fl : Bool) (z : List AV) (by_ : Nat) (le ca : AV) : Option (AV × List AB) :=
 match le, ca with
 | .i _ l, .i _ c => if 0 ≤ l ∧ l ≤ c ∧ (by_ : Int) * c ≤ 2 ^ 47 ∧ c ≤ maxLen then newB h fl ((List.replicate c.toNat z).flatten) (fun n => .sl n 0 l.toNat c.toNat none) else none
 | _, _ => none
theorem Xlq {h : List AB} (L : List AB) (k off n cap sz : Nat) (kk : Option Nat) : srcV (h ++ L) sz (.sl (h.length + k) off n cap kk) = if n = 0 then some (0, []) else (ownC L k).bind fun xs => if off + n * sz ≤ xs.length then some (n, (xs.drop off).take (n * sz)) else none := by
 simp only [srcV, Q4R]
theorem zpT {h : List AB} (L : List AB) (k : Nat) (B : AB) : (h ++ L).set (h.length + k) B = h ++ L.set k B := by
 rw [List.set_append_right _ _ (by omega), Nat.add_sub_cancel_left]
theorem JoA {α : Type} (a b : α) (l : List α) : (a :: l).set 0 b = b :: l := _root_.id rfl
theorem Xt0 {α : Type} (a b : α) (l : List α) (n : Nat) : (a :: l).set (n + 1) b = a :: l.set n b := _root_.id rfl
theorem X94 {h : List AB} {i : Nat} {xs : List AV} (e : XAh h i = some xs) (L : List AB) : XAh (h ++ L) i = some xs := by
 unfold XAh at e ⊢
 split at e
 ·rename_i h2
  rw [List.getElem?_append_left (List.getElem?_eq_some_iff.1 h2).1, h2]
  exact e
 ·cases e
theorem JwL {h : List AB} {i : Nat} {xs : List AV} (e : XAh h i = some xs) : i < h.length := by
 unfold XAh at e
 split at e
 ·rename_i h2
  exact (List.getElem?_eq_some_iff.1 h2).1
 ·cases e
theorem XR9 {h : List AB} (i : Nat) : XAh (h.map AB.freeze) i = XAh h i := by
 unfold XAh
 rw [List.getElem?_map]
 cases hx : h[i]? with
 | none => rfl
 | some B => cases B <;> rfl
theorem qee {h : List AB} {i : Nat} {xs : List AV} (e : XAh h i = some xs) : (∀ L, XAh (h ++ L) i = some xs) ∧ (∀ L o, ldV (h ++ L) none (.p i o) = xs[o]?) ∧ (∀ L o n, ldV (h ++ L) (some n) (.p i o) = if o + n ≤ xs.length then some (.ag ((xs.drop o).take n)) else none) ∧ (∀ c lo hi anc past, qOk (h.length + c) lo hi anc past i = true) ∧ (∀ c, (i < h.length + c) = True) ∧ (i < h.length) = True := by
 have hl := JwL e
 refine ⟨X94 e, fun L o => ?_, fun L o n => ?_, fun c lo hi anc past => X5H (by omega), fun c => eq_true (by omega), eq_true hl⟩
 ·simp only [ldV, X94 e, Option.bind_some]
 ·simp only [ldV, X94 e, Option.bind_some]
theorem qLE {α : Type} (r : Row α) (h : List AB) : Rd r h .ns [] := ⟨rfl, Nat.zero_le _⟩
theorem zlS {α : Type} (r : Row α) (h : List AB) : getS r h .ns = some [] := (qLE r h).get
theorem QAC (sz id off n c : Nat) (k : Option Nat) (kk : IntKind) (m : Int) : iadV sz (.sl id off n c k) (.i kk m) = if 0 ≤ m ∧ m < (n : Int) then some (.p id (off + m.toNat * sz)) else none := _root_.id rfl
theorem Yba {T : Env} {fr : List AV} {h : List AB} (fl : Bool) (z : List AV) (by_ : Nat) (le ca : Opd) : opR T (.mks fl z by_ le ca) fr h = mksV h fl z by_ (le.ev fr) (ca.ev fr) := by
 show (match le.ev fr, ca.ev fr with
  | .i _ l, .i _ c => if 0 ≤ l ∧ l ≤ c ∧ (by_ : Int) * c ≤ 2 ^ 47 ∧ c ≤ maxLen then newB h fl ((List.replicate c.toNat z).flatten) (fun n => .sl n 0 l.toNat c.toNat none) else none
  | _, _ => none) = _
 rfl
theorem XN5 (h : List AB) (fl : Bool) (z : List AV) (by_ : Nat) (k k' : IntKind) (l c : Int) : mksV h fl z by_ (.i k l) (.i k' c) = if 0 ≤ l ∧ l ≤ c ∧ (by_ : Int) * c ≤ 2 ^ 47 ∧ c ≤ maxLen then newB h fl ((List.replicate c.toNat z).flatten) (fun n => .sl n 0 l.toNat c.toNat none) else none := _root_.id rfl
theorem QMg {α : Type} (r : Row α) (n : Nat) (x : α) : (List.replicate n (r.f x)).flatten = r.cells (List.replicate n x) := by
 induction n with
 | zero => rfl
 | succ n ih => simp [List.replicate_succ, Row.cells, ih]
theorem YK8 (l : List Int) (o : Nat) (v : Int) (ho : o < l.length) : over (intR.cells l) o [.i .i64 v] = intR.cells (l.set o v) := by
 have e : ∀ l : List Int, intR.cells l = l.map (AV.i .i64) := fun l => by
  induction l with
  | nil => rfl
  | cons a l ih => simp only [Row.cells, List.flatMap_cons, List.map_cons] at ih ⊢; rw [ih]; rfl
 rw [e, e, List.map_set]
 unfold over
 rw [List.set_eq_take_append_cons_drop, if_pos (by simpa using ho)]
 simp
theorem Xc0 {α : Type} {r : Row α} {h L : List AB} {k c : Nat} {kk : Option Nat} {l : List α} (hb : ownC L k = some (r.cells l)) (hl : l.length ≤ maxLen) : Rd r (h ++ L) (.sl (h.length + k) 0 l.length c kk) l := by
 refine ⟨?_, hl⟩
 simp only [rdS, Q4R, hb, Option.bind_some, Nat.zero_add, List.drop_zero, r.cells_len]
 split
 ·rename_i h0
  rw [List.length_eq_zero_iff.1 h0]
  rfl
 ·rw [if_pos (Nat.le_refl _), List.take_of_length_le (by rw [r.cells_len]; exact Nat.le_refl _)]
def bxS (h : List AB) (i : Nat) : Option AV :=
 match h[i]? with
 | some (.blk false _ [v]) => some v
 | _ => none
theorem qBL {h : List AB} {i : Nat} {v : AV} (e : bxS h i = some v) : ∃ m, h[i]? = some (.blk false m [v]) := by
 unfold bxS at e
 split at e
 ·rename_i m w hb
  cases e
  exact ⟨m, hb⟩
 ·cases e
theorem XpD {h : List AB} {i : Nat} {v : AV} (e : bxS h i = some v) : XAh h i = some [v] := by
 obtain ⟨m, hb⟩ := qBL e
 unfold XAh
 rw [hb]
theorem Q3l {h : List AB} {i : Nat} {v : AV} (e : bxS h i = some v) (hh : HOk h) : v.ok (fun i => decide (i < h.length)) = true := by
 obtain ⟨m, hb⟩ := qBL e
 have := hh i _ hb
 simpa [AB.ok, okL] using this
theorem zXA {h : List AB} {i : Nat} : bxS (h.map AB.freeze) i = bxS h i := by
 unfold bxS
 rw [List.getElem?_map]
 cases hx : h[i]? with
 | none => rfl
 | some B =>
  cases B with
  | blk fl m xs => cases fl <;> (cases xs with | nil => rfl | cons a l => cases l <;> rfl)
  | _ => rfl
def bxL : List AB → Nat → Option AV
 | [], _ => none
 | .blk false _ [v] :: _, 0 => some v
 | _ :: _, 0 => none
 | _ :: L, k + 1 => bxL L k
theorem ZdW : ∀ (L : List AB) (k : Nat), bxS L k = bxL L k
 | [], k => by simp [bxS, bxL]
 | B :: L, 0 => by
  cases B with
  | blk fl m xs => cases fl <;> (cases xs with | nil => simp [bxS, bxL] | cons a l => cases l <;> simp [bxS, bxL])
  | _ => simp [bxS, bxL]
 | B :: L, k + 1 => by
  have := ZdW L k
  have e : bxL (B :: L) (k + 1) = bxL L k := by
   cases B with
   | blk fl m xs => cases fl <;> (cases xs with | nil => rfl | cons a l => cases l <;> rfl)
   | _ => rfl
  rw [e, ← this]
  unfold bxS
  rw [List.getElem?_cons_succ]
theorem Ybo {h : List AB} (L : List AB) (k : Nat) : bxS (h ++ L) (h.length + k) = bxL L k := by
 rw [← ZdW]
 unfold bxS
 rw [Yn6]
theorem JY6 (m : Bool) (v : AV) (L : List AB) : bxL (.blk false m [v] :: L) 0 = some v := _root_.id rfl
theorem KUI (B : AB) (L : List AB) (k : Nat) : bxL (B :: L) (k + 1) = bxL L k := by
 cases B with
 | blk fl m xs => cases fl <;> (cases xs with | nil => rfl | cons a l => cases l <;> rfl)
 | _ => rfl
theorem Kwt (q : Nat → Bool) (st : LoopState) (pd : XE) (fr : List AV) (ps : List Nat) (a b : CC) : (AB.lp st pd fr ps a b).ok q = okL q fr := _root_.id rfl
section
variable {c : Ctx} {k : List IT} {fr : List AV} {h : List AB}
theorem W_rf {n : Nat} {q : Opd} {ps : List Nat} {a b : CC} {g : Nat} {fst cap : List AV} {v : AV} {h1 h2 : List AB} {st : LoopState} {fr1 : List AV} {ps1 : List Nat} {a1 b1 : CC} (hr : c.rb = false) (hn : h.length = n) (hq : q.ev fr = .f (.func g) fst cap) (hh : h ++ [AB.lp .ready .n fr ps a b] = h1)
  (hf : FnAt c.P g (fst ++ [AV.y n] ++ cap) h1 v h2) (hl : h2[n]? = some (.lp st .n fr1 ps1 a1 b1)) (hst : st ≠ .busy) (hw : W c k fr (h2.set n .dead)) : W c (.code (.rf q ps a b) :: k) fr h := by
 subst hn
 subst hh
 simp only [W, Lv_n, IT.wp, wpC]
 exact ⟨hr, g, fst, cap, v, h2, st, .n, fr1, ps1, a1, b1, hq, hf, hl, hst, hw⟩
theorem RdAt'.run {P : Program} (hm : P.follows .mixedOrders = true) {T : Env} (hT : T.Ok P) {id : Nat} {args : List AV} {H : List AB} {st : LoopState} {pd : XE} {fr0 : List AV} {ps : List Nat} {asg bd : CC} {a : AV} {H' : List AB} (hlp : H[id]? = some (.lp st pd fr0 ps asg bd)) (hl : ps.length = args.length)
  (w : W ⟨P, T, true, H.length, fun x fr h1 => x = .n ∧ ∃ pd1 fr01 ps1 a1 b1, h1[id]? = some (.lp .ready pd1 fr01 ps1 a1 b1) ∧
   W ⟨P, T, true, H.length, fun x _ h2 => ∃ st2 pd2 fr02 ps2 a2 b2, h2[id]? = some (.lp st2 pd2 fr02 ps2 a2 b2) ∧ (zLe id x fr02 ps2 a2 b2 h2).1 = a ∧ (zLe id x fr02 ps2 a2 b2 h2).2 = H'⟩ [.code bd] fr (h1.set id (.lp .busy pd1 fr01 ps1 a1 b1))⟩ [.code asg] (qTQ ps args fr0) H) : RdAt' P id args H a H' := by
 have conv : ∀ {K : XE → List AV → List AB → Prop} {cd : CC} {fr : List AV} {h : List AB}, W ⟨P, T, true, H.length, K⟩ [.code cd] fr h → wpC P (smT T) true H.length cd K fr h := fun {K cd fr h} e => by
  exact e
 obtain ⟨a0, h0, q1, q2⟩ := RdAt'.of (Y7x hm hT) (Q := fun x y => x = a ∧ y = H') hlp hl (Q4X (fun hk e => K0A _ hk e) _ (fun x fr h1 ⟨e, pd1, fr01, ps1, a1, b1, h2, h3⟩ => ⟨e, pd1, fr01, ps1, a1, b1, h2, conv h3⟩) (conv w))
 obtain ⟨rfl, rfl⟩ := q2
 exact q1
end
def JAW : List Pt → List Pt
 | [] => []
 | p :: l => ⟨p.k, p.lo, p.hi, [], []⟩ :: JAW l
theorem XyI : JAW [] = [] := _root_.id rfl
theorem XnF (k lo hi : Nat) (rs ws : List Nat) (l : List Pt) : JAW (⟨k, lo, hi, rs, ws⟩ :: l) = ⟨k, lo, hi, [], []⟩ :: JAW l := _root_.id rfl
theorem K37 (len0 lo hi anc : Nat) (past : List Pt) (id : Nat) : qOk len0 lo hi anc (JAW past) id = qOk len0 lo hi anc past id := by
 unfold qOk
 congr 1
 induction past with
 | nil => rfl
 | cons p l ih => simp only [JAW, List.any_cons, ih]
theorem Qof (len0 anc n : Nat) (past : List Pt) : seen len0 anc (JAW past) n = seen len0 anc past n := by
 unfold seen
 congr 1
 funext id
 exact K37 len0 0 0 anc past id
theorem quK {c : Ctx} {k : List IT} {fr : List AV} {h : List AB} {len0 n anc : Nat} {past : List Pt} {d : Option Nat} {l : List DOp} (ws : List Nat) (vs : List AV) (v : AV) (G : List AB) : W c (.dmk ws vs (some (v, G)) len0 n anc past d l :: k) fr h = (okL (fun i => decide (i < h.length)) vs = true ∧ HOk h ∧ past.all (QPe len0 anc past ws) = true ∧ (ws.all fun id => decide (id < h.length)) = true ∧ h.length ≤ G.length ∧ v.ok (qOk len0 h.length G.length anc past) = true ∧
      (ws.all fun id => (G.getD id .dead).ok (qOk len0 h.length G.length anc past)) = true ∧ ((G.drop h.length).all fun B => B.ok (qOk len0 h.length G.length anc past)) = true ∧
      W c (.drw len0 (n + 1) (⟨n, h.length, G.length, seen len0 anc (JAW past) h.length, ws⟩ :: past) l :: k) (put fr d v) (Xxu ws G 0 h)) := by
  rw [Qof]
  exact K9F ws vs v G
end Go.Proofs.YtfaccliekejngaaGreat
end
section
namespace Go.Proofs.YtfaccliekejngaaGreat
def X1r := (And.intro (And.intro (And.intro (And.intro (And.intro (And.intro (And.intro @ZaL (And.intro @ZlI @Kb5)) (And.intro (And.intro @J0T @ZLD) (And.intro @qZY @YLp))) (And.intro (And.intro @K0V (And.intro @Z30 @Xcs)) (And.intro (And.intro @XDG @J3M) (And.intro @KIQ @qB1)))) (And.intro (And.intro (And.intro @qOG (And.intro @ZyQ @XPQ)) (And.intro (And.intro @YbP @QSu) (And.intro @qBi @znH))) (And.intro (And.intro (And.intro @qua @W_op) (And.intro @ZHQ @zq0)) (And.intro (And.intro @X5C @qmY) (And.intro @JLI @QTt))))) (And.intro (And.intro (And.intro (And.intro @QRJ (And.intro @QqV @q7h)) (And.intro (And.intro @Zbn @JvT) (And.intro @pl_0 @pl_s))) (And.intro (And.intro @Zgd (And.intro @YCc @zMd)) (And.intro (And.intro @zma @ev_t) (And.intro @ev_c @Y49)))) (And.intro (And.intro (And.intro @JfJ (And.intro @X6D @Xyg)) (And.intro (And.intro @qOl @YHF) (And.intro @XXn @XHE))) (And.intro (And.intro (And.intro @zjm @J3Y) (And.intro @Qty @Khl)) (And.intro (And.intro @YWR @Yva) (And.intro @zvb @qX6)))))) (And.intro (And.intro (And.intro (And.intro (And.intro @Xte (And.intro @JjR @ZRn)) (And.intro (And.intro @ZEB @zRR) (And.intro @Jzu @KGr))) (And.intro (And.intro @z4X (And.intro @zJN @qYW)) (And.intro (And.intro @QPl @XO1) (And.intro @XQf @Ys0)))) (And.intro (And.intro (And.intro @JLH (And.intro @qTR @QPB)) (And.intro (And.intro @YIC @zkn) (And.intro @QF1 @Zzp))) (And.intro (And.intro (And.intro @YVZ @ZAp) (And.intro @zVj @KtW)) (And.intro (And.intro @qKA @Ktm) (And.intro @JKQ @J0U))))) (And.intro (And.intro (And.intro (And.intro @zyx (And.intro @Tab.at_nil @Tab.at_cons)) (And.intro (And.intro @q7z @Qua) (And.intro @QXJ @zYU))) (And.intro (And.intro (And.intro @Xnw @qT2) (And.intro @ZCs @JsX)) (And.intro (And.intro @K5K @qI2) (And.intro @JwX @Zjs)))) (And.intro (And.intro (And.intro @Zoy (And.intro @JMb @zU2)) (And.intro (And.intro @all_nil @all_cons) (And.intro @Kaw @qg5))) (And.intro (And.intro (And.intro @zCp @XNO) (And.intro @KH3 @qLF)) (And.intro (And.intro @z4j @XH6) (And.intro @KZX @JOg))))))) (And.intro (And.intro (And.intro (And.intro (And.intro (And.intro @zfy (And.intro @QeZ @zlw)) (And.intro (And.intro @JaU @Yv6) (And.intro @qvM @Y7r))) (And.intro (And.intro @zgN (And.intro @QUw @qTw)) (And.intro (And.intro @zcZ @XL3) (And.intro @X9C @JwG)))) (And.intro (And.intro (And.intro @qg2 (And.intro @QJw @XZZ)) (And.intro (And.intro @QAI @QYb) (And.intro @YFu @QJI))) (And.intro (And.intro (And.intro @X2G @Jfl) (And.intro @KW0 @JoB)) (And.intro (And.intro @zh2 @YkC) (And.intro @ZN3 @Xng))))) (And.intro (And.intro (And.intro (And.intro @true_and (And.intro @and_true @true_implies)) (And.intro (And.intro @Bool.true_and @Bool.and_true) (And.intro @Bool.false_and @Bool.and_false))) (And.intro (And.intro (And.intro @Nat.lt_add_one @tp_0) (And.intro @tp_s @qG5)) (And.intro (And.intro @Jcg @zmc) (And.intro @qSo @Int.cast_ofNat_Int)))) (And.intro (And.intro (And.intro @Int.natCast_inj (And.intro @Int.ofNat_lt @Int.ofNat_le)) (And.intro (And.intro @Int.toNat_natCast @Int.natCast_nonneg) (And.intro @not_false_eq_true @not_true_eq_false))) (And.intro (And.intro (And.intro @Bool.false_eq_true @YCu) (And.intro @z93 @zY9)) (And.intro (And.intro @Yzc @K8x) (And.intro @zas @Q7O)))))) (And.intro (And.intro (And.intro (And.intro (And.intro @z3R (And.intro @qBT @XIn)) (And.intro (And.intro @qZZ @qfO) (And.intro @z1m @QqP))) (And.intro (And.intro @Xh7 (And.intro @zyQ @Kv4)) (And.intro (And.intro @JsW @Xb7) (And.intro @zor @Qza)))) (And.intro (And.intro (And.intro @zcp (And.intro @XAn @q5Y)) (And.intro (And.intro @zo5 @Z8N) (And.intro @qH0 @ZPD))) (And.intro (And.intro (And.intro @YGj @XJO) (And.intro @zob @zeJ)) (And.intro (And.intro @Zdx @KRX) (And.intro @XOq @qb9))))) (And.intro (And.intro (And.intro (And.intro @Xf7 (And.intro @qy1 @QmC)) (And.intro (And.intro @zlI @KNY) (And.intro @JFs @KXp))) (And.intro (And.intro (And.intro @XFB @ZqC) (And.intro @Ky1 @Y4N)) (And.intro (And.intro @XKn @JPb) (And.intro @zpT @JoA)))) (And.intro (And.intro (And.intro @Xt0 (And.intro @Nat.add_assoc @Ybo)) (And.intro (And.intro @JY6 @KUI) (And.intro @Q4R @zlS))) (And.intro (And.intro (And.intro @QAC @Yba) (And.intro @XN5 @ZD2)) (And.intro (And.intro @JCL @Ye5) (And.intro @Qjs @qhD))))))))
def Z1D := (And.intro (And.intro (And.intro (And.intro (And.intro (And.intro (And.intro @q6L @qao) (And.intro @KLS @Jsy)) (And.intro (And.intro @ZH6 @ZRb) (And.intro @KDT @qph))) (And.intro (And.intro (And.intro @QNL @QDy) (And.intro @Q1z @ZXF)) (And.intro (And.intro @Y1o @qS0) (And.intro @zPG @QkC)))) (And.intro (And.intro (And.intro (And.intro @qX2 @YZL) (And.intro @Qyu @quK)) (And.intro (And.intro @XyI @XnF) (And.intro @K5J @qbK))) (And.intro (And.intro (And.intro @JTX @QE7) (And.intro @qwE @Kvj)) (And.intro (And.intro @Yhy @KBZ) (And.intro @Kmx (And.intro @q3C @z6w)))))) (And.intro (And.intro (And.intro (And.intro (And.intro @zv8 @XCb) (And.intro @zZB @J18)) (And.intro (And.intro @Qbd @qJV) (And.intro @JLb @K55))) (And.intro (And.intro (And.intro @X1F @Y3P) (And.intro @Zu1 @XWG)) (And.intro (And.intro @XpA @Qpp) (And.intro @zgD @YRC)))) (And.intro (And.intro (And.intro (And.intro @qkQ @qnJ) (And.intro @KGo @XY5)) (And.intro (And.intro @Ylq @K03) (And.intro @YLV @ZW8))) (And.intro (And.intro (And.intro @qWM @Jjm) (And.intro @J8K @ZiE)) (And.intro (And.intro @zIb @KdN) (And.intro @qfU (And.intro @KzT @znw))))))) (And.intro (And.intro (And.intro (And.intro (And.intro (And.intro @qIi @KdC) (And.intro @qN2 @Zf5)) (And.intro (And.intro @JnB @XfZ) (And.intro @qjX @JQR))) (And.intro (And.intro (And.intro @QHy @Zjq) (And.intro @Zrb @XnY)) (And.intro (And.intro @Jsj @ZnY) (And.intro @ok_i @ok_b)))) (And.intro (And.intro (And.intro (And.intro @ok_s @Yiy) (And.intro @qj1 @K30)) (And.intro (And.intro @ok_p @ok_y) (And.intro @q5T @ok_f))) (And.intro (And.intro (And.intro @JAX @ZVg) (And.intro @YI0 @qMC)) (And.intro (And.intro @YeG @JRH) (And.intro @KNH (And.intro @JpE @Qsg)))))) (And.intro (And.intro (And.intro (And.intro (And.intro @JbI @qiT) (And.intro @YNo @any_cons)) (And.intro (And.intro @zoY @YWg) (And.intro @Ys6 @K90))) (And.intro (And.intro (And.intro @JZs @YFp) (And.intro @Jat @YpS)) (And.intro (And.intro @YAx @KED) (And.intro @Tab.ws_nil (And.intro @Tab.ws_cons @decide_true))))) (And.intro (And.intro (And.intro (And.intro @decide_false @Bool.or_true) (And.intro @Bool.or_false @Bool.true_or)) (And.intro (And.intro @Bool.false_or @Bool.not_true) (And.intro @Bool.not_false @KSA))) (And.intro (And.intro (And.intro @XNG @ZyD) (And.intro @Z97 @z1G)) (And.intro (And.intro @qbd @Zh9) (And.intro @Kwt (And.intro @ZrU @XPg))))))))
def q9C := (And.intro (And.intro (And.intro (And.intro (And.intro @YEP @XkF) (And.intro @zRa (And.intro @Q7o @Y0G))) (And.intro (And.intro @nd_0 (And.intro @nd_s @KdE)) (And.intro @qSo (And.intro @zmc @QJw)))) (And.intro (And.intro (And.intro @XZZ (And.intro @decide_eq_true_eq @Bool.and_eq_true)) (And.intro @Bool.and_true (And.intro @Bool.true_and @Nat.lt_add_right_iff_pos))) (And.intro (And.intro @Nat.lt_add_one (And.intro @Nat.add_lt_add_iff_left @Nat.zero_lt_succ)) (And.intro @or_true (And.intro @true_or @and_true))))) (And.intro (And.intro (And.intro (And.intro @true_and @and_self) (And.intro @Nat.zero_add (And.intro @Nat.add_zero @false_or))) (And.intro (And.intro @zfI (And.intro @q2w @YRK)) (And.intro @Zso (And.intro @Jcg @qG5)))) (And.intro (And.intro (And.intro @imp_self (And.intro @QPQ @ZeP)) (And.intro @JEE (And.intro @KdD @decide_true))) (And.intro (And.intro @Bool.or_true (And.intro @ZIt @ZLN)) (And.intro @J8D (And.intro @KvS @Nat.lt_irrefl))))))
def zVq := (And.intro (And.intro (And.intro @JQZ @Jty) (And.intro @zW6 (And.intro @QWR @Xlq))) (And.intro (And.intro @YaF @KOt) (And.intro @ZIs (And.intro @zaA @JUJ))))
end Go.Proofs.YtfaccliekejngaaGreat
end
