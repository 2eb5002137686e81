/- Part 14 of what the laws' proofs rest on. No condition. -/
import Derived.Test.YtbcpcjofkfgjoaaPh13
set_option linter.all false
section
namespace Go.Proofs.Ytbcpcjofkfgjoaa
open Go.RowKit
section
variable {T : Env} {fr : List AV} {h : List AB} {α : Type} {r : Row α}
def rsl (r : Row α) (id : Nat) (l : List α) : AV := if l.length = 0 then .sl id 0 0 0 (some 0) else .sl id 0 l.length l.length (some r.sz)
def resB (r : Row α) (m : Bool) (l : List α) : AB := if l.length = 0 then .dead else .blk true m (r.cells l)
theorem KjC (id : Nat) (l : List α) : (rsl r id l).isSl = true := by unfold rsl; split <;> rfl
theorem zfb (id : Nat) (l : List α) : (rsl r id l).isStr = false := qHG (KjC id l)
theorem K4h (id : Nat) (l : List α) : (rsl r id l).one = true := Q3S (KjC id l)
theorem YVE (id : Nat) (l : List α) : (rsl r id l).known = true := YHr (KjC id l)
theorem z4D (id : Nat) (l : List α) : (rsl r id l).cells = [rsl r id l] := Qbv (KjC id l)
theorem KdU (id : Nat) (l : List α) : lenV (rsl r id l) = some (l.length : Int) := by
 unfold rsl
 split
 ·rename_i e; rw [e]; rfl
 ·rfl
theorem JL8 (q : Nat → Bool) (id : Nat) (l : List α) (hq : q id = true) : (rsl r id l).ok q = true := by unfold rsl; split <;> simp [AV.ok, hq]
theorem YSe (f : Nat → Nat) (id : Nat) (l : List α) : (rsl r id l).ren f = rsl r (f id) l := by unfold rsl; split <;> simp [AV.ren]
theorem XZF (id : Nat) (l : List α) : idOf (rsl r id l) = [id] := by unfold rsl; split <;> rfl
theorem QP8 : lenV .ns = some 0 := _root_.id rfl
theorem QTV (m : Bool) (l : List α) : (resB r m l).freeze = resB r false l := by unfold resB; split <;> rfl
theorem XYg (q : Nat → Bool) (m : Bool) (l : List α) : (resB r m l).ok q = true := by unfold resB; split <;> rfl
def ownR (r : Row α) (l : List α) : List AB → Nat → Prop
 | [], _ => False
 | B :: _, 0 => ∃ m, B = resB r m l
 | _ :: L, k + 1 => ownR r l L k
theorem qEF (m : Bool) (l : List α) (L : List AB) : ownR r l (resB r m l :: L) 0 = True := eq_true ⟨m, rfl⟩
theorem Kmt (l : List α) (B : AB) (L : List AB) (k : Nat) : ownR r l (B :: L) (k + 1) = ownR r l L k := _root_.id rfl
theorem YCI (l : List α) : ∀ (L : List AB) (k : Nat), ownR r l L k → ∃ m, L[k]? = some (resB r m l)
 | [], _, e => e.elim
 | B :: _, 0, ⟨m, e⟩ => ⟨m, by rw [e]; rfl⟩
 | _ :: L, k + 1, e => by simpa using YCI l L k e
theorem ZqT {H : List AB} {id : Nat} {m : Bool} {l : List α} (e : H[id]? = some (resB r m l)) : rdS H r.sz (rsl r id l) = some (l.length, r.cells l) := by
 unfold rsl
 by_cases h0 : l.length = 0
 ·rw [if_pos h0]
  have : l = [] := List.eq_nil_of_length_eq_zero h0
  subst this
  simp [rdS, Row.cells]
 ·rw [if_neg h0]
  simp only [rdS]
  rw [if_neg h0]
  unfold resB at e
  rw [if_neg h0] at e
  simp only [QCI, e, Option.bind_some, Nat.zero_add, List.drop_zero, r.cells_len]
  rw [if_pos (Nat.le_refl _), List.take_of_length_le (by rw [r.cells_len]; exact Nat.le_refl _)]
theorem Zzg {H : List AB} {id : Nat} {m : Bool} {l : List α} (e : H[id]? = some (resB r m l)) (hl : l.length ≤ maxLen) : Rd r H (rsl r id l) l := ⟨ZqT e, hl⟩
theorem ZgF (L : List AB) (k : Nat) : (h ++ L)[h.length + k]? = L[k]? := by rw [List.getElem?_append_right (by omega), Nat.add_sub_cancel_left]
theorem KqK (L : List AB) (k : Nat) (l : List α) (e : ownR r l L k) (hl : l.length ≤ maxLen) : getS r (h ++ L) (rsl r (h.length + k) l) = some l := by
 obtain ⟨m, hm⟩ := YCI l L k e
 exact (Zzg (by rw [ZgF]; exact hm) hl).get
theorem ZNU {sz : Nat} (hz : r.sz = sz) (id : Nat) (l : List α) (k : IntKind) (m : Int) : iadV sz (rsl r id l) (.i k m) = if 0 ≤ m ∧ m < (l.length : Int) then some (elP sz (rsl r id l) m.toNat 0) else none := by
 subst hz
 unfold rsl
 split
 ·rename_i h0
  simp only [iadV, h0, elP, Nat.add_zero]
 ·simp only [iadV, elP, Nat.add_zero]
theorem qtl (o sz n j : Nat) (id : Nat) (l : List α) : fadV o (elP sz (rsl r id l) n j) = some (elP sz (rsl r id l) n (j + o)) := by
 unfold rsl
 split <;> simp [elP, fadV, Nat.add_assoc]
theorem XhQ (q : Nat → Bool) (id sz n j : Nat) (l : List α) (hq : q id = true) : (elP sz (rsl r id l) n j).ok q = true := by unfold rsl; split <;> simp [elP, AV.ok, hq]
theorem zlu {sz : Nat} (hz : r.sz = sz) (L : List AB) (k : Nat) (l : List α) (n j : Nat) (e : ownR r l L k) (hn : n < l.length) (hj : j < sz) : ldV (h ++ L) none (elP sz (rsl r (h.length + k) l) n j) = (r.f (l.getD n r.d))[j]? := by
 subst hz
 obtain ⟨m, hm⟩ := YCI l L k e
 have hb : QCI (h ++ L) (h.length + k) = some (r.cells l) := by
  unfold QCI
  rw [ZgF, hm]
  unfold resB
  rw [if_neg (by omega)]
 unfold rsl
 rw [if_neg (by omega)]
 simp only [elP, ldV, hb, Option.bind_some, Nat.zero_add]
 exact r.cells_get l n j hn hj
theorem zFv {H : List AB} {sz : Nat} {s : AV} {x : Nat × List AV} (e : rdS H sz s = some x) : srcV H sz s = some x := by
 cases s <;> first | exact e | cases e
theorem qm2 {sz : Nat} (hz : r.sz = sz) (L : List AB) (k : Nat) (l : List α) (e : ownR r l L k) : srcV (h ++ L) sz (rsl r (h.length + k) l) = some (l.length, r.cells l) := by
 subst hz
 obtain ⟨m, hm⟩ := YCI l L k e
 exact zFv (ZqT (by rw [ZgF]; exact hm))
theorem Rd.src {s : AV} {l : List α} (e : Rd r h s l) {sz : Nat} (hz : r.sz = sz) (x : List AB) : srcV (h ++ x) sz s = some (l.length, r.cells l) := by
 subst hz
 exact zFv (e.app x).1
theorem Wk.empty (id off id' off' c : Nat) (k : Option Nat) : Wk (.sl id off 0 0 (some 0)) (.sl id' off' 0 c k) := fun ρ v h => by
 cases h with
 | sl _ _ _ _ _ b o n cap' h h1 h2 h3 => exact .sz id off _ cap' h3 (fun e => nomatch e)
 | sz _ _ a c h hn => exact .sz id off a c h hn
theorem KdV (id : Nat) {l : List α} (h0 : l.length = 0) {v : AV} (hv : Wk (.sl id 0 0 0 (some 0)) v) : Wk (rsl r id l) v := by
 unfold rsl
 rw [if_pos h0]
 exact hv
theorem XTw (id : Nat) {l : List α} (h0 : l.length ≠ 0) : rsl r id l = .sl id 0 l.length l.length (some r.sz) := by
 unfold rsl
 rw [if_neg h0]
theorem JFe (m : Bool) {l : List α} (h0 : l.length ≠ 0) : resB r m l = .blk true m (r.cells l) := by
 unfold resB
 rw [if_neg h0]
theorem zXl (m : Bool) {l : List α} (h0 : l.length = 0) : resB r m l = .dead := by
 unfold resB
 rw [if_pos h0]
theorem Bt.one {P : Program} {h L : List AB} {v : AV} {l : List α} (k : Nat) (hh : HOk h) (h0 : l.length = 0 → Wk (.sl h.length 0 0 0 (some 0)) v) (hk : k < L.length) (h1 : l.length ≠ 0 → v = .sl (h.length + k) 0 l.length l.length (some r.sz) ∧ L[k]? = some (.blk true true (r.cells l))) : Bt P h.length [v] (h ++ L) [rsl r h.length l] (h ++ [resB r true l]) := by
 by_cases e : l.length = 0
 ·refine Bt.trans (Bt.wk1 (KdV (r := r) h.length e (h0 e))) (Bt.sel [k] hh (by simp) ?_ ?_)
  ·refine ⟨⟨L[k], List.getElem?_eq_getElem hk, ?_⟩, trivial⟩
   rw [zXl true e]
   trivial
  ·refine ⟨.inr ⟨JL8 _ _ _ (by simp), ?_⟩, trivial⟩
   unfold rsl
   rw [if_pos e]
   exact Wk.empty _ _ _ _ _ _
 ·obtain ⟨rfl, hb⟩ := h1 e
  refine Bt.sel [k] hh (by simp) ⟨⟨_, hb, ?_⟩, trivial⟩ ⟨.inr ⟨JL8 _ _ _ (by simp), ?_⟩, trivial⟩
  ·rw [JFe true e]
   exact ⟨fun _ => rfl, rfl⟩
  ·rw [YSe, XTw _ e]
   have : selN h.length [k] h.length = h.length + k := by simp [selN]
   rw [this]
   exact Wk.refl _
theorem Bt.one0 {P : Program} {h : List AB} {v : AV} {l : List α} (h0 : l.length = 0) (hv : Wk (.sl h.length 0 0 0 (some 0)) v) : Bt P h.length [v] (h ++ []) [rsl r h.length l] (h ++ [resB r true l]) := by
 rw [List.append_nil, zXl true h0]
 exact Bt.trans (Bt.wk1 (KdV (r := r) h.length h0 hv)) (Bt.pad _ h 1)
theorem FnC.empty1 {P : Program} {g id off cap : Nat} {a : AV} {h' : List AB} (h1 : FnC P g [.ns] h a h') (h2 : FnC P g [.se] h a h') : FnC P g [.sl id off 0 cap (some 0)] h a h' := by
 refine ⟨h1.1, fun ρ w vals hr hv => ?_⟩
 obtain ⟨c, hc, h0⟩ := hv.get (j := 0) rfl
 have mk : ∀ x : AV, VR ρ x c → VL ρ [x] vals := fun x hx => ⟨hv.1, fun j b d hb hd => by
  cases j with
  | zero =>
   cases hb
   rw [hc] at hd
   cases hd
   exact hx
  | succ j => simp at hb⟩
 cases h0 with
 | sl _ _ _ _ _ b o n cap' _ _ _ h3 => exact h2.2 ρ w vals hr (mk .se (.se _ _ h3))
 | sz _ _ ad c hcap hn =>
  cases ad with
  | none =>
   obtain rfl := hn rfl
   exact h1.2 ρ w vals hr (mk .ns .ns)
  | some ad => exact h2.2 ρ w vals hr (mk .se (.se _ _ hcap))
theorem zbB (n : Bool) (x y : Opd) : opR T (.eqn n x y) fr h = (KML (x.ev fr) (y.ev fr)).map fun r => (.b (r ^^ n), h) := _root_.id rfl
theorem KAT : KML .ns .ns = some true := _root_.id rfl
theorem qOs : KML .se .ns = some false := _root_.id rfl
theorem YWv (id off n c : Nat) (k : Option Nat) : KML (.sl id off n c k) .ns = if n = 0 ∧ k = some 0 then none else some false := _root_.id rfl
theorem z4U : AV.ns.isStr = false := _root_.id rfl
theorem zLU : AV.se.isStr = false := _root_.id rfl
theorem Kz5 (a b c d : Nat) (k : Option Nat) : (AV.sl a b c d k).isStr = false := _root_.id rfl
theorem JA5 (q : Nat → Bool) (f : Nat → Nat) (m : Bool) (l : List α) : BWk q f (resB r m l) (resB r m l) = True := by
 unfold resB
 split
 ·exact eq_true trivial
 ·exact eq_true ⟨fun z => z, rfl⟩
theorem z85 (q : Nat → Bool) (f : Nat → Nat) (m' m : Bool) (xs' xs : List AV) : BWk q f (.blk true m' xs') (.blk true m xs) = ((m' = true → m = true) ∧ xs' = xs) := _root_.id rfl
theorem Yf4 (q : Nat → Bool) (f : Nat → Nat) (m' m : Bool) (xs' xs : List AV) : BWk q f (.blk false m' xs') (.blk false m xs) = ((m' = true → m = true) ∧ okL q xs' = true ∧ WkL (renL f xs') xs) := _root_.id rfl
theorem XhL (q : Nat → Bool) (f : Nat → Nat) (B : AB) : BWk q f .dead B = True := by cases B <;> rfl
theorem qTn (q : Nat → Bool) (f : Nat → Nat) (st' st : LoopState) (pd' pd : XE) (fr' fr : List AV) (ps' ps : List Nat) (a' a b' b : CC) : BWk q f (.lp st' pd' fr' ps' a' b') (.lp st pd fr ps a b) = ((st' = st ∧ pd' = pd ∧ ps' = ps ∧ a' = a ∧ b' = b) ∧ okL q fr' = true ∧ WkL (renL f fr') fr) := _root_.id rfl
theorem QRQ (q : Nat → Bool) (id : Nat) (l : List α) (hq : q id = true) : (rsl r id l).ok q = True := eq_true (JL8 q id l hq)
theorem K8B (p k : Nat) (sel : List Nat) : selN p sel (p + k) = p + sel.getD k 0 := qzg k
theorem QLQ (p : Nat) (sel : List Nat) : selN p sel p = p + sel.getD 0 0 := qzg (p := p) 0
theorem nd_0 (a : Nat) (l : List Nat) : (a :: l).getD 0 0 = a := _root_.id rfl
theorem nd_s (a : Nat) (l : List Nat) (k : Nat) : (a :: l).getD (k + 1) 0 = l.getD k 0 := by simp
theorem Jaf : intR.sz = 1 := _root_.id rfl
theorem JjW : dotR.sz = 2 := _root_.id rfl
theorem XwK : r.cells [] = [] := _root_.id rfl
theorem XON (k : IntKind) (n : Int) : (AV.i k n).known = true := _root_.id rfl
theorem qYh (x : Bool) : (AV.b x).known = true := _root_.id rfl
theorem JOX (x : List UInt8) : (AV.s x).known = true := _root_.id rfl
theorem Z7b (a b : Nat) : (AV.p a b).known = true := _root_.id rfl
theorem ZQF : AV.ns.known = true := _root_.id rfl
theorem Jmk (a b c d : Nat) (k : Option Nat) : (AV.sl a b c d k).known = true := _root_.id rfl
theorem Jqg (f : Fn) (a b : List AV) : (AV.f f a b).known = true := _root_.id rfl
theorem XTe (l : List AV) : (AV.ag l).known = true := _root_.id rfl
def chkI : Nat → Option (List AV) → Bool
 | 0, some [] => true
 | n + 1, some (.i .i64 _ :: l) => chkI n (some l)
 | _, _ => false
def valI : Option (List AV) → List Int
 | some (.i _ a :: l) => a :: valI (some l)
 | _ => []
theorem Yhk : chkI 0 (some []) = true := by simp [chkI]
theorem Znj (n : Nat) (a : Int) (l : List AV) : chkI (n + 1) (some (.i .i64 a :: l)) = chkI n (some l) := by simp [chkI]
theorem KvE : valI (some []) = [] := by simp [valI]
theorem Qyw (k : IntKind) (a : Int) (l : List AV) : valI (some (.i k a :: l)) = a :: valI (some l) := by simp [valI]
theorem qKm : ∀ (n : Nat) (l : List AV), chkI n (some l) = true → l = intR.cells (valI (some l)) ∧ (valI (some l)).length = n
 | 0, [], _ => by simp [valI, XwK]
 | 0, _ :: _, e => by simp [chkI] at e
 | n + 1, [], e => by simp [chkI] at e
 | n + 1, .i .i64 a :: l, e => by
  rw [Znj] at e
  obtain ⟨h1, h2⟩ := qKm n l e
  rw [Qyw]
  refine ⟨?_, by simp [h2]⟩
  simp only [Row.cells, List.flatMap_cons, ZwQ, List.cons_append, List.nil_append]
  congr 1
 | n + 1, .i .u8 _ :: _, e | n + 1, .i .u16 _ :: _, e | n + 1, .i .u32 _ :: _, e | n + 1, .i .u64 _ :: _, e | n + 1, .i .i8 _ :: _, e | n + 1, .i .i16 _ :: _, e | n + 1, .i .i32 _ :: _, e => by simp [chkI] at e
 | n + 1, .b _ :: _, e | n + 1, .s _ :: _, e | n + 1, .p _ _ :: _, e | n + 1, .np :: _, e | n + 1, .sl _ _ _ _ _ :: _, e | n + 1, .se :: _, e | n + 1, .ns :: _, e | n + 1, .f _ _ _ :: _, e | n + 1, .nf :: _, e | n + 1, .ifc _ _ :: _, e | n + 1, .ni :: _, e | n + 1, .ag _ :: _, e | n + 1, .tu _ :: _, e | n + 1, .top :: _, e | n + 1, .y _ :: _, e => by simp [chkI] at e
theorem Kvt (L : List AB) (k n c : Nat) (kk : Option Nat) (e : chkI n (ownC L k) = true) (hn : n ≤ 1000) : getS intR (h ++ L) (.sl (h.length + k) 0 n c kk) = some (valI (ownC L k)) := by
 refine Rd.get ⟨?_, ?_⟩
 ·cases hc : ownC L k with
  | none => rw [hc] at e; cases n <;> simp [chkI] at e
  | some l =>
   rw [hc] at e
   obtain ⟨h1, h2⟩ := qKm n l e
   have hb : QCI (h ++ L) (h.length + k) = some l := by rw [Y3D, hc]
   have hl : l.length = n := by rw [h1, Row.cells_len, h2]; exact Nat.mul_one n
   simp only [rdS, hb, Option.bind_some, Nat.zero_add, List.drop_zero, show intR.sz = 1 from rfl, Nat.mul_one, hl]
   split
   ·rename_i h0
    subst h0
    have : l = [] := List.eq_nil_of_length_eq_zero hl
    subst this
    simp [valI, XwK]
   ·rw [if_pos (Nat.le_refl _), List.take_of_length_le (by omega), ← h1, h2]
 ·cases hc : ownC L k with
  | none => simp [valI]
  | some l =>
   rw [hc] at e
   obtain ⟨h1, h2⟩ := qKm n l e
   rw [h2]
   unfold maxLen
   omega
theorem Bt.drop {P : Program} {h : List AB} {v a : AV} (L : List AB) (hh : HOk h) (e : v = a) (hok : v.ok (fun i => decide (i < h.length)) = true) : Bt P h.length [v] (h ++ L) [a] h := by
 subst e
 have := Bt.sel (P := P) (h := h) (l := L) (l' := []) (fr := [v]) (fr' := [v]) [] hh (by simp) trivial ⟨.inr ⟨hok, Wk.ren (fun i hi => ZVh hi) hok⟩, trivial⟩
 rw [List.append_nil] at this
 exact this
theorem Bt.dropB {P : Program} {h : List AB} {x y : Bool} (L : List AB) (hh : HOk h) (e : x = y) : Bt P h.length [.b x] (h ++ L) [.b y] h := Bt.drop L hh (by rw [e]) (by simp [AV.ok])
theorem Bt.dropI {P : Program} {h : List AB} {x y : Int} {k : IntKind} (L : List AB) (hh : HOk h) (e : x = y) : Bt P h.length [.i k x] (h ++ L) [.i k y] h := Bt.drop L hh (by rw [e]) (by simp [AV.ok])
def FinO (P : Program) (p : Nat) (o : Option AV) (h : List AB) (a : AV) (h' : List AB) : Prop := ∃ v, o = some v ∧ Bt P p [v] h [a] h'
theorem JW8 {P : Program} {p : Nat} {v a : AV} {h' : List AB} : FinO P p (some v) h a h' = Bt P p [v] h [a] h' := by simp [FinO]
theorem Zqt {P : Program} {p n : Nat} {sz : Option Nat} {a : AV} {h' : List AB} : (∃ v, resV fr h [RC.cell n sz] = some v ∧ Bt P p [v] h [a] h') = FinO P p (ldV h sz (pl fr n)) h a h' := by
 have e : resV fr h [RC.cell n sz] = ldV h sz (pl fr n) := by
  simp only [resV, QKE, YXw, YCx]
  cases ldV h sz (pl fr n) <;> rfl
 rw [e]
 rfl
theorem zVX {P : Program} {p n m : Nat} {sz : Option Nat} {a : AV} {h' : List AB} : (∃ v, resV fr h [RC.cell n sz, RC.t m] = some v ∧ Bt P p [v] h [a] h') = FinO P p ((ldV h sz (pl fr n)).map fun x => .tu [x, pl fr m]) h a h' := by
 have e : resV fr h [RC.cell n sz, RC.t m] = (ldV h sz (pl fr n)).map fun x => .tu [x, pl fr m] := by
  simp only [resV, QKE, YXw, YCx, Option.bind_some]
  cases ldV h sz (pl fr n) <;> rfl
 rw [e]
 rfl
def appW (H : List AB) (fl : Bool) (sz by_ : Nat) (s : AV) (m : Nat) (ys : List AV) : Option (AV × List AB) :=
 match s with
 | .ns => if m = 0 then some (.ns, H) else if m * by_ ≤ 140737488355328 ∧ m ≤ maxLen then some (.sl H.length 0 m m (some sz), H ++ [.blk fl true ys]) else none
 | .sl id off len cap k =>
  if m = 0 then some (.sl id off len cap k, H)
  else if len + m ≤ cap then (stB H id (off + len * sz) ys).map fun h' => (.sl id off (len + m) cap k, h')
  else match H[id]? with
   | some (.blk fl' mu xs) =>
    if fl' = fl ∧ off + len * sz ≤ xs.length ∧ (len + m) * by_ ≤ 140737488355328 ∧ len + m ≤ maxLen then
     if k = none then some (.sl H.length 0 (len + m) (len + m) (some sz), H ++ [.blk fl true ((xs.drop off).take (len * sz) ++ ys)])
     else if k = some sz ∧ sz ≠ 0 ∧ mu = true ∧ off + len * sz = xs.length then some (.sl H.length 0 (len + m) (len + m) (some sz), H.set id .dead ++ [.blk fl true (xs.drop off ++ ys)])
     else if k = some sz ∧ sz ≠ 0 ∧ mu = true then some (.sl H.length 0 (len + m) (len + m) (some sz), H.set id .dead ++ [.blk fl true ((xs.drop off).take (len * sz) ++ ys)])
     else none
    else none
   | _ => none
 | _ => none
theorem Znf (H : List AB) (fl : Bool) (sz by_ : Nat) (s x : AV) : appV H fl sz by_ s x = (srcV H sz x).bind fun my => if my.2.all (wrOk fl) = true then appW H fl sz by_ s my.1 my.2 else none := _root_.id rfl
def flB (fl : Bool) : List AB → Nat → Prop
 | [], _ => False
 | B :: _, 0 => ∃ m xs, B = .blk fl m xs
 | _ :: L, k + 1 => flB fl L k
theorem J4T (fl m : Bool) (xs : List AV) (L : List AB) : flB fl (.blk fl m xs :: L) 0 = True := eq_true ⟨m, xs, rfl⟩
theorem QUi (fl : Bool) (B : AB) (L : List AB) (k : Nat) : flB fl (B :: L) (k + 1) = flB fl L k := _root_.id rfl
theorem zxC (fl : Bool) : ∀ (L : List AB) (k : Nat), flB fl L k → ∃ m xs, L[k]? = some (.blk fl m xs)
 | [], _, e => e.elim
 | B :: _, 0, ⟨m, xs, e⟩ => ⟨m, xs, by rw [e]; rfl⟩
 | _ :: L, k + 1, e => by simpa using zxC fl L k e
theorem XF6 (L : List AB) (k : Nat) (fl : Bool) (sz by_ m : Nat) (ys : List AV) (hb : flB fl L k) : appW (h ++ L) fl sz by_ (.sl (h.length + k) 0 0 0 none) m ys = if m = 0 then some (.sl (h.length + k) 0 0 0 none, h ++ L) else if m * by_ ≤ 140737488355328 ∧ m ≤ maxLen then some (.sl (h.length + L.length) 0 m m (some sz), h ++ (L ++ [.blk fl true ys])) else none := by
 obtain ⟨mu, xs, hx⟩ := zxC fl L k hb
 unfold appW
 dsimp only
 split
 ·rfl
 ·rename_i hm
  rw [if_neg (by omega), ZgF, hx]
  simp only [true_and, Nat.zero_add, Nat.zero_mul, Nat.zero_le, List.take_zero, List.nil_append, if_true, List.length_append, List.append_assoc]
theorem Qjt (L : List AB) (fl : Bool) (sz by_ m : Nat) (ys : List AV) : appW (h ++ L) fl sz by_ .ns m ys = if m = 0 then some (.ns, h ++ L) else if m * by_ ≤ 140737488355328 ∧ m ≤ maxLen then some (.sl (h.length + L.length) 0 m m (some sz), h ++ (L ++ [.blk fl true ys])) else none := by
 unfold appW
 simp only [List.length_append, List.append_assoc]
theorem J1F (l : List Int) : (intR.cells l).all (wrOk true) = true := by
 induction l with
 | nil => rfl
 | cons a l ih =>
  simp only [Row.cells, List.flatMap_cons, List.all_append] at ih ⊢
  rw [ih]
  rfl
theorem Yv4 (l : List (Int × Int)) : (dotR.cells l).all (wrOk true) = true := by
 induction l with
 | nil => rfl
 | cons a l ih =>
  simp only [Row.cells, List.flatMap_cons, List.all_append] at ih ⊢
  rw [ih]
  rfl
def apS (r : Row α) (id : Nat) (l : List α) : AV := if l.length = 0 then .ns else .sl id 0 l.length l.length (some r.sz)
theorem JL7 (q : Nat → Bool) (id : Nat) (l : List α) (hq : q id = true) : (apS r id l).ok q = true := by unfold apS; split <;> simp [AV.ok, hq]
theorem K0g (f : Nat → Nat) (id : Nat) (l : List α) : (apS r id l).ren f = apS r (f id) l := by unfold apS; split <;> simp [AV.ren]
theorem Zmj (id : Nat) (l : List α) : (apS r id l).isSl = true := by unfold apS; split <;> rfl
theorem XGo (id : Nat) (l : List α) : lenV (apS r id l) = some (l.length : Int) := by
 unfold apS
 split
 ·rename_i e; rw [e]; rfl
 ·rfl
theorem YtJ (id : Nat) : apS r id [] = .ns := _root_.id rfl
theorem Kte (id : Nat) {l : List α} (h0 : l.length ≠ 0) : apS r id l = rsl r id l := by
 unfold apS rsl
 rw [if_neg h0, if_neg h0]
theorem zHG (id : Nat) (l : List α) : (apS r id l).isStr = false := qHG (Zmj id l)
theorem KLw (id : Nat) (l : List α) : (apS r id l).one = true := Q3S (Zmj id l)
theorem qws (id : Nat) (l : List α) : (apS r id l).known = true := YHr (Zmj id l)
theorem X3S (id : Nat) (l : List α) : (apS r id l).cells = [apS r id l] := Qbv (Zmj id l)
theorem zUW (id : Nat) (l : List α) (x : α) : apS r id (l ++ [x]) = .sl id 0 (l.length + 1) (l.length + 1) (some r.sz) := by
 unfold apS
 rw [if_neg (by simp), List.length_append]
 rfl
theorem zNU (m : Bool) (l : List α) (x : α) : resB r m (l ++ [x]) = .blk true m (r.cells l ++ r.f x) := by
 unfold resB
 rw [if_neg (by simp)]
 simp [Row.cells]
theorem Zie (d : Int × Int) : (d.1, d.2) = d := _root_.id rfl
theorem Q8K (id : Nat) (x : α) : apS r id [x] = .sl id 0 1 1 (some r.sz) := _root_.id rfl
theorem qLQ (m : Bool) (x : α) : resB r m [x] = .blk true m (r.f x) := by
 unfold resB
 rw [if_neg (by simp)]
 simp [Row.cells]
def JLX : List AB → Nat → List AB
 | [], _ => []
 | _ :: L, 0 => .dead :: L
 | B :: L, k + 1 => B :: JLX L k
theorem Xs8 : ∀ (L : List AB) (k : Nat), JLX L k = L.set k .dead
 | [], k => by simp [JLX]
 | _ :: L, 0 => rfl
 | B :: L, k + 1 => by simp [JLX, Xs8 L k]
theorem YzP (B : AB) (L : List AB) : JLX (B :: L) 0 = .dead :: L := _root_.id rfl
theorem X21 (B : AB) (L : List AB) (k : Nat) : JLX (B :: L) (k + 1) = B :: JLX L k := _root_.id rfl
def ownM (r : Row α) (l : List α) : List AB → Nat → Prop
 | [], _ => False
 | B :: _, 0 => B = resB r true l
 | _ :: L, k + 1 => ownM r l L k
theorem QwC (l : List α) (L : List AB) : ownM r l (resB r true l :: L) 0 = True := eq_true rfl
theorem QnC (l : List α) (B : AB) (L : List AB) (k : Nat) : ownM r l (B :: L) (k + 1) = ownM r l L k := _root_.id rfl
theorem Kxz (l : List α) : ∀ (L : List AB) (k : Nat), ownM r l L k → L[k]? = some (resB r true l)
 | [], _, e => e.elim
 | B :: _, 0, e => by rw [show B = resB r true l from e]; rfl
 | _ :: L, k + 1, e => by simpa using Kxz l L k e
theorem zNz {sz : Nat} (hz : r.sz = sz) (L : List AB) (k : Nat) (l : List α) (by_ m : Nat) (ys : List AV) (hb : ownM r l L k) (hm : m ≠ 0) (h1 : (l.length + m) * by_ ≤ 140737488355328) (h2 : l.length + m ≤ maxLen) :
  appW (h ++ L) true sz by_ (apS r (h.length + k) l) m ys = some (.sl (h.length + L.length) 0 (l.length + m) (l.length + m) (some sz), h ++ (JLX L k ++ [.blk true true (r.cells l ++ ys)])) := by
 subst hz
 have hx := Kxz l L k hb
 have hk : k < L.length := (List.getElem?_eq_some_iff.1 hx).1
 unfold apS
 by_cases h0 : l.length = 0
 ·rw [if_pos h0]
  have : l = [] := List.eq_nil_of_length_eq_zero h0
  subst this
  simp only [List.length_nil, Nat.zero_add] at h1 h2
  rw [Qjt, if_neg hm, if_pos ⟨h1, h2⟩]
  rw [zXl true rfl] at hx
  have hs : L.set k .dead = L := List.ext_getElem? fun i => by
   rw [List.getElem?_set]
   by_cases e : k = i
   ·subst e
    rw [if_pos rfl, if_pos hk, hx]
   ·rw [if_neg e]
  simp only [List.length_nil, Nat.zero_add, XwK, List.nil_append, Xs8, hs]
 ·rw [if_neg h0]
  rw [JFe true h0] at hx
  unfold appW
  dsimp only
  rw [if_neg hm, if_neg (by omega), ZgF, hx]
  simp only [true_and, Nat.zero_add, r.cells_len, Nat.le_refl, h1, h2, if_true, reduceCtorEq, if_false, List.drop_zero, List.length_append]
  rw [if_pos (by have := r.pos; exact ⟨by omega, trivial⟩), Xs8, List.set_append_right _ _ (by omega), Nat.add_sub_cancel_left, List.append_assoc]
end
end Go.Proofs.Ytbcpcjofkfgjoaa
end
section
namespace Go.Proofs.Ytbcpcjofkfgjoaa
open Go.RowKit
def mksV (h : List AB) (fl : Bool) (z : List AV) (by_ : Nat) (le ca : AV) : Option (AV × List AB) :=
 match le, ca with
 | .i _ l, .i _ c => if 0 ≤ l ∧ l ≤ c ∧ (by_ : Int) * c ≤ 2 ^ 47 ∧ c ≤ maxLen then newB h fl ((List.replicate c.toNat z).flatten) (fun n => .sl n 0 l.toNat c.toNat none) else none
 | _, _ => none
theorem X7u {h : List AB} (L : List AB) (k off n cap sz : Nat) (kk : Option Nat) : srcV (h ++ L) sz (.sl (h.length + k) off n cap kk) = if n = 0 then some (0, []) else (ownC L k).bind fun xs => if off + n * sz ≤ xs.length then some (n, (xs.drop off).take (n * sz)) else none := by
 simp only [srcV, Y3D]
theorem Kff {h : List AB} (L : List AB) (k : Nat) (B : AB) : (h ++ L).set (h.length + k) B = h ++ L.set k B := by
 rw [List.set_append_right _ _ (by omega), Nat.add_sub_cancel_left]
theorem Xjr {α : Type} (a b : α) (l : List α) : (a :: l).set 0 b = b :: l := _root_.id rfl
theorem Q3b {α : Type} (a b : α) (l : List α) (n : Nat) : (a :: l).set (n + 1) b = a :: l.set n b := _root_.id rfl
theorem JoV {α : Type} (r : Row α) (h : List AB) : Rd r h .ns [] := ⟨rfl, Nat.zero_le _⟩
theorem QSr {α : Type} (r : Row α) (h : List AB) : getS r h .ns = some [] := (JoV r h).get
theorem ZlU (sz id off n c : Nat) (k : Option Nat) (kk : IntKind) (m : Int) : iadV sz (.sl id off n c k) (.i kk m) = if 0 ≤ m ∧ m < (n : Int) then some (.p id (off + m.toNat * sz)) else none := _root_.id rfl
theorem Zjd {T : Env} {fr : List AV} {h : List AB} (fl : Bool) (z : List AV) (by_ : Nat) (le ca : Opd) : opR T (.mks fl z by_ le ca) fr h = mksV h fl z by_ (le.ev fr) (ca.ev fr) := by
 show (match le.ev fr, ca.ev fr with
  | .i _ l, .i _ c => if 0 ≤ l ∧ l ≤ c ∧ (by_ : Int) * c ≤ 2 ^ 47 ∧ c ≤ maxLen then newB h fl ((List.replicate c.toNat z).flatten) (fun n => .sl n 0 l.toNat c.toNat none) else none
  | _, _ => none) = _
 rfl
theorem qfB (h : List AB) (fl : Bool) (z : List AV) (by_ : Nat) (k k' : IntKind) (l c : Int) : mksV h fl z by_ (.i k l) (.i k' c) = if 0 ≤ l ∧ l ≤ c ∧ (by_ : Int) * c ≤ 2 ^ 47 ∧ c ≤ maxLen then newB h fl ((List.replicate c.toNat z).flatten) (fun n => .sl n 0 l.toNat c.toNat none) else none := _root_.id rfl
def bxS (h : List AB) (i : Nat) : Option AV :=
 match h[i]? with
 | some (.blk false _ [v]) => some v
 | _ => none
def bxL : List AB → Nat → Option AV
 | [], _ => none
 | .blk false _ [v] :: _, 0 => some v
 | _ :: _, 0 => none
 | _ :: L, k + 1 => bxL L k
theorem JuL : ∀ (L : List AB) (k : Nat), bxS L k = bxL L k
 | [], k => by simp [bxS, bxL]
 | B :: L, 0 => by
  cases B with
  | blk fl m xs => cases fl <;> (cases xs with | nil => simp [bxS, bxL] | cons a l => cases l <;> simp [bxS, bxL])
  | _ => simp [bxS, bxL]
 | B :: L, k + 1 => by
  have := JuL L k
  have e : bxL (B :: L) (k + 1) = bxL L k := by
   cases B with
   | blk fl m xs => cases fl <;> (cases xs with | nil => rfl | cons a l => cases l <;> rfl)
   | _ => rfl
  rw [e, ← this]
  unfold bxS
  rw [List.getElem?_cons_succ]
theorem Q42 {h : List AB} (L : List AB) (k : Nat) : bxS (h ++ L) (h.length + k) = bxL L k := by
 rw [← JuL]
 unfold bxS
 rw [ZgF]
theorem JrN (m : Bool) (v : AV) (L : List AB) : bxL (.blk false m [v] :: L) 0 = some v := _root_.id rfl
theorem QI9 (B : AB) (L : List AB) (k : Nat) : bxL (B :: L) (k + 1) = bxL L k := by
 cases B with
 | blk fl m xs => cases fl <;> (cases xs with | nil => rfl | cons a l => cases l <;> rfl)
 | _ => rfl
theorem QoR (q : Nat → Bool) (st : LoopState) (pd : XE) (fr : List AV) (ps : List Nat) (a b : CC) : (AB.lp st pd fr ps a b).ok q = okL q fr := _root_.id rfl
section
variable {c : Ctx} {k : List IT} {fr : List AV} {h : List AB}
end
def Q5R : List Pt → List Pt
 | [] => []
 | p :: l => ⟨p.k, p.lo, p.hi, [], []⟩ :: Q5R l
theorem Xjo : Q5R [] = [] := _root_.id rfl
theorem JKj (k lo hi : Nat) (rs ws : List Nat) (l : List Pt) : Q5R (⟨k, lo, hi, rs, ws⟩ :: l) = ⟨k, lo, hi, [], []⟩ :: Q5R l := _root_.id rfl
theorem Xhc (len0 lo hi anc : Nat) (past : List Pt) (id : Nat) : qOk len0 lo hi anc (Q5R past) id = qOk len0 lo hi anc past id := by
 unfold qOk
 congr 1
 induction past with
 | nil => rfl
 | cons p l ih => simp only [Q5R, List.any_cons, ih]
theorem Jkj (len0 anc n : Nat) (past : List Pt) : seen len0 anc (Q5R past) n = seen len0 anc past n := by
 unfold seen
 congr 1
 funext id
 exact Xhc len0 0 0 anc past id
theorem YXZ {c : Ctx} {k : List IT} {fr : List AV} {h : List AB} {len0 n anc : Nat} {past : List Pt} {d : Option Nat} {l : List DOp} (ws : List Nat) (vs : List AV) (v : AV) (G : List AB) : W c (.dmk ws vs (some (v, G)) len0 n anc past d l :: k) fr h = (okL (fun i => decide (i < h.length)) vs = true ∧ HOk h ∧ past.all (YYJ len0 anc past ws) = true ∧ (ws.all fun id => decide (id < h.length)) = true ∧ h.length ≤ G.length ∧ v.ok (qOk len0 h.length G.length anc past) = true ∧
      (ws.all fun id => (G.getD id .dead).ok (qOk len0 h.length G.length anc past)) = true ∧ ((G.drop h.length).all fun B => B.ok (qOk len0 h.length G.length anc past)) = true ∧
      W c (.drw len0 (n + 1) (⟨n, h.length, G.length, seen len0 anc (Q5R past) h.length, ws⟩ :: past) l :: k) (put fr d v) (Zcq ws G 0 h)) := by
  rw [Jkj]
  exact YK2 ws vs v G
end Go.Proofs.Ytbcpcjofkfgjoaa
end
section
namespace Go.Proofs.Ytbcpcjofkfgjoaa
open Go.RowKit
section
variable {T : Env} {fr : List AV} {h : List AB} {p : Nat}
theorem q1S {α : Type} {r : Row α} (hp : h.length = p) {sz : Nat} (hz : r.sz = sz) (L : List AB) (k : Nat) (l : List α) (by_ m : Nat) (ys : List AV) (hb : ownM r l L k) (hm : m ≠ 0) (h1 : (l.length + m) * by_ ≤ 140737488355328) (h2 : l.length + m ≤ maxLen) :
  appW (h ++ L) true sz by_ (apS r (p + k) l) m ys = some (.sl (p + L.length) 0 (l.length + m) (l.length + m) (some sz), h ++ (JLX L k ++ [.blk true true (r.cells l ++ ys)])) := by subst hp; exact zNz hz L k l by_ m ys hb hm h1 h2
theorem zWD {α : Type} {r : Row α} (hp : h.length = p) {sz : Nat} (hz : r.sz = sz) (L : List AB) (k : Nat) (l : List α) (by_ m : Nat) (ys : List AV) (h0 : l.length ≠ 0) (hb : ownM r l L k) (hm : m ≠ 0) (h1 : (l.length + m) * by_ ≤ 140737488355328) (h2 : l.length + m ≤ maxLen) :
  appW (h ++ L) true sz by_ (rsl r (p + k) l) m ys = some (.sl (p + L.length) 0 (l.length + m) (l.length + m) (some sz), h ++ (JLX L k ++ [.blk true true (r.cells l ++ ys)])) := by rw [← Kte _ h0]; exact q1S hp hz L k l by_ m ys hb hm h1 h2
end
end Go.Proofs.Ytbcpcjofkfgjoaa
end
section
namespace Go.Proofs.Ytbcpcjofkfgjoaa
open Go.RowKit
def AV.val : AV → Value
 | .b t => .bool t
 | .i k n => .int k n
 | .s l => .string ⟨l.toArray⟩
 | _ => undef
def AV.fl : AV → Bool
 | .b _ | .i _ _ | .s _ => true
 | _ => false
theorem z4G (ρ : Mp) {a : AV} (h : a.fl = true) : VR ρ a a.val := by
 cases a <;> first | (cases h; done) | skip
 ·exact .b _
 ·exact .i _ _
 ·exact .s _ _ rfl
structure In (K : Code → CC → Prop) (ρ : Mp) (h : List AB) (w : World) : Prop where
 rel : Rel K ρ h w
 frz : ∀ B ∈ h, B.mut = false
variable {K : Code → CC → Prop} {ρ : Mp} {h : List AB} {w : World}
theorem In.nil (w : World) : In K [] [] w := ⟨⟨rfl, fun i B b o n h => by simp at h, fun i j bi oi bj oj Bi Bj _ h => by simp at h⟩, fun B h => by simp at h⟩
theorem In.push (r : In K ρ h w) {B : AB} {b o n : Nat} (hm : B.mut = false) (hB : BR K (ρ ++ [(b, o, n)]) w b o n B) : In K (ρ ++ [(b, o, n)]) (h ++ [B]) w := by
 have hf : ∀ C ∈ h ++ [B], C.mut = false := fun C hC => by
  rcases List.mem_append.1 hC with q | q
  ·exact r.frz C q
  ·rw [List.mem_singleton.1 q]; exact hm
 refine ⟨⟨by simp [r.rel.len], fun i C b' o' n' h1 h2 => ?_, fun i j bi oi bj oj Bi Bj _ h1 _ _ _ hm' _ => ?_⟩, hf⟩
 ·by_cases hi : i < h.length
  ·rw [List.getElem?_append_left hi] at h1
   rw [List.getElem?_append_left (by rw [r.rel.len]; exact hi)] at h2
   exact (r.rel.blk i C b' o' n' h1 h2).same (Ext.push _ _) fun _ => rfl
  ·have hlt := (List.getElem?_eq_some_iff.1 h1).1
   rw [List.length_append, List.length_singleton] at hlt
   have : i = h.length := by omega
   subst this
   rw [List.getElem?_append_right (Nat.le_refl _), Nat.sub_self] at h1
   rw [List.getElem?_append_right (by rw [r.rel.len]; exact Nat.le_refl _), r.rel.len, Nat.sub_self] at h2
   cases h1
   cases h2
   exact hB
 ·rw [hf Bi (List.mem_of_getElem? h1)] at hm'
  cases hm'
theorem In.slice {α : Type} {r : Row α} (i : In K ρ h w) {v : Value} {l : List α} (hfl : ∀ x, ∀ a ∈ r.f x, a.fl = true) (hs : Sl w v l.length ((r.cells l).map AV.val)) :
  l.length ≤ maxLen ∧ ∃ x, In K (ρ ++ [x]) (h ++ [resB r false l]) w ∧ VR (ρ ++ [x]) (rsl r h.length l) v := by
 have hrl := i.rel.len
 by_cases h0 : l.length = 0
 ·have : l = [] := List.eq_nil_of_length_eq_zero h0
  subst this
  refine ⟨Nat.zero_le _, (0, 0, 0), i.push (by simp [resB, AB.mut]) (by simp [resB, BR]), ?_⟩
  simp only [rsl, List.length_nil, if_true]
  rcases hs with ⟨⟨a, rfl⟩, _, _⟩ | ⟨b, off, cap, rfl, _, hc, _⟩
  ·exact .sz _ _ _ _ (Nat.zero_le _) fun _ => rfl
  ·exact .sz _ _ _ _ hc fun q => by cases q
 ·rcases hs with ⟨_, q, _⟩ | ⟨b, off, cap, rfl, hlc, hc, hcells⟩
  ·exact absurd q h0
  ·have hlen : (r.cells l).length = l.length * r.sz := r.cells_len l
   have hpos : 0 < l.length * r.sz := Nat.mul_pos (by omega) r.pos
   have hall : ∀ a ∈ r.cells l, a.fl = true := fun a ha => by
    obtain ⟨x, _, hx⟩ := List.mem_flatMap.1 ha
    exact hfl x a hx
   have hat : ∀ k (hk : k < (r.cells l).length), w.cell? ⟨b, off + k, none⟩ = some ((r.cells l)[k]).val := fun k hk => hcells k _ (by rw [List.getElem?_map, List.getElem?_eq_getElem hk]; rfl)
   obtain ⟨cs, e, fz, hb⟩ : ∃ cs e fz, w.heap[b]? = some (.cells cs e fz) := by
    have := hat 0 (by omega)
    unfold World.cell? at this
    split at this
    ·rename_i c e fz hb
     exact ⟨c, e, fz, hb⟩
    ·cases this
   have hat' : ∀ k (hk : k < (r.cells l).length), cs[off + k]? = some ((r.cells l)[k]).val := fun k hk => by
    have := hat k hk
    unfold World.cell? at this
    rw [hb] at this
    simpa using this
   refine ⟨by omega, (b, off, off + cap * r.sz), i.push (by simp [resB, h0, AB.mut]) ?_, ?_⟩
   ·simp only [resB, if_neg h0, BR]
    refine ⟨cs, e, fz, hb, (fun q => by cases q), ?_, fun k a c ha hc' => ?_⟩
    ·have := (Array.getElem?_eq_some_iff.1 (hat' ((r.cells l).length - 1) (by omega))).1
     omega
    ·have hk := (List.getElem?_eq_some_iff.1 ha).1
     rw [hat' k hk] at hc'
     have : a = (r.cells l)[k] := (List.getElem?_eq_some_iff.1 ha).2.symm
     subst this
     cases hc'
     exact z4G _ (hall _ (List.getElem_mem hk))
   ·simp only [rsl, if_neg h0]
    exact .sl h.length 0 l.length l.length (some r.sz) b off (off + cap * r.sz) cap (by rw [← hrl, List.getElem?_append_right (Nat.le_refl _), Nat.sub_self]; rfl) (Nat.le_refl _) hlc hc (fun q => by cases q) (fun z hz _ => by cases hz; exact Nat.le_refl _)
theorem XCm {P : Program} {g : Nat} {az : List AV} {vals : Array Value} {h' : List AB} (i : In (KC P) ρ h w) (hv : VL ρ az vals) (e : FnC P g az h (.b true) h') : Calls P g vals w (fun e w' => e = .returned (.bool true) ∧ Kept NoS w w') := by
 refine (e.2 ρ w vals i.rel hv).mono ?_
 rintro e w' ⟨v', ρ', rfl, hva, _, heff⟩
 cases hva
 refine ⟨rfl, heff.os, heff.tape, heff.output.1, heff.size, fun b hb _ => heff.keep b hb fun ⟨j, B, o, h1, h2, _⟩ => ?_⟩
 rw [i.frz B (List.mem_of_getElem? h1)] at h2
 cases h2
end Go.Proofs.Ytbcpcjofkfgjoaa
end
section
namespace Go.Proofs.Ytbcpcjofkfgjoaa
open Go.ChangeShapes Go.WideShapes Go.ChangeAt Go.RowKit
def RdL {α : Type} (R : World → List Value → α → Prop) (size : Nat) (w : World) (v : Value) (ts : List α) : Prop :=
 ∃ cs, Sl w v ts.length cs ∧ cs.length = ts.length * size ∧ ∀ i t, ts[i]? = some t → R w ((cs.drop (i * size)).take size) t
section
variable {H : Type} {enc : TypeId × Value → H} {P : Program} {w : World} {base : Nat} {spare : Nat → Bool} {held : Bool}
theorem zTd {α β : Type} (f : α → Option β) : ∀ (l : List α) (r : List β), l.mapM f = some r → ∀ a ∈ l, ∃ b, f a = some b
 | [], _, _, a, ha => by cases ha
 | x :: l, r, h, a, ha => by
  rw [List.mapM_cons] at h
  cases hx : f x with
  | none => simp [hx] at h
  | some b =>
   cases hl : l.mapM f with
   | none => simp [hx, hl] at h
   | some bs =>
    rcases List.mem_cons.1 ha with rfl | ha
    ·exact ⟨b, hx⟩
    ·exact zTd f l bs hl a ha
theorem Kid {α : Type} (R : Nat → α → Prop) : ∀ n, (∀ i, i < n → ∃ t, R i t) → ∃ ts : List α, ts.length = n ∧ ∀ i t, ts[i]? = some t → R i t
 | 0, _ => ⟨[], rfl, fun i t h => by simp at h⟩
 | n + 1, h => by
  obtain ⟨ts, hl, ht⟩ := Kid R n fun i hi => h i (by omega)
  obtain ⟨t, h1⟩ := h n (by omega)
  refine ⟨ts ++ [t], by simp [hl], fun i u hu => ?_⟩
  by_cases hi : i < n
  ·rw [List.getElem?_append_left (by omega)] at hu
   exact ht i u hu
  ·have hi2 : i = n := by
    have := (List.getElem?_eq_some_iff.1 hu).1
    simp [hl] at this
    omega
   subst hi2
   rw [List.getElem?_append_right (by omega)] at hu
   simp [hl] at hu
   exact hu ▸ h1
theorem zMk {α : Type} (R : World → List Value → α → Prop) {fuel : Nat} {T e : TypeId} {size : Nat} (hT : P.underlying T = some (.slice e)) (hc : P.cellsOf e = size) (hsz : 0 < size)
  (hR : ∀ cs x, DataW.trod enc P w base (fun _ => true) held fuel e cs = some x → ∃ t, R w cs t) {v : Value} {x : DataW H × List MemPlace}
  (h : DataW.trod enc P w base (fun _ => true) held (fuel + 1) T [v] = some x) : ∃ ts, RdL R size w v ts := by
 cases v with
 | slice a len cap =>
  cases a with
  | none =>
   cases len with
   | zero =>
    cases cap with
    | zero => exact ⟨[], [], .inl ⟨⟨_, rfl⟩, rfl, rfl⟩, by simp, fun i t ht => by simp at ht⟩
    | succ c => simp [DataW.trod, hT] at h
   | succ l => cases cap <;> simp [DataW.trod, hT] at h
  | some a =>
   simp only [DataW.trod, hT, hc] at h
   split at h
   case isFalse => cases h
   case isTrue hcond =>
    obtain ⟨hb, hlc, hcm⟩ := hcond
    obtain ⟨elems, hel, h2⟩ := Option.bind_eq_some_iff.1 h
    simp only [if_true] at h2
    obtain ⟨rest, hrest, _⟩ := Option.map_eq_some_iff.1 h2
    have hel2 : ∀ i, i < len → ∃ cs t, cs.length = size ∧ (∀ j, j < size → w.cell? ((a.add (i * size)).add j) = cs[j]?) ∧ R w cs t := by
     intro i hi
     obtain ⟨y, hy⟩ := zTd _ _ _ hel i (List.mem_range.2 hi)
     obtain ⟨cs, hcs, hy2⟩ := Option.bind_eq_some_iff.1 hy
     obtain ⟨_, hl, hcell⟩ := World.cells?_some hcs
     obtain ⟨t, ht⟩ := hR cs y hy2
     exact ⟨cs, t, hl, hcell, ht⟩
    by_cases h0 : cap = 0
    ·subst h0
     have : len = 0 := by omega
     subst this
     exact ⟨[], [], .inl ⟨⟨_, rfl⟩, rfl, rfl⟩, by simp, fun i t ht => by simp at ht⟩
    ·have hspot : a.spot = none := by
      have hfirst : ∃ u, w.cell? a = some u := by
       by_cases hl0 : len = 0
       ·subst hl0
        obtain ⟨y, hy⟩ := zTd _ _ _ hrest 0 (List.mem_range.2 (by omega))
        obtain ⟨cs, hcs, _⟩ := Option.bind_eq_some_iff.1 hy
        obtain ⟨_, hl, hcell⟩ := World.cells?_some hcs
        have := hcell 0 hsz
        simp [Addr.add] at this
        exact ⟨cs[0]'(by omega), by rw [this]; exact List.getElem?_eq_getElem (by omega)⟩
       ·obtain ⟨cs, t, hl, hcell, _⟩ := hel2 0 (by omega)
        have := hcell 0 hsz
        simp [Addr.add] at this
        exact ⟨cs[0]'(by omega), by rw [this]; exact List.getElem?_eq_getElem (by omega)⟩
      obtain ⟨u, hu⟩ := hfirst
      unfold World.cell? at hu
      split at hu
      ·split at hu
       ·cases hu
       ·rename_i hs
        simpa using hs
      ·cases hu
     obtain ⟨b, off, sp⟩ := a
     simp only at hspot
     subst hspot
     obtain ⟨g, hg⟩ : ∃ g : Nat → Value, ∀ k, g k = (w.cell? ⟨b, off + k, none⟩).getD undef := ⟨_, fun _ => rfl⟩
     have hlt : ∀ i j, i < len → j < size → i * size + j < len * size := fun i j hi hj => by
      have : (i + 1) * size ≤ len * size := Nat.mul_le_mul_right _ hi
      rw [Nat.add_mul] at this
      omega
     have hpiece : ∀ i, i < len → ∀ cs' : List Value, cs'.length = size → (∀ j, j < size → w.cell? (((⟨b, off, none⟩ : Addr).add (i * size)).add j) = cs'[j]?) → ((((List.range (len * size)).map g).drop (i * size)).take size) = cs' := by
      intro i hi cs' hl hcell
      apply List.ext_getElem?
      intro j
      by_cases hj : j < size
      ·have h1 := hcell j hj
       rw [Addr.add_none, Addr.add_none] at h1
       rw [List.getElem?_take_of_lt hj, List.getElem?_drop, List.getElem?_map, List.getElem?_range (hlt i j hi hj), ← h1]
       rw [Option.map_some, hg, ← Nat.add_assoc, h1, List.getElem?_eq_getElem (by omega)]
       rfl
      ·rw [List.getElem?_eq_none (by rw [List.length_take]; omega), List.getElem?_eq_none (by omega)]
     obtain ⟨ts, htl, hts⟩ := Kid (fun i t => R w ((((List.range (len * size)).map g).drop (i * size)).take size) t) len fun i hi => by
      obtain ⟨cs, t, hl, hcell, ht⟩ := hel2 i hi
      exact ⟨t, by rw [hpiece i hi cs hl hcell]; exact ht⟩
     refine ⟨ts, (List.range (len * size)).map g, .inr ⟨b, off, cap, by rw [htl], by omega, hcm, fun k u hu => ?_⟩, by simp [htl], hts⟩
     rw [List.getElem?_map] at hu
     obtain ⟨k', hk', rfl⟩ := Option.map_eq_some_iff.1 hu
     have hk : k < len * size := by simpa using (List.getElem?_eq_some_iff.1 hk').1
     rw [List.getElem?_range hk] at hk'
     cases hk'
     have hdiv : k / size < len := (Nat.div_lt_iff_lt_mul hsz).2 hk
     obtain ⟨cs, t, hl, hcell, _⟩ := hel2 (k / size) hdiv
     have h1 := hcell (k % size) (Nat.mod_lt _ hsz)
     rw [Addr.add_none, Addr.add_none, Nat.add_assoc, Nat.mul_comm, Nat.div_add_mod] at h1
     rw [hg, h1, List.getElem?_eq_getElem (by have := Nat.mod_lt k hsz; omega)]
     rfl
 | _ => simp [DataW.trod, hT] at h
theorem Xhn {fuel : Nat} {T : TypeId} {k : IntKind} (hT : P.underlying T = some (.int k)) {cs : List Value} {x : DataW H × List MemPlace}
  (h : DataW.trod enc P w base spare held fuel T cs = some x) : ∃ n, cs = [.int k n] ∧ (Lit.int k n).wf = true := by
 cases fuel with
 | zero => cases h
 | succ fuel =>
  simp only [DataW.trod, hT] at h
  split at h <;> simp_all
theorem KTm {fuel : Nat} {T : TypeId} (hT : P.underlying T = some .string) {cs : List Value} {x : DataW H × List MemPlace}
  (h : DataW.trod enc P w base spare held fuel T cs = some x) : ∃ s : ByteArray, cs = [.string s] ∧ s.size ≤ maxLen := by
 cases fuel with
 | zero => cases h
 | succ fuel =>
  simp only [DataW.trod, hT] at h
  split at h <;> simp_all
theorem Zzi {α : Type} (R : World → List Value → α → Prop) {fuel : Nat} {T e : TypeId} {size : Nat} (hT : P.underlying T = some (.slice e)) (hc : P.cellsOf e = size) (hsz : 0 < size)
  (hR : ∀ fuel cs x, DataW.trod enc P w base (fun _ => true) held fuel e cs = some x → ∃ t, R w cs t) {cs : List Value} {x : DataW H × List MemPlace}
  (h : DataW.trod enc P w base (fun _ => true) held fuel T cs = some x) : ∃ v, cs = [v] ∧ ∃ ts, RdL R size w v ts := by
 cases fuel with
 | zero => cases h
 | succ fuel =>
  have hv : ∃ v, cs = [v] := by
   have h' := h
   simp only [DataW.trod, hT] at h'
   split at h' <;> simp_all
  obtain ⟨v, rfl⟩ := hv
  exact ⟨v, rfl, zMk R hT hc hsz (fun cs x => hR fuel cs x) h⟩
theorem J3J {n : Int} (h : (Lit.int .i64 n).wf = true) : -9223372036854775808 ≤ n ∧ n ≤ 9223372036854775807 := bounds_i64 h
end
end Go.Proofs.Ytbcpcjofkfgjoaa
end
section
namespace Go.Proofs.Ytbcpcjofkfgjoaa
def KtL := (And.intro (And.intro (And.intro (And.intro (And.intro (And.intro (And.intro @XK7 (And.intro @KyX @ZcQ)) (And.intro (And.intro @Xde @zax) (And.intro @qmg @YWi))) (And.intro (And.intro @X9q (And.intro @YxK @ZHK)) (And.intro (And.intro @KYL @zIW) (And.intro @J6T @qY6)))) (And.intro (And.intro (And.intro @QBp (And.intro @ZgB @qQX)) (And.intro (And.intro @q3G @Xjn) (And.intro @Q1D @zDP))) (And.intro (And.intro (And.intro @JBC @W_op) (And.intro @qru @ZX7)) (And.intro (And.intro @qFi @KVk) (And.intro @z6R @zxH))))) (And.intro (And.intro (And.intro (And.intro @KRp (And.intro @QPg @XqH)) (And.intro (And.intro @KDH @Ylc) (And.intro @pl_0 @pl_s))) (And.intro (And.intro @Q3f (And.intro @zfs @YHU)) (And.intro (And.intro @JNx @ev_t) (And.intro @ev_c @XO0)))) (And.intro (And.intro (And.intro @ZEP (And.intro @zN7 @Ybi)) (And.intro (And.intro @YiQ @Yxv) (And.intro @XmG @XEl))) (And.intro (And.intro (And.intro @zid @Y7f) (And.intro @JsR @YDz)) (And.intro (And.intro @zqi @XRY) (And.intro @KZp @zhy)))))) (And.intro (And.intro (And.intro (And.intro (And.intro @ZYQ (And.intro @Yce @Yh8)) (And.intro (And.intro @XYb @K36) (And.intro @qAw @JlS))) (And.intro (And.intro @Ymr (And.intro @Zxz @YYz)) (And.intro (And.intro @Kwe @YBI) (And.intro @Y1N @z8Z)))) (And.intro (And.intro (And.intro @YQO (And.intro @QhK @qQh)) (And.intro (And.intro @qyz @YMA) (And.intro @J51 @Qw9))) (And.intro (And.intro (And.intro @zrr @XIx) (And.intro @J8D @Xxw)) (And.intro (And.intro @qac @KsH) (And.intro @q0u @Xmq))))) (And.intro (And.intro (And.intro (And.intro @qe5 (And.intro @Tab.at_nil @Tab.at_cons)) (And.intro (And.intro @qfp @z6G) (And.intro @zhH @Qhz))) (And.intro (And.intro (And.intro @Z2Y @qbz) (And.intro @qSI @JUW)) (And.intro (And.intro @YLt @KKy) (And.intro @QEu @Xli)))) (And.intro (And.intro (And.intro @JYE (And.intro @Yy9 @KD0)) (And.intro (And.intro @all_nil @all_cons) (And.intro @qGH @ZqJ))) (And.intro (And.intro (And.intro @KYa @J7o) (And.intro @zNr @ZeS)) (And.intro (And.intro @QY4 @zWJ) (And.intro @ZKA @Kbm))))))) (And.intro (And.intro (And.intro (And.intro (And.intro (And.intro @ZvZ (And.intro @z1s @YG2)) (And.intro (And.intro @Jkz @qwt) (And.intro @z4T @ZOS))) (And.intro (And.intro @qDJ (And.intro @Z1q @qXS)) (And.intro (And.intro @zZ7 @qIj) (And.intro @JBz @qBZ)))) (And.intro (And.intro (And.intro @qpg (And.intro @zot @ZKg)) (And.intro (And.intro @qip @Q6D) (And.intro @J5l @XSS))) (And.intro (And.intro (And.intro @JuX @YjO) (And.intro @YMk @zLy)) (And.intro (And.intro @ZQs @Kw8) (And.intro @XvT @YSp))))) (And.intro (And.intro (And.intro (And.intro @true_and (And.intro @and_true @true_implies)) (And.intro (And.intro @Bool.true_and @Bool.and_true) (And.intro @Bool.false_and @Bool.and_false))) (And.intro (And.intro (And.intro @Nat.lt_add_one @tp_0) (And.intro @tp_s @zAx)) (And.intro (And.intro @zTn @KBh) (And.intro @Z2E @Int.cast_ofNat_Int)))) (And.intro (And.intro (And.intro @Int.natCast_inj (And.intro @Int.ofNat_lt @Int.ofNat_le)) (And.intro (And.intro @Int.toNat_natCast @Int.natCast_nonneg) (And.intro @not_false_eq_true @not_true_eq_false))) (And.intro (And.intro (And.intro @Bool.false_eq_true @zfb) (And.intro @K4h @YVE)) (And.intro (And.intro @z4D @KdU) (And.intro @qtl @QTV)))))) (And.intro (And.intro (And.intro (And.intro (And.intro @qEF (And.intro @Kmt @Znf)) (And.intro (And.intro @J4T @QUi) (And.intro @XF6 @Qjt))) (And.intro (And.intro @J1F (And.intro @Yv4 @YzP)) (And.intro (And.intro @X21 @QwC) (And.intro @QnC @XGo)))) (And.intro (And.intro (And.intro @zbB (And.intro @KAT @qOs)) (And.intro (And.intro @z4U @zLU) (And.intro @Kz5 @JTt))) (And.intro (And.intro (And.intro @Q4A @QB5) (And.intro @Z4E @QPZ)) (And.intro (And.intro @qpY @JW8) (And.intro @Zqt @zVX))))) (And.intro (And.intro (And.intro (And.intro @XON (And.intro @qYh @JOX)) (And.intro (And.intro @Z7b @ZQF) (And.intro @Jmk @Jqg))) (And.intro (And.intro (And.intro @XTe @Kvt) (And.intro @Yhk @Znj)) (And.intro (And.intro @KvE @Qyw) (And.intro @Kff @Xjr)))) (And.intro (And.intro (And.intro @Q3b (And.intro @Nat.add_assoc @Q42)) (And.intro (And.intro @JrN @QI9) (And.intro @Y3D @QSr))) (And.intro (And.intro (And.intro @ZlU @Zjd) (And.intro @qfB @zHG)) (And.intro (And.intro @KLw @qws) (And.intro @X3S @QP8))))))))
def JsM := (And.intro (And.intro (And.intro (And.intro (And.intro @JA5 @YSe) (And.intro @K0g (And.intro @K8B @QLQ))) (And.intro (And.intro @nd_0 (And.intro @nd_s @QRQ)) (And.intro @Z2E (And.intro @KBh @zot)))) (And.intro (And.intro (And.intro @ZKg (And.intro @decide_eq_true_eq @Bool.and_eq_true)) (And.intro @Bool.and_true (And.intro @Bool.true_and @Nat.lt_add_right_iff_pos))) (And.intro (And.intro @Nat.lt_add_one (And.intro @Nat.add_lt_add_iff_left @Nat.zero_lt_succ)) (And.intro @or_true (And.intro @true_or @and_true))))) (And.intro (And.intro (And.intro (And.intro @true_and @and_self) (And.intro @Nat.zero_add (And.intro @Nat.add_zero @false_or))) (And.intro (And.intro @z85 (And.intro @Yf4 @XhL)) (And.intro @qTn (And.intro @zTn @zAx)))) (And.intro (And.intro (And.intro @imp_self (And.intro @Jaf @JjW)) (And.intro @ZwQ (And.intro @zu7 @decide_true))) (And.intro (And.intro @Bool.or_true (And.intro @Zie @YtJ)) (And.intro @Q8K (And.intro @qLQ @Nat.lt_irrefl))))))
def Kg0 := (And.intro (And.intro (And.intro @qe8 @JLi) (And.intro @KfW (And.intro @QrD @X7u))) (And.intro (And.intro @KqK @q42) (And.intro @QDn (And.intro @YiO @YzS))))
end Go.Proofs.Ytbcpcjofkfgjoaa
end
section
namespace Go.Proofs.Ytbcpcjofkfgjoaa
variable {α : Type} {r : Row α} {h : List AB} {s : AV} {l : List α}
def AV.capOk : AV → Bool
 | .sl _ _ n c _ => decide (n ≤ c)
 | _ => true
theorem qhS (id : Nat) (l : List α) : (rsl r id l).capOk = true := by
 unfold rsl
 split <;> simp [AV.capOk]
theorem Rd.slc {id off len cap : Nat} {k : Option Nat} (e : Rd r h (.sl id off len cap k) l) (h0 : l.length ≠ 0) : len = l.length ∧ ∃ xs, QCI h id = some xs ∧ off + l.length * r.sz ≤ xs.length ∧ (xs.drop off).take (l.length * r.sz) = r.cells l := by
 have e1 := e.1
 have e2 := e.len
 simp only [lenV, Option.some.injEq] at e2
 obtain rfl : len = l.length := by omega
 simp only [rdS, if_neg h0] at e1
 obtain ⟨xs, h1, e1⟩ := Option.bind_eq_some_iff.1 e1
 split at e1
 ·rename_i h2
  simp only [Option.some.injEq, Prod.mk.injEq, true_and] at e1
  exact ⟨rfl, xs, h1, h2, e1⟩
 ·cases e1
theorem Rd.mk_sl {id off n cap : Nat} {k : Option Nat} {xs : List AV} (h1 : QCI h id = some xs) (hn : n = l.length) (h2 : off + l.length * r.sz ≤ xs.length) (h3 : (xs.drop off).take (l.length * r.sz) = r.cells l) (hm : l.length ≤ maxLen) : Rd r h (.sl id off n cap k) l := by
 subst hn
 refine ⟨?_, hm⟩
 by_cases h0 : l.length = 0
 ·have : l = [] := List.eq_nil_of_length_eq_zero h0
  subst this
  simp only [rdS, List.length_nil, if_true]
  rfl
 ·simp only [rdS, if_neg h0, h1, Option.bind_some, if_pos h2, h3]
theorem Rd.mk0 {id off cap : Nat} {k : Option Nat} (h0 : l.length = 0) : Rd r h (.sl id off 0 cap k) l := by
 have : l = [] := List.eq_nil_of_length_eq_zero h0
 subst this
 exact ⟨by simp only [rdS, if_true]; rfl, Nat.zero_le _⟩
theorem Rd.takeS (e : Rd r h s l) (hc : s.capOk = true) {i : Nat} (hi : i ≤ l.length) {sz : Nat} (hz : r.sz = sz) : ∃ s', slL sz s none (some (.i .i64 i)) none = some s' ∧ Rd r h s' (l.take i) ∧ ∀ q, s.ok q = true → s'.ok q = true := by
 subst hz
 have hs := e.isSl
 have hl := e.len
 cases s <;> first | (cases hs; done) | skip
 ·rename_i id off len cap k
  simp only [lenV, Option.some.injEq] at hl
  simp only [AV.capOk, decide_eq_true_eq] at hc
  have hb : bnd len cap (some (.i .i64 (i : Int))) = some i := by
   simp only [bnd]
   rw [if_pos (by omega)]
   rfl
  refine ⟨.sl id off i cap k, ?_, ?_, fun q ho => ?_⟩
  ·simp only [slL, hb, Option.bind_some]
   simp only [bnd, Option.map_some, if_true]
  ·by_cases h0 : i = 0
   ·subst h0
    exact Rd.mk0 (by simp)
   ·obtain ⟨-, xs, h1, h2, h3⟩ := e.slc (by omega)
    have hti : (l.take i).length = i := by rw [List.length_take]; omega
    have hmul : i * r.sz ≤ l.length * r.sz := Nat.mul_le_mul_right _ hi
    refine Rd.mk_sl h1 hti.symm (by rw [hti]; omega) ?_ (by have := e.2; omega)
    rw [hti, ← r.cells_take, ← h3, List.take_take, Nat.min_eq_left hmul]
  ·simp only [AV.ok, Bool.or_eq_true, Bool.and_eq_true] at ho ⊢
   refine ho.imp (fun g => ⟨⟨?_, g.1.2⟩, g.2⟩) fun z => z
   have := Nat.eq_of_beq_eq_true g.1.1
   have h0 : i = 0 := by omega
   subst h0
   rfl
 ·simp only [lenV, Option.some.injEq] at hl
  have h0 : i = 0 := by omega
  subst h0
  exact ⟨.se, rfl, ⟨rfl, Nat.zero_le _⟩, fun _ h => h⟩
 ·simp only [lenV, Option.some.injEq] at hl
  have h0 : i = 0 := by omega
  subst h0
  exact ⟨.ns, rfl, ⟨rfl, Nat.zero_le _⟩, fun _ h => h⟩
theorem Rd.dropS (e : Rd r h s l) (hc : s.capOk = true) {i : Nat} (hi : i ≤ l.length) {sz : Nat} (hz : r.sz = sz) : ∃ s', slL sz s (some (.i .i64 i)) none none = some s' ∧ Rd r h s' (l.drop i) ∧ ∀ q, s.ok q = true → s'.ok q = true := by
 subst hz
 have hs := e.isSl
 have hl := e.len
 cases s <;> first | (cases hs; done) | skip
 ·rename_i id off len cap k
  simp only [lenV, Option.some.injEq] at hl
  simp only [AV.capOk, decide_eq_true_eq] at hc
  have hb : bnd 0 len (some (.i .i64 (i : Int))) = some i := by
   simp only [bnd]
   rw [if_pos (by omega)]
   rfl
  have hm := e.2
  by_cases h0 : i = 0
  ·subst h0
   refine ⟨.sl id off len cap k, ?_, by rw [List.drop_zero]; exact e, fun _ h => h⟩
   simp only [slL]
   rw [show bnd len cap none = some len from rfl, Option.bind_some, hb]
   simp only [Option.map_some, if_true]
  ·by_cases h1 : i < cap
   ·refine ⟨.sl id (off + i * r.sz) (len - i) (cap - i) (kcut k r.sz), ?_, ?_, fun q ho => ?_⟩
    ·simp only [slL]
     rw [show bnd len cap none = some len from rfl, Option.bind_some, hb]
     simp only [Option.map_some, if_neg h0, if_pos h1]
    ·by_cases h2 : i = l.length
     ·rw [show len - i = 0 from by omega]
      exact Rd.mk0 (by simp; omega)
     ·obtain ⟨-, xs, g1, g2, g3⟩ := e.slc (by omega)
      have hti : (l.drop i).length = l.length - i := by rw [List.length_drop]
      have hmul : (l.length - i) * r.sz + i * r.sz = l.length * r.sz := by rw [← Nat.add_mul]; congr 1; omega
      refine Rd.mk_sl g1 (by omega) (by rw [hti]; omega) ?_ (by omega)
      rw [hti, ← r.cells_drop, ← g3, List.drop_take, List.drop_drop]
      congr 1
      omega
    ·simp only [AV.ok, Bool.or_eq_true, Bool.and_eq_true] at ho ⊢
     refine .inr (ho.elim (fun g => ?_) fun z => z)
     have := Nat.eq_of_beq_eq_true g.1.2
     omega
   ·have hi2 : i = l.length := by omega
    by_cases hk : k = none
    ·refine ⟨.sl id off 0 0 none, ?_, Rd.mk0 (by simp; omega), fun q ho => ?_⟩
     ·simp only [slL]
      rw [show bnd len cap none = some len from rfl, Option.bind_some, hb]
      simp only [Option.map_some, if_neg h0, if_neg h1, if_pos hk]
     ·subst hk
      simp only [AV.ok, Bool.or_eq_true, Bool.and_eq_true] at ho ⊢
      exact .inr (ho.elim (fun g => absurd g.2 (by simp)) fun z => z)
    ·refine ⟨.se, ?_, ?_, fun q ho => rfl⟩
     ·simp only [slL]
      rw [show bnd len cap none = some len from rfl, Option.bind_some, hb]
      simp only [Option.map_some, if_neg h0, if_neg h1, if_neg hk]
     ·rw [List.drop_eq_nil_of_le (by omega)]
      exact ⟨rfl, Nat.zero_le _⟩
 ·simp only [lenV, Option.some.injEq] at hl
  have h0 : i = 0 := by omega
  subst h0
  exact ⟨.se, rfl, by rw [List.drop_zero]; exact e, fun _ h => h⟩
 ·simp only [lenV, Option.some.injEq] at hl
  have h0 : i = 0 := by omega
  subst h0
  exact ⟨.ns, rfl, by rw [List.drop_zero]; exact e, fun _ h => h⟩
def blkX : List AB → Nat → List AV
 | [], _ => []
 | .blk _ _ xs :: _, 0 => xs
 | _ :: _, 0 => []
 | _ :: L, k + 1 => blkX L k
def QNQ : List AB → Nat → Bool
 | [], _ => false
 | .blk fl m _ :: _, 0 => fl && m
 | _ :: _, 0 => false
 | _ :: L, k + 1 => QNQ L k
theorem KzV (fl m : Bool) (xs : List AV) (L : List AB) : blkX (.blk fl m xs :: L) 0 = xs := _root_.id rfl
theorem X5K (B : AB) (L : List AB) (k : Nat) : blkX (B :: L) (k + 1) = blkX L k := by cases B <;> rfl
theorem QCT (xs : List AV) (L : List AB) : QNQ (.blk true true xs :: L) 0 = true := _root_.id rfl
theorem XoX (B : AB) (L : List AB) (k : Nat) : QNQ (B :: L) (k + 1) = QNQ L k := by cases B <;> rfl
theorem K3H : ∀ (L : List AB) (k : Nat), QNQ L k = true → L[k]? = some (.blk true true (blkX L k))
 | [], _, e => by cases e
 | B :: L, 0, e => by
  cases B <;> first | (cases e; done) | skip
  rename_i fl m xs
  simp only [QNQ, Bool.and_eq_true] at e
  obtain ⟨rfl, rfl⟩ := e
  rfl
 | B :: L, k + 1, e => by
  rw [XoX] at e
  rw [X5K]
  simpa using K3H L k e
theorem qfU {h : List AB} (L : List AB) (k n sz by_ m : Nat) (ys : List AV) (hb : QNQ L k = true) (hx : (blkX L k).length = n * sz) (hs : sz ≠ 0) (hm : m ≠ 0) (h1 : (n + m) * by_ ≤ 140737488355328) (h2 : n + m ≤ maxLen) :
  appW (h ++ L) true sz by_ (.sl (h.length + k) 0 n n (some sz)) m ys = some (.sl (h.length + L.length) 0 (n + m) (n + m) (some sz), h ++ (JLX L k ++ [.blk true true (blkX L k ++ ys)])) := by
 have hx2 := K3H L k hb
 unfold appW
 dsimp only
 rw [if_neg hm, if_neg (by omega), ZgF, hx2]
 simp only [true_and, Nat.zero_add, hx, Nat.le_refl, h1, h2, if_true, reduceCtorEq, if_false, List.drop_zero, List.length_append]
 rw [if_pos ⟨hs, trivial⟩, Xs8, List.set_append_right _ _ (by omega), Nat.add_sub_cancel_left, List.append_assoc]
theorem zqn (H : List AB) (fl : Bool) (sz by_ id off n c : Nat) (k : Option Nat) (ys : List AV) : appW H fl sz by_ (.sl id off n c k) 0 ys = some (.sl id off n c k, H) := by unfold appW; dsimp only; rw [if_pos rfl]
end Go.Proofs.Ytbcpcjofkfgjoaa
end
