/- Part 6 of what the laws' proofs rest on. No condition. -/
import Derived.Test.YthhghdebjiiliaaDoorPb5
set_option linter.all false
section
namespace Go.Proofs.YthhghdebjiiliaaDoor
open Go.RowKit
noncomputable def nthA (l : List AV) : Nat → AV := List.rec (motive := fun _ => Nat → AV) (fun _ => .tu []) (fun a _ ih n => Nat.rec (motive := fun _ => AV) a (fun m _ => ih m) n) l
noncomputable def nthO (l : List AV) : Nat → Option AV := List.rec (motive := fun _ => Nat → Option AV) (fun _ => none) (fun a _ ih n => Nat.rec (motive := fun _ => Option AV) (some a) (fun m _ => ih m) n) l
noncomputable def getB (l : List AB) : Nat → Option AB := List.rec (motive := fun _ => Nat → Option AB) (fun _ => none) (fun a _ ih n => Nat.rec (motive := fun _ => Option AB) (some a) (fun m _ => ih m) n) l
noncomputable def setB (l : List AB) : Nat → AB → List AB := List.rec (motive := fun _ => Nat → AB → List AB) (fun _ _ => []) (fun a t ih n v => Nat.rec (motive := fun _ => List AB) (v :: t) (fun m _ => a :: ih m v) n) l
theorem qiA : ∀ (l : List AV) (n : Nat), nthA l n = l.getD n (.tu [])
 | [], _ => by simp [nthA]
 | _ :: _, 0 => rfl
 | _ :: l, n + 1 => by
  have := qiA l n
  simpa [nthA] using this
theorem zVo : ∀ (l : List AV) (n : Nat), nthO l n = l[n]?
 | [], _ => by simp [nthO]
 | _ :: _, 0 => rfl
 | _ :: l, n + 1 => by
  have := zVo l n
  simpa [nthO] using this
theorem qRY : ∀ (l : List AB) (n : Nat), getB l n = l[n]?
 | [], _ => by simp [getB]
 | _ :: _, 0 => rfl
 | _ :: l, n + 1 => by
  have := qRY l n
  simpa [getB] using this
theorem Xgv : ∀ (l : List AB) (n : Nat) (v : AB), setB l n v = l.set n v
 | [], _, _ => by simp [setB]
 | _ :: _, 0, _ => rfl
 | a :: l, n + 1, v => by
  have := Xgv l n v
  simpa [setB] using this
noncomputable def KUJ (h : List AB) (id : Nat) : Option (List AV) :=
 match getB h id with
 | some (.blk _ _ xs) => some xs
 | _ => none
theorem Jaq (h : List AB) (id : Nat) : KUJ h id = JZy h id := by
 unfold KUJ JZy
 rw [qRY]
 rfl
noncomputable def ldVF (h : List AB) : Option Nat → AV → Option AV
 | none, .p id off => (KUJ h id).bind fun xs => nthO xs off
 | some n, .p id off => (KUJ h id).bind fun xs => if off + n ≤ xs.length then some (.ag ((xs.drop off).take n)) else none
 | _, _ => none
theorem qNz (h : List AB) (n : Option Nat) (x : AV) : ldVF h n x = ldV h n x := by
 unfold ldVF ldV
 simp only [Jaq, zVo]
 rfl
noncomputable def stBF (h : List AB) (id off : Nat) (l : List AV) : Option (List AB) :=
 match getB h id with
 | some (.blk fl true xs) => if off + l.length ≤ xs.length ∧ l.all (wrOk fl) = true then some (setB h id (.blk fl true (over xs off l))) else none
 | _ => none
theorem zxP (h : List AB) (id off : Nat) (l : List AV) : stBF h id off l = stB h id off l := by
 unfold stBF stB
 simp only [qRY, Xgv]
 rfl
noncomputable def stVF (h : List AB) : Option Nat → AV → AV → Option (List AB)
 | none, .p id off, v => if v.one then stBF h id off [v] else none
 | some n, .p id off, .ag l => if l.length = n then stBF h id off l else none
 | _, _, _ => none
theorem qIq (h : List AB) (n : Option Nat) (x y : AV) : stVF h n x y = stV h n x y := by
 unfold stVF stV
 simp only [zxP]
 rfl
noncomputable def Xgt (h : List AB) (sz : Nat) : AV → Option (Nat × List AV)
 | .ns => some (0, [])
 | .se => some (0, [])
 | .s l => if sz = 1 then some (l.length, l.map fun b => .i .u8 b.toNat) else none
 | .sl id off len _ _ => if len = 0 then some (0, []) else (KUJ h id).bind fun xs => if off + len * sz ≤ xs.length then some (len, (xs.drop off).take (len * sz)) else none
 | _ => none
theorem qoy (h : List AB) (sz : Nat) (x : AV) : Xgt h sz x = srcV h sz x := by
 unfold Xgt srcV
 simp only [Jaq]
 rfl
noncomputable def YIb (h : List AB) (fl : Bool) (sz by_ : Nat) (s x : AV) : Option (AV × List AB) :=
 (Xgt h sz x).bind fun (m, ys) =>
  if ys.all (wrOk fl) = true then
   match s with
   | .ns => if m = 0 then some (.ns, h) else if m * by_ ≤ 140737488355328 ∧ m ≤ maxLen then some (.sl h.length 0 m m (some sz), h ++ [.blk fl true ys]) else none
   | .sl id off len cap k =>
    if m = 0 then some (.sl id off len cap k, h)
    else if len + m ≤ cap then (stBF h id (off + len * sz) ys).map fun h' => (.sl id off (len + m) cap k, h')
    else match getB h id with
     | some (.blk fl' mu xs) =>
      if fl' = fl ∧ off + len * sz ≤ xs.length ∧ (len + m) * by_ ≤ 140737488355328 ∧ len + m ≤ maxLen then
       if k = none then some (.sl h.length 0 (len + m) (len + m) (some sz), h ++ [.blk fl true ((xs.drop off).take (len * sz) ++ ys)])
       else if k = some sz ∧ sz ≠ 0 ∧ mu = true ∧ off + len * sz = xs.length then some (.sl h.length 0 (len + m) (len + m) (some sz), (setB h id .dead) ++ [.blk fl true (xs.drop off ++ ys)])
       else if k = some sz ∧ sz ≠ 0 ∧ mu = true then some (.sl h.length 0 (len + m) (len + m) (some sz), (setB h id .dead) ++ [.blk fl true ((xs.drop off).take (len * sz) ++ ys)])
       else none
      else none
     | _ => none
   | _ => none
  else none
theorem Qlp (h : List AB) (fl : Bool) (sz by_ : Nat) (s x : AV) : YIb h fl sz by_ s x = appV h fl sz by_ s x := by
 unfold YIb appV
 simp only [qoy, zxP, qRY, Xgv]
 rfl
noncomputable def QBf (h : List AB) (sz : Nat) (d s : AV) : Option (AV × List AB) :=
 (Xgt h sz s).bind fun (m, ys) =>
  match d with
  | .sl id off len _ _ => if m ≤ len then (stBF h id off ys).map fun h' => (.i .i64 m, h') else none
  | _ => none
theorem zt6 (h : List AB) (sz : Nat) (d s : AV) : QBf h sz d s = cpyV h sz d s := by
 unfold QBf cpyV
 simp only [qoy, zxP]
 rfl
noncomputable def r_mv (ev : Opd → AV) (h : List AB) (x : Opd) : Option (AV × List AB) :=
 some (ev x, h)
noncomputable def zuP (ev : Opd → AV) (h : List AB) (c a b : Opd) : Option (AV × List AB) :=
 match ev c with
  | .b t => some (if t then ev a else ev b, h)
  | _ => none
noncomputable def Q8f (ev : Opd → AV) (h : List AB) (op : BinOp) (x y : Opd) : Option (AV × List AB) :=
 (binV op (ev x) (ev y)).map (·, h)
noncomputable def ZqY (ev : Opd → AV) (h : List AB) (neg : Bool) (x y : Opd) : Option (AV × List AB) :=
 match ev x, ev y with
  | .b p, .b q => some (.b ((p == q) ^^ neg), h)
  | _, _ => none
noncomputable def qFs (ev : Opd → AV) (h : List AB) (ks : List CK) (neg : Bool) (x y : Opd) : Option (AV × List AB) :=
 match ev x, ev y with
  | .ag l, .ag l' => (qE2 ks l l').map fun r => (.b (r ^^ neg), h)
  | _, _ => none
noncomputable def JRp (ev : Opd → AV) (h : List AB) (neg : Bool) (x y : Opd) : Option (AV × List AB) :=
 (KoA (ev x) (ev y)).map fun r => (.b (r ^^ neg), h)
noncomputable def r_un (ev : Opd → AV) (h : List AB) (op : UnOp) (x : Opd) : Option (AV × List AB) :=
 (unV op (ev x)).map (·, h)
noncomputable def X1n (ev : Opd → AV) (h : List AB) (k : IntKind) (x : Opd) : Option (AV × List AB) :=
 (ev x).int?.map fun n => (.i k (k.wrap n), h)
noncomputable def zPf (ev : Opd → AV) (h : List AB) (x : Opd) : Option (AV × List AB) :=
 match ev x with
  | .s l => some (.s l, h)
  | _ => none
noncomputable def JbR (ev : Opd → AV) (h : List AB) (off : Nat) (x : Opd) : Option (AV × List AB) :=
 match ev x with
  | .p id o => some (.p id (o + off), h)
  | _ => none
noncomputable def QbV (ev : Opd → AV) (h : List AB) (off : Nat) (sz : Option Nat) (x : Opd) : Option (AV × List AB) :=
 match ev x with
  | .ag l => match sz with
   | none => (l[off]?).map (·, h)
   | some n => some (.ag ((l.drop off).take n), h)
  | _ => none
noncomputable def Jbo (ev : Opd → AV) (h : List AB) (sz : Nat) (x i : Opd) : Option (AV × List AB) :=
 match ev x, ev i with
  | .sl id off k _ _, .i _ n => if 0 ≤ n ∧ n < k then some (.p id (off + n.toNat * sz), h) else none
  | _, _ => none
noncomputable def XRG (ev : Opd → AV) (h : List AB) (k sz : Nat) (x i : Opd) : Option (AV × List AB) :=
 match ev x, ev i with
  | .p id off, .i _ n => if 0 ≤ n ∧ n < k then some (.p id (off + n.toNat * sz), h) else none
  | _, _ => none
noncomputable def qe9 (ev : Opd → AV) (h : List AB) (x i : Opd) : Option (AV × List AB) :=
 match ev x, ev i with
  | .s l, .i _ n => if 0 ≤ n then (l[n.toNat]?).map fun b => (.i .u8 b.toNat, h) else none
  | _, _ => none
noncomputable def qDt (ev : Opd → AV) (h : List AB) (k sz : Nat) (agg : Bool) (x i : Opd) : Option (AV × List AB) :=
 match ev x, ev i with
  | .ag l, .i _ n => if 0 ≤ n ∧ n < k then (if agg then some (.ag ((l.drop (n.toNat * sz)).take sz), h) else (l[n.toNat * sz]?).map (·, h)) else none
  | _, _ => none
noncomputable def zqS (ev : Opd → AV) (h : List AB) (x : Opd) (lo hi : Option Opd) : Option (AV × List AB) :=
 match ev x with
  | .s l => (slS l (lo.map ev) (hi.map ev)).map (·, h)
  | _ => none
noncomputable def XVO (ev : Opd → AV) (h : List AB) (sz : Nat) (x : Opd) (lo hi mx : Option Opd) : Option (AV × List AB) :=
 (slL sz (ev x) (lo.map ev) (hi.map ev) (mx.map ev)).map (·, h)
noncomputable def KW5 (ev : Opd → AV) (h : List AB) (n sz : Nat) (x : Opd) (lo hi mx : Option Opd) : Option (AV × List AB) :=
 (slA n sz (ev x) (lo.map ev) (hi.map ev) (mx.map ev)).map (·, h)
noncomputable def Zjq (ev : Opd → AV) (h : List AB) (t : TypeId) (x : Opd) : Option (AV × List AB) :=
 some (.ifc t (ev x), h)
noncomputable def X64 (ev : Opd → AV) (h : List AB) (fn : Fn) (fst cap : List Opd) : Option (AV × List AB) :=
 some (.f fn (fst.map ev) (cap.map ev), h)
noncomputable def Qx7 (ev : Opd → AV) (h : List AB) (x : Opd) (i : Nat) : Option (AV × List AB) :=
 match ev x with
  | .tu l => (l[i]?).map (·, h)
  | _ => none
noncomputable def XMm (ev : Opd → AV) (h : List AB) (str : Bool) (x : Opd) : Option (AV × List AB) :=
 if (ev x).isStr = str then (lenV (ev x)).map fun n => (.i .i64 n, h) else none
noncomputable def KGk (_ev : Opd → AV) (h : List AB) (n : Nat) : Option (AV × List AB) :=
 some (.i .i64 n, h)
noncomputable def r_mm (ev : Opd → AV) (h : List AB) (mx : Bool) (x y : Opd) : Option (AV × List AB) :=
 (mmV mx (ev x) (ev y)).map (·, h)
noncomputable def K0i (ev : Opd → AV) (h : List AB) (x : Opd) : Option (AV × List AB) :=
 match ev x with
  | .p id off => some (.p id off, h)
  | .f (.func f) fst cap => some (.f (.func f) fst cap, h)
  | .f (.yield l) fst cap => some (.f (.yield l) fst cap, h)
  | .ifc t v => some (.ifc t v, h)
  | _ => none
noncomputable def KN4 (ev : Opd → AV) (h : List AB) (x : Opd) (t : TypeId) (ok : Bool) (z : AV) : Option (AV × List AB) :=
 match ev x with
  | .ifc t' v => if t' = t then some (if ok then .tu [v, .b true] else v, h) else if ok then some (.tu [z, .b false], h) else none
  | .ni => if ok then some (.tu [z, .b false], h) else none
  | _ => none
noncomputable def r_ld (ev : Opd → AV) (h : List AB) (n : Option Nat) (x : Opd) : Option (AV × List AB) :=
 (ldVF h n (ev x)).map (·, h)
noncomputable def r_st (ev : Opd → AV) (h : List AB) (n : Option Nat) (x v : Opd) : Option (AV × List AB) :=
 (stVF h n (ev x) (ev v)).map (.tu [], ·)
noncomputable def KIx (_ev : Opd → AV) (h : List AB) (fl : Bool) (zs : List AV) : Option (AV × List AB) :=
 newB h fl zs (fun n => .p n 0)
noncomputable def Ja5 (ev : Opd → AV) (h : List AB) (fl : Bool) (n : Nat) (x : Opd) : Option (AV × List AB) :=
 if (ev x).cells.length = n then newB h fl (ev x).cells (fun n => .p n 0) else none
noncomputable def Ztn (ev : Opd → AV) (h : List AB) (zs : List AV) (ps : List (Nat × Nat × Opd)) : Option (AV × List AB) :=
 (YwX ev zs ps).map fun cs => (.ag cs, h)
noncomputable def ZVo (ev : Opd → AV) (h : List AB) (fl : Bool) (k : Nat) (zs : List AV) (ps : List (Nat × Nat × Opd)) : Option (AV × List AB) :=
 (YwX ev zs ps).bind fun cs => newB h fl cs (fun n => .sl n 0 k k none)
noncomputable def K4v (ev : Opd → AV) (h : List AB) (fl : Bool) (z : List AV) (by_ : Nat) (le ca : Opd) : Option (AV × List AB) :=
 match ev le, ev ca with
  | .i _ l, .i _ c => if 0 ≤ l ∧ l ≤ c ∧ (by_ : Int) * c ≤ 2 ^ 47 ∧ c ≤ maxLen then newB h fl ((List.replicate c.toNat z).flatten) (fun n => .sl n 0 l.toNat c.toNat none) else none
  | _, _ => none
noncomputable def zEr (ev : Opd → AV) (h : List AB) (str fl : Bool) (sz by_ : Nat) (s x : Opd) : Option (AV × List AB) :=
 if (ev x).isStr = str then YIb h fl sz by_ (ev s) (ev x) else none
noncomputable def JWn (ev : Opd → AV) (h : List AB) (str : Bool) (sz : Nat) (d s : Opd) : Option (AV × List AB) :=
 if (ev s).isStr = str then QBf h sz (ev d) (ev s) else none
noncomputable def q8e (ev : Opd → AV) (h : List AB) (x : Opd) : Option (AV × List AB) :=
 match ev x with
  | .ns => some (.i .i64 0, h)
  | .sl _ _ _ c none => some (.i .i64 c, h)
  | _ => none
noncomputable def Q96 (ev : Opd → AV) (h : List AB) (fl : Bool) (z : List AV) (by_ : Nat) (s n : Opd) : Option (AV × List AB) :=
 match ev s, ev n with
  | .ns, .i _ m => if m = 0 then some (.ns, h) else if 0 < m ∧ m.toNat * by_ ≤ 140737488355328 ∧ m.toNat ≤ maxLen then newB h fl ((List.replicate m.toNat z).flatten) (fun k => .sl k 0 m.toNat m.toNat (some z.length)) else none
  | _, _ => none
noncomputable def XpZ (_ev : Opd → AV) (_h : List AB)  : Option (AV × List AB) :=
 none
noncomputable def qLg (ev : Opd → AV) (h : List AB) (x : Opd) : Option (AV × List AB) :=
 if (ev x).isStr then none else (Xgt h 1 (ev x)).bind fun (_, cs) => (bytesOf cs).map fun l => (.s l, h)
noncomputable def QS6 (ev : Opd → AV) (h : List AB) (z : List AV) (x : Opd) : Option (AV × List AB) :=
 match ev x with
  | .ns => some (.tu [], h)
  | .se => some (.tu [], h)
  | .sl id off n _ _ => if n = 0 then some (.tu [], h) else (stBF h id off ((List.replicate n z).flatten)).map (.tu [], ·)
  | _ => none
noncomputable def quh (ev : Opd → AV) (h : List AB) (x y : Opd) : Option (AV × List AB) :=
 (Xgt h 1 (ev x)).bind fun (_, xs) => (Xgt h 1 (ev y)).bind fun (_, ys) => (bytesOf xs).bind fun l => (bytesOf ys).map fun m => (.i .i64 (Extern.BytealgCompare.cmp ⟨l.toArray⟩ ⟨m.toArray⟩), h)
noncomputable def Xu9 (ev : Opd → AV) (h : List AB) (x : Opd) : Option (AV × List AB) :=
 match ev x with
  | .s l => if l.length ≤ maxLen then some (.sl h.length 0 l.length l.length (some 1), h ++ [.blk true true (l.map fun b => .i .u8 (b.toNat : Int))]) else none
  | _ => none
noncomputable def zwj (ev : Opd → AV) (h : List AB) (x : Opd) : Option (AV × List AB) :=
 match ev x with
  | .s l => some (.p h.length 0, h ++ [.iter ⟨l.toArray⟩ 0])
  | _ => none
noncomputable def XyZ (ev : Opd → AV) (h : List AB) (x : Opd) : Option (AV × List AB) :=
 match ev x with
  | .p id 0 => match h[id]? with
   | some (.iter s pos) => if pos < s.size then some (.tu [.b true, .i .i64 (pos : Int), .i .i32 ((Utf8.decode s pos).1 : Int)], h.set id (.iter s (pos + (Utf8.decode s pos).2))) else some (.tu [.b false], h)
   | _ => none
  | _ => none
noncomputable def Kzc (ev : Opd → AV) (h : List AB) (x : Opd) : Option (AV × List AB) :=
 match ev x with
  | .sl id off n c k => if n = 0 then none else match h[id]? with
   | some (.blk fl true xs) => some (.sl id off n c k, h.set id (.blk fl false xs))
   | _ => none
  | _ => none
noncomputable def J7k (ev : Opd → AV) (h : List AB) (x y : Opd) : Option (AV × List AB) :=
 match ev x, ev y with
  | .s l, .i .u8 n => some (.i .i64 (match (List.range l.length).find? fun i => (⟨l.toArray⟩ : ByteArray)[i]! == UInt8.ofNat n.toNat with | some i => (i : Int) | none => -1), h)
  | _, _ => none
noncomputable def YHn (_ev : Opd → AV) (_h : List AB) (_x0 : Opd) (_x1 : List Opd) : Option (AV × List AB) :=
 none
noncomputable def CO.runF (ev : Opd → AV) (h : List AB) : CO → Option (AV × List AB)
 | .mv a0 => r_mv ev h a0
 | .pick a0 a1 a2 => zuP ev h a0 a1 a2
 | .bin a0 a1 a2 => Q8f ev h a0 a1 a2
 | .eqb a0 a1 a2 => ZqY ev h a0 a1 a2
 | .eqc a0 a1 a2 a3 => qFs ev h a0 a1 a2 a3
 | .eqn a0 a1 a2 => JRp ev h a0 a1 a2
 | .un a0 a1 => r_un ev h a0 a1
 | .cvi a0 a1 => X1n ev h a0 a1
 | .cvs a0 => zPf ev h a0
 | .fad a0 a1 => JbR ev h a0 a1
 | .fld a0 a1 a2 => QbV ev h a0 a1 a2
 | .iad a0 a1 a2 => Jbo ev h a0 a1 a2
 | .iaa a0 a1 a2 a3 => XRG ev h a0 a1 a2 a3
 | .ixs a0 a1 => qe9 ev h a0 a1
 | .ixa a0 a1 a2 a3 a4 => qDt ev h a0 a1 a2 a3 a4
 | .sls a0 a1 a2 => zqS ev h a0 a1 a2
 | .sll a0 a1 a2 a3 a4 => XVO ev h a0 a1 a2 a3 a4
 | .sla a0 a1 a2 a3 a4 a5 => KW5 ev h a0 a1 a2 a3 a4 a5
 | .ifc a0 a1 => Zjq ev h a0 a1
 | .mkf a0 a1 a2 => X64 ev h a0 a1 a2
 | .ext a0 a1 => Qx7 ev h a0 a1
 | .len a0 a1 => XMm ev h a0 a1
 | .lnc a0 => KGk ev h a0
 | .mm a0 a1 a2 => r_mm ev h a0 a1 a2
 | .nck a0 => K0i ev h a0
 | .tas a0 a1 a2 a3 => KN4 ev h a0 a1 a2 a3
 | .ld a0 a1 => r_ld ev h a0 a1
 | .st a0 a1 a2 => r_st ev h a0 a1 a2
 | .new a0 a1 => KIx ev h a0 a1
 | .box a0 a1 a2 => Ja5 ev h a0 a1 a2
 | .bld a0 a1 => Ztn ev h a0 a1
 | .bls a0 a1 a2 a3 => ZVo ev h a0 a1 a2 a3
 | .mks a0 a1 a2 a3 a4 => K4v ev h a0 a1 a2 a3 a4
 | .app a0 a1 a2 a3 a4 a5 => zEr ev h a0 a1 a2 a3 a4 a5
 | .cpy a0 a1 a2 a3 => JWn ev h a0 a1 a2 a3
 | .capo a0 => q8e ev h a0
 | .apz a0 a1 a2 a3 a4 => Q96 ev h a0 a1 a2 a3 a4
 | .stop => XpZ ev h
 | .b2s a0 => qLg ev h a0
 | .clr a0 a1 => QS6 ev h a0 a1
 | .bcmp a0 a1 => quh ev h a0 a1
 | .s2b a0 => Xu9 ev h a0
 | .rng a0 => zwj ev h a0
 | .nxt a0 => XyZ ev h a0
 | .s2s a0 => Kzc ev h a0
 | .bix a0 a1 => J7k ev h a0 a1
 | .call a0 a1 => YHn ev h a0 a1
theorem q7w (ev : Opd → AV) (h : List AB) (o : CO) : o.runF ev h = o.run ev h := by
 cases o with
 | ld n x => simp only [CO.runF, CO.run, r_ld, qNz]
 | st n x v => simp only [CO.runF, CO.run, r_st, qIq]
 | app str fl sz b s x => simp only [CO.runF, CO.run, zEr, Qlp]
 | cpy str sz d s => simp only [CO.runF, CO.run, JWn, zt6]
 | b2s x => simp only [CO.runF, CO.run, qLg, qoy]
 | clr z x => simp only [CO.runF, CO.run, QS6, zxP]; rfl
 | bcmp x y => simp only [CO.runF, CO.run, quh, qoy]
 | _ => rfl
end Go.Proofs.YthhghdebjiiliaaDoor
end
section
namespace Go.Proofs.YthhghdebjiiliaaDoor
open Go.RowKit
inductive Job where
 | fn (cf : CF)
 | rd (id : Nat) (asg bd : CC)
noncomputable def Xyg (fr : List AV) : Option (Nat × Bool) → Option Bool
 | none => some true
 | some (t, w) => match nthA fr t with
  | .b x => some (x == w)
  | .top => none
  | _ => some false
structure Pt where
 k : Nat
 lo : Nat
 hi : Nat
 rs : List Nat
 ws : List Nat
def YWe (rs ws : List Nat) : Nat → List AB → List AB
 | _, [] => []
 | i, B :: l => (if memN i ws then B else if memN i rs then B.freeze else .dead) :: YWe rs ws (i + 1) l
noncomputable def Yjq (ws : List Nat) (G : List AB) : Nat → List AB → List AB
 | i, [] => G.drop i
 | i, B :: l => (if memN i ws then (getB G i).getD .dead else B) :: Yjq ws G (i + 1) l
inductive MK where
 | free
 | ld (x : Opd)
 | call (f : Opd) (args : List Opd)
 | mem
def CO.mk : CO → MK
 | .ld _ x => .ld x
 | .call f args => .call f args
 | .b2s _ | .new _ _ | .box _ _ _ | .bls _ _ _ _ | .mks _ _ _ _ _ | .apz _ _ _ _ _ | .st _ _ _ | .app _ _ _ _ _ _ | .cpy _ _ _ _ | .clr _ _ | .bcmp _ _ | .s2b _ | .rng _ | .nxt _ | .s2s _ => .mem
 | _ => .free
def idOf : AV → List Nat
 | .p id _ => [id]
 | .sl id _ _ _ _ => [id]
 | _ => []
def foot (ev : Opd → AV) : CO → List Nat × List Nat
 | .b2s x => (idOf (ev x), [])
 | .st _ x _ => ([], idOf (ev x))
 | .app _ _ _ _ s x => (idOf (ev x), idOf (ev s))
 | .cpy _ _ d s => (idOf (ev s), idOf (ev d))
 | .clr _ x => ([], idOf (ev x))
 | .bcmp x y => (idOf (ev x) ++ idOf (ev y), [])
 | .nxt x => ([], idOf (ev x))
 | .s2s x => ([], idOf (ev x))
 | _ => ([], [])
def X72 (p : Pt) (id : Nat) : Bool := memN id p.ws || (Nat.ble p.lo id && Nat.blt id p.hi)
def XOE (anc : Nat) (rs ws : List Nat) (p : Pt) : Bool :=
 if bit p.k anc then true else (rs ++ ws).all (fun id => !X72 p id) && ws.all (fun id => !memN id (p.rs ++ p.ws))
def qOk (len0 lo hi : Nat) (anc : Nat) (past : List Pt) (id : Nat) : Bool :=
 Nat.blt id len0 || (Nat.ble lo id && Nat.blt id hi) || past.any fun p => bit p.k anc && Nat.ble p.lo id && Nat.blt id p.hi
def okIn (lo : Nat) (id : Nat) : Bool := Nat.blt id lo
def okV (q : Nat → Bool) (v : AV) : Bool :=
 match v with
 | .i _ _ => true
 | .b _ => true
 | v => v.ok q
end Go.Proofs.YthhghdebjiiliaaDoor
end
section
namespace Go.Proofs.YthhghdebjiiliaaDoor
open Go.RowKit
theorem YFu (q : Nat → Bool) (v : AV) : okV q v = v.ok q := by
 cases v <;> simp [okV, AV.ok]
mutual
theorem AV.ok_mono {q q' : Nat → Bool} (h : ∀ i, q i = true → q' i = true) : ∀ a : AV, a.ok q = true → a.ok q' = true
 | .p id _, e => by simp only [AV.ok] at e ⊢; exact h id e
 | .y id, e => by simp only [AV.ok] at e ⊢; exact h id e
 | .sl id _ len cap k, e => by
  simp only [AV.ok, Bool.or_eq_true] at e ⊢
  exact e.imp (fun x => x) (h _)
 | .f _ fst cap, e => by
  simp only [AV.ok, Bool.and_eq_true] at e ⊢
  exact ⟨QzV h fst e.1, QzV h cap e.2⟩
 | .ifc _ v, e => by
  simp only [AV.ok] at e ⊢
  exact AV.ok_mono h v e
 | .ag l, e => by
  simp only [AV.ok] at e ⊢
  exact QzV h l e
 | .tu l, e => by
  simp only [AV.ok] at e ⊢
  exact QzV h l e
 | .top, _ => by simp [AV.ok]
 | .b _, _ => by simp [AV.ok]
 | .i _ _, _ => by simp [AV.ok]
 | .s _, _ => by simp [AV.ok]
 | .np, _ => by simp [AV.ok]
 | .se, _ => by simp [AV.ok]
 | .ns, _ => by simp [AV.ok]
 | .nf, _ => by simp [AV.ok]
 | .ni, _ => by simp [AV.ok]
theorem QzV {q q' : Nat → Bool} (h : ∀ i, q i = true → q' i = true) : ∀ l : List AV, okL q l = true → okL q' l = true
 | [], _ => by simp [okL]
 | a :: l, e => by
  simp only [okL, Bool.and_eq_true] at e ⊢
  exact ⟨AV.ok_mono h a e.1, QzV h l e.2⟩
end
theorem AB.ok_mono {q q' : Nat → Bool} (h : ∀ i, q i = true → q' i = true) (B : AB) (e : B.ok q = true) : B.ok q' = true := by
 cases B with
 | dead => rfl
 | iter s p => rfl
 | lp _ _ fr _ _ _ => exact QzV h fr e
 | blk fl m xs =>
  cases fl with
  | true => rfl
  | false => exact QzV h xs e
theorem VR.okLen {ρ : Mp} {a : AV} {v : Value} (h : VR ρ a v) : a.ok (fun i => decide (i < ρ.length)) = true := by
 induction h with
 | p id off b o n h =>
  have := (List.getElem?_eq_some_iff.1 h).1
  simp [AV.ok, this]
 | sl id off len cap k b o n cap' h =>
  have := (List.getElem?_eq_some_iff.1 h).1
  simp [AV.ok, this]
 | y id b o n h =>
  have := (List.getElem?_eq_some_iff.1 h).1
  simp [AV.ok, this]
 | f fn fst cap fst' cap' h0 h _ _ ih0 ih =>
  simp only [AV.ok, Bool.and_eq_true]
  refine ⟨K7j.2 fun j a hj => ih0 j a _ hj (Array.getElem?_eq_getElem ?_), K7j.2 fun j a hj => ih j a _ hj (Array.getElem?_eq_getElem ?_)⟩
  ·rw [← h0]; exact (List.getElem?_eq_some_iff.1 hj).1
  ·rw [← h]; exact (List.getElem?_eq_some_iff.1 hj).1
 | ifc t v v' _ ih => simpa only [AV.ok] using ih
 | ag l cs h _ ih =>
  simp only [AV.ok]
  exact K7j.2 fun j a hj => ih j a _ hj (Array.getElem?_eq_getElem (by rw [← h]; exact (List.getElem?_eq_some_iff.1 hj).1))
 | tu l cs h _ ih =>
  simp only [AV.ok]
  exact K7j.2 fun j a hj => ih j a _ hj (Array.getElem?_eq_getElem (by rw [← h]; exact (List.getElem?_eq_some_iff.1 hj).1))
 | _ => simp [AV.ok]
theorem VR.okLe {ρ : Mp} {a : AV} {v : Value} (h : VR ρ a v) {n : Nat} (hn : ρ.length ≤ n) : a.ok (fun i => decide (i < n)) = true :=
 AV.ok_mono (fun i hi => by simp at hi ⊢; omega) a h.okLen
theorem Rel.okLen {K : Code → CC → Prop} {ρ : Mp} {h : List AB} {w : World} (r : Rel K ρ h w) {i : Nat} {B : AB} (hi : h[i]? = some B) : B.ok (fun i => decide (i < ρ.length)) = true := by
 obtain ⟨b, o, n, h1, h2⟩ := r.at hi
 cases B with
 | dead => rfl
 | iter s p => rfl
 | lp st pd fr ps asg bd =>
  obtain ⟨r, _, _, _, h4, _⟩ := h2
  exact K7j.2 fun k a ha => (h4.2 k a _ ha (Array.getElem?_eq_getElem (by rw [← h4.1]; exact (List.getElem?_eq_some_iff.1 ha).1))).okLen
 | blk fl m xs =>
  cases fl with
  | true => rfl
  | false =>
   obtain ⟨cs, e, fz, _, _, h3, h4⟩ := h2
   exact K7j.2 fun k a ha => (h4 k a _ ha (Array.getElem?_eq_getElem (by have := (List.getElem?_eq_some_iff.1 ha).1; omega))).okLen
theorem Qc9 {ev ev' : Opd → AV} : ∀ (ps : List (Nat × Nat × Opd)) (cells : List AV), (∀ x ∈ ps, ev x.2.2 = ev' x.2.2) → YwX ev cells ps = YwX ev' cells ps
 | [], _, _ => rfl
 | (off, sz, x) :: ps, cells, h => by
  simp only [YwX]
  rw [h _ (List.mem_cons_self ..)]
  split
  ·exact Qc9 ps _ fun y hy => h y (List.mem_cons_of_mem _ hy)
  ·rfl
theorem qc1 {ev ev' : Opd → AV} (h : List AB) (c : CO) (hc : ∀ v, ev (.c v) = ev' (.c v)) (ht : ∀ t ∈ c.tmps, ev (.t t) = ev' (.t t)) : c.run ev h = c.run ev' h := by
 have o : ∀ x : Opd, (∀ t ∈ x.tmps, ev (.t t) = ev' (.t t)) → ev x = ev' x := fun x hx => by
  cases x with
  | t n => exact hx n (by simp [Opd.tmps])
  | c v => exact hc v
 have oo : ∀ x : Option Opd, (∀ t ∈ optT x, ev (.t t) = ev' (.t t)) → x.map ev = x.map ev' := fun x hx => by
  cases x with
  | none => rfl
  | some x => exact congrArg some (o x hx)
 have ol : ∀ l : List Opd, (∀ t ∈ l.flatMap Opd.tmps, ev (.t t) = ev' (.t t)) → l.map ev = l.map ev' := fun l hl =>
  List.map_congr_left fun x hx => o x fun t q => hl t (List.mem_flatMap.2 ⟨x, hx, q⟩)
 have of : ∀ ps : List (Nat × Nat × Opd), (∀ t ∈ ps.flatMap (fun x => x.2.2.tmps), ev (.t t) = ev' (.t t)) → ∀ cells, YwX ev cells ps = YwX ev' cells ps := fun ps hp cells =>
  Qc9 ps cells fun x hx => o x.2.2 fun t q => hp t (List.mem_flatMap.2 ⟨x, hx, q⟩)
 cases c with
 | mv a0 =>
  have h0 := o a0 fun t q => ht t q
  simp only [CO.run, h0]
 | pick a0 a1 a2 =>
  have h0 := o a0 fun t q => ht t (List.mem_append_left _ (List.mem_append_left _ q))
  have h1 := o a1 fun t q => ht t (List.mem_append_left _ (List.mem_append_right _ q))
  have h2 := o a2 fun t q => ht t (List.mem_append_right _ q)
  simp only [CO.run, h0, h1, h2]
 | bin _x0 a1 a2 =>
  have h0 := o a1 fun t q => ht t (List.mem_append_left _ q)
  have h1 := o a2 fun t q => ht t (List.mem_append_right _ q)
  simp only [CO.run, h0, h1]
 | eqb _x0 a1 a2 =>
  have h0 := o a1 fun t q => ht t (List.mem_append_left _ q)
  have h1 := o a2 fun t q => ht t (List.mem_append_right _ q)
  simp only [CO.run, h0, h1]
 | eqc _x0 _x1 a2 a3 =>
  have h0 := o a2 fun t q => ht t (List.mem_append_left _ q)
  have h1 := o a3 fun t q => ht t (List.mem_append_right _ q)
  simp only [CO.run, h0, h1]
 | eqn _x0 a1 a2 =>
  have h0 := o a1 fun t q => ht t (List.mem_append_left _ q)
  have h1 := o a2 fun t q => ht t (List.mem_append_right _ q)
  simp only [CO.run, h0, h1]
 | un _x0 a1 =>
  have h0 := o a1 fun t q => ht t q
  simp only [CO.run, h0]
 | cvi _x0 a1 =>
  have h0 := o a1 fun t q => ht t q
  simp only [CO.run, h0]
 | cvs a0 =>
  have h0 := o a0 fun t q => ht t q
  simp only [CO.run, h0]
 | fad _x0 a1 =>
  have h0 := o a1 fun t q => ht t q
  simp only [CO.run, h0]
 | fld _x0 _x1 a2 =>
  have h0 := o a2 fun t q => ht t q
  simp only [CO.run, h0]
 | iad _x0 a1 a2 =>
  have h0 := o a1 fun t q => ht t (List.mem_append_left _ q)
  have h1 := o a2 fun t q => ht t (List.mem_append_right _ q)
  simp only [CO.run, h0, h1]
 | iaa _x0 _x1 a2 a3 =>
  have h0 := o a2 fun t q => ht t (List.mem_append_left _ q)
  have h1 := o a3 fun t q => ht t (List.mem_append_right _ q)
  simp only [CO.run, h0, h1]
 | ixs a0 a1 =>
  have h0 := o a0 fun t q => ht t (List.mem_append_left _ q)
  have h1 := o a1 fun t q => ht t (List.mem_append_right _ q)
  simp only [CO.run, h0, h1]
 | ixa _x0 _x1 _x2 a3 a4 =>
  have h0 := o a3 fun t q => ht t (List.mem_append_left _ q)
  have h1 := o a4 fun t q => ht t (List.mem_append_right _ q)
  simp only [CO.run, h0, h1]
 | sls a0 a1 a2 =>
  have h0 := o a0 fun t q => ht t (List.mem_append_left _ (List.mem_append_left _ q))
  have h1 := oo a1 fun t q => ht t (List.mem_append_left _ (List.mem_append_right _ q))
  have h2 := oo a2 fun t q => ht t (List.mem_append_right _ q)
  simp only [CO.run, h0, h1, h2]
 | sll _x0 a1 a2 a3 a4 =>
  have h0 := o a1 fun t q => ht t (List.mem_append_left _ (List.mem_append_left _ (List.mem_append_left _ q)))
  have h1 := oo a2 fun t q => ht t (List.mem_append_left _ (List.mem_append_left _ (List.mem_append_right _ q)))
  have h2 := oo a3 fun t q => ht t (List.mem_append_left _ (List.mem_append_right _ q))
  have h3 := oo a4 fun t q => ht t (List.mem_append_right _ q)
  simp only [CO.run, h0, h1, h2, h3]
 | sla _x0 _x1 a2 a3 a4 a5 =>
  have h0 := o a2 fun t q => ht t (List.mem_append_left _ (List.mem_append_left _ (List.mem_append_left _ q)))
  have h1 := oo a3 fun t q => ht t (List.mem_append_left _ (List.mem_append_left _ (List.mem_append_right _ q)))
  have h2 := oo a4 fun t q => ht t (List.mem_append_left _ (List.mem_append_right _ q))
  have h3 := oo a5 fun t q => ht t (List.mem_append_right _ q)
  simp only [CO.run, h0, h1, h2, h3]
 | ifc _x0 a1 =>
  have h0 := o a1 fun t q => ht t q
  simp only [CO.run, h0]
 | mkf _x0 a1 a2 =>
  have h0 := ol a1 fun t q => ht t (List.mem_append_left _ q)
  have h1 := ol a2 fun t q => ht t (List.mem_append_right _ q)
  simp only [CO.run, h0, h1]
 | ext a0 _x1 =>
  have h0 := o a0 fun t q => ht t q
  simp only [CO.run, h0]
 | len _x0 a1 =>
  have h0 := o a1 fun t q => ht t q
  simp only [CO.run, h0]
 | lnc _x0 =>
  rfl
 | mm _x0 a1 a2 =>
  have h0 := o a1 fun t q => ht t (List.mem_append_left _ q)
  have h1 := o a2 fun t q => ht t (List.mem_append_right _ q)
  simp only [CO.run, h0, h1]
 | nck a0 =>
  have h0 := o a0 fun t q => ht t q
  simp only [CO.run, h0]
 | tas a0 _x1 _x2 _x3 =>
  have h0 := o a0 fun t q => ht t q
  simp only [CO.run, h0]
 | ld _x0 a1 =>
  have h0 := o a1 fun t q => ht t q
  simp only [CO.run, h0]
 | st _x0 a1 a2 =>
  have h0 := o a1 fun t q => ht t (List.mem_append_left _ q)
  have h1 := o a2 fun t q => ht t (List.mem_append_right _ q)
  simp only [CO.run, h0, h1]
 | new _x0 _x1 =>
  rfl
 | box _x0 _x1 a2 =>
  have h0 := o a2 fun t q => ht t q
  simp only [CO.run, h0]
 | bld _x0 a1 =>
  have h0 := of a1 fun t q => ht t q
  simp only [CO.run, h0]
 | bls _x0 _x1 _x2 a3 =>
  have h0 := of a3 fun t q => ht t q
  simp only [CO.run, h0]
 | mks _x0 _x1 _x2 a3 a4 =>
  have h0 := o a3 fun t q => ht t (List.mem_append_left _ q)
  have h1 := o a4 fun t q => ht t (List.mem_append_right _ q)
  simp only [CO.run, h0, h1]
 | app _x0 _x1 _x2 _x3 a4 a5 =>
  have h0 := o a4 fun t q => ht t (List.mem_append_left _ q)
  have h1 := o a5 fun t q => ht t (List.mem_append_right _ q)
  simp only [CO.run, h0, h1]
 | cpy _x0 _x1 a2 a3 =>
  have h0 := o a2 fun t q => ht t (List.mem_append_left _ q)
  have h1 := o a3 fun t q => ht t (List.mem_append_right _ q)
  simp only [CO.run, h0, h1]
 | capo a0 =>
  have h0 := o a0 fun t q => ht t q
  simp only [CO.run, h0]
 | apz _x0 _x1 _x2 a3 a4 =>
  have h0 := o a3 fun t q => ht t (List.mem_append_left _ q)
  have h1 := o a4 fun t q => ht t (List.mem_append_right _ q)
  simp only [CO.run, h0, h1]
 | stop =>
  rfl
 | b2s a0 =>
  have h0 := o a0 fun t q => ht t q
  simp only [CO.run, h0]
 | clr _x0 a1 =>
  have h0 := o a1 fun t q => ht t q
  simp only [CO.run, h0]
 | bix a0 a1 =>
  have h0 := o a0 fun t q => ht t (List.mem_append_left _ q)
  have h1 := o a1 fun t q => ht t (List.mem_append_right _ q)
  simp only [CO.run, h0, h1]
 | bcmp a0 a1 =>
  have h0 := o a0 fun t q => ht t (List.mem_append_left _ q)
  have h1 := o a1 fun t q => ht t (List.mem_append_right _ q)
  simp only [CO.run, h0, h1]
 | s2b a0 =>
  have h0 := o a0 fun t q => ht t q
  simp only [CO.run, h0]
 | rng a0 =>
  have h0 := o a0 fun t q => ht t q
  simp only [CO.run, h0]
 | nxt a0 =>
  have h0 := o a0 fun t q => ht t q
  simp only [CO.run, h0]
 | s2s a0 =>
  have h0 := o a0 fun t q => ht t q
  simp only [CO.run, h0]
 | call _ _ =>
  rfl
section
variable {P : Program}
theorem q6I {fr : List AV} {g : Option (Nat × Bool)} {b : Bool} (h : Xyg fr g = some b) : ZzY fr g = true ∧ YVO fr g = b := by
 cases g with
 | none => cases h; exact ⟨rfl, rfl⟩
 | some p =>
  obtain ⟨t, w⟩ := p
  simp only [Xyg, qiA, List.getD_eq_getElem?_getD] at h
  simp only [ZzY, YVO]
  cases hf : fr[t]? with
  | none =>
   rw [hf] at h
   cases h
   exact ⟨rfl, rfl⟩
  | some a =>
   rw [hf] at h
   cases a <;> cases h <;> exact ⟨rfl, rfl⟩
theorem quU {ops : Array Oper} {i : Nat} {o : Oper} {c : COper} (ho : ops[i]? = some o) (hc : XyB P ops o = some c) {fr : List AV} (h : List AB) (hg : Xyg fr c.guard = some false) : OpOk P ops i c.dst fr h (.tu []) h :=
 let ⟨hk, hw⟩ := q6I hg
 ZY3 ho hc hk hw
end
end Go.Proofs.YthhghdebjiiliaaDoor
end
section
namespace Go.Proofs.YthhghdebjiiliaaDoor
open Go.RowKit
theorem zKV {n : Nat} : ∀ {l : List Nat}, memN n l = true ↔ n ∈ l
 | [] => by simp [memN]
 | m :: l => by
  unfold memN
  by_cases h : m = n
  ·subst h
   simp
  ·have : Nat.beq m n = false := by
    cases hb : Nat.beq m n with
    | true => exact absurd (Nat.eq_of_beq_eq_true hb) h
    | false => rfl
   rw [this]
   simp only [Bool.false_eq_true, if_false, List.mem_cons, zKV]
   constructor
   ·exact .inr
   ·rintro (rfl | h')
    ·exact absurd rfl h
    ·exact h'
theorem JUS {p : Pt} {i : Nat} : X72 p i = true ↔ i ∈ p.ws ∨ (p.lo ≤ i ∧ i < p.hi) := by
 unfold X72
 simp only [Bool.or_eq_true, Bool.and_eq_true, zKV, Nat.ble_eq, Nat.blt_eq]
theorem YLl {p : Pt} {i : Nat} : X72 p i = false ↔ i ∉ p.ws ∧ ¬ (p.lo ≤ i ∧ i < p.hi) := by
 rw [← Bool.not_eq_true, JUS, not_or]
theorem ZDy (fr : List AV) (d : Option Nat) (v : AV) (t : Nat) : (put fr d v)[t]? = if d = some t then (fr[t]?).map (fun _ => v) else fr[t]? := by
 cases d with
 | none => simp [put]
 | some d =>
  simp only [put, List.getElem?_set, Option.some.injEq]
  by_cases h : d = t
  ·subst h
   simp only [if_true]
   by_cases hl : d < fr.length
   ·rw [if_pos hl, List.getElem?_eq_getElem hl]
    rfl
   ·rw [if_neg hl, List.getElem?_eq_none (by omega)]
    rfl
  ·rw [if_neg h, if_neg h]
theorem qVu (fr : List AV) {d e : Option Nat} (v u : AV) (h : ∀ t, d = some t → e ≠ some t) : put (put fr d v) e u = put (put fr e u) d v := by
 cases d with
 | none => rfl
 | some d =>
  cases e with
  | none => rfl
  | some e => exact List.set_comm _ _ (fun q => h d rfl (by rw [q]))
theorem zjj (fr : List AV) (t : Nat) : nthA fr t = (fr[t]?).getD (.tu []) := by
 rw [qiA, List.getD_eq_getElem?_getD]
theorem qza (rs ws : List Nat) : ∀ (h : List AB) (k i : Nat), (YWe rs ws k h)[i]? = (h[i]?).map fun B => if k + i ∈ ws then B else if k + i ∈ rs then B.freeze else .dead
 | [], k, i => by simp [YWe]
 | B :: h, k, 0 => by simp [YWe, zKV]
 | B :: h, k, i + 1 => by
  simp only [YWe, List.getElem?_cons_succ]
  rw [qza rs ws h (k + 1) i]
  have : k + 1 + i = k + (i + 1) := by omega
  rw [this]
theorem Xfl (rs ws : List Nat) : ∀ (h : List AB) (k : Nat), (YWe rs ws k h).length = h.length
 | [], _ => rfl
 | _ :: h, k => by simp [YWe, Xfl rs ws h]
theorem KfW {q : Nat → Bool} {B : AB} (h : B.ok q = true) : B.freeze.ok q = true := by
 cases B with
 | dead => rfl
 | iter s p => rfl
 | lp _ _ _ _ _ _ => rfl
 | blk fl m xs => cases fl <;> exact h
theorem J7a (B : AB) : B.freeze.mut = false := by cases B <;> rfl
def mkF (f : Nat → Bool) (fr : List AV) : List AV := fr.mapIdx fun t a => if f t then a else .top
theorem JS7 (f : Nat → Bool) (fr : List AV) (t : Nat) : (mkF f fr)[t]? = (fr[t]?).map fun a => if f t then a else .top := by
 simp [mkF, List.getElem?_mapIdx]
open Classical in
noncomputable def ownQ (len0 : Nat) (PT : Nat → Pt) (anc : Nat → Nat) (k : Nat) : Nat → Bool := fun id =>
 decide (id < len0 ∨ ∃ m, m ≤ k ∧ (m = k ∨ bit m (anc k) = true) ∧ (PT m).lo ≤ id ∧ id < (PT m).hi)
structure Can (P : Program) (ops : Array Oper) (n len0 : Nat) (DS : Nat → DOp) (FR : Nat → List AV) (H : Nat → List AB) (V : Nat → AV) (PT : Nat → Pt) : Prop where
 size : ops.size = n
 fput : ∀ k, k < n → FR (k + 1) = put (FR k) (DS k).o.dst (V k)
 len : ∀ k, k < n → (H k).length ≤ (H (k + 1)).length
 base : (H 0).length = len0
 rng : ∀ k, k < n → ((PT k).lo = 0 ∧ (PT k).hi = 0) ∨ ((PT k).lo = (H k).length ∧ (PT k).hi = (H (k + 1)).length)
 out : ∀ k, k < n → ∀ i, X72 (PT k) i = false → (H (k + 1))[i]? = (H k)[i]?
 foot : ∀ k, k < n → ∀ i, i ∈ (PT k).rs ++ (PT k).ws → i < (H k).length
 ind : ∀ j k, j < k → k < n → bit j (DS k).anc = true ∨ ((∀ i, i ∈ (PT k).rs ++ (PT k).ws → X72 (PT j) i = false) ∧ ∀ i, i ∈ (PT k).ws → i ∉ (PT j).rs ++ (PT j).ws)
 vok : ∀ k, k < n → (V k).ok (ownQ len0 PT (fun k => (DS k).anc) k) = true
 bok : ∀ k, k < n → ∀ i B, X72 (PT k) i = true → (H (k + 1))[i]? = some B → B.ok (ownQ len0 PT (fun k => (DS k).anc) k) = true
 tmp : ∀ j k, j < k → k < n → bit j (DS k).anc = true ∨ XEH (DS j) (DS k) = true
 lt : ∀ k, k < n → ∀ j, bit j (DS k).anc = true → j < k
 deps : ∀ k, k < n → ∀ o, ops[k]? = some o → ∀ d ∈ ZMj o, bit d (DS k).anc = true
 ancs : ∀ k, k < n → ∀ o, ops[k]? = some o → ∀ m, bit m (DS k).anc = true → ∃ d ∈ ZMj o, m = d ∨ bit m (DS d).anc = true
 run : ∀ k, k < n →
  ((PT k).ws = [] ∧ (PT k).hi = 0 ∧ ∀ frx hx, (∀ t, bit t (DS k).us = true → nthA frx t = nthA (FR k) t) → (∀ i ∈ (PT k).rs, hx[i]? = (H k)[i]?) → OpOk P ops k (DS k).o.dst frx hx (V k) hx) ∨
  ((PT k).lo = (H k).length ∧ (PT k).hi = (H (k + 1)).length ∧ (∀ t, bit t (DS k).us = true → (nthA (FR k) t).ok (fun i => decide (i < (H k).length)) = true) ∧
   (∀ i, i ∈ (PT k).rs ++ (PT k).ws → ∃ B, (H k)[i]? = some B ∧ B.ok (fun i => decide (i < (H k).length)) = true) ∧
   ∃ G, G.length = (H (k + 1)).length ∧ (∀ i, X72 (PT k) i = true → (H (k + 1))[i]? = G[i]?) ∧
    ∀ frx, (∀ t, bit t (DS k).us = true → nthA frx t = nthA (FR k) t) → OpOk P ops k (DS k).o.dst frx (YWe (PT k).rs (PT k).ws 0 (H k)) (V k) G)
def frD (DS : Nat → DOp) (FR : Nat → List AV) (V : Nat → AV) (D : Nat → Bool) : Nat → List AV
 | 0 => FR 0
 | k + 1 => if D k then put (frD DS FR V D k) (DS k).o.dst (V k) else frD DS FR V D k
def hD (H : Nat → List AB) (PT : Nat → Pt) (D : Nat → Bool) (i : Nat) : Nat → Option AB
 | 0 => (H 0)[i]?
 | k + 1 => if D k && X72 (PT k) i then (H (k + 1))[i]? else hD H PT D i k
def hL (H : Nat → List AB) (PT : Nat → Pt) (n : Nat) (D : Nat → Bool) : List AB := (List.range (H n).length).map fun i => (hD H PT D i n).getD .dead
theorem q8H (H : Nat → List AB) (PT : Nat → Pt) (n : Nat) (D : Nat → Bool) (i : Nat) : (hL H PT n D)[i]? = if i < (H n).length then some ((hD H PT D i n).getD .dead) else none := by
 unfold hL
 rw [List.getElem?_map]
 by_cases h : i < (H n).length
 ·rw [if_pos h, List.getElem?_range h]
  rfl
 ·rw [if_neg h, List.getElem?_eq_none (by simpa using h)]
  rfl
theorem XyY (H : Nat → List AB) (PT : Nat → Pt) (n : Nat) (D : Nat → Bool) : (hL H PT n D).length = (H n).length := by
 simp [hL]
def insD (D : Nat → Bool) (k : Nat) : Nat → Bool := fun j => D j || Nat.beq j k
theorem YaF (D : Nat → Bool) (k : Nat) : insD D k k = true := by simp [insD]
theorem YhY {D : Nat → Bool} {k j : Nat} (h : j ≠ k) : insD D k j = D j := by
 have : Nat.beq j k = false := by
  cases hb : Nat.beq j k with
  | true => exact absurd (Nat.eq_of_beq_eq_true hb) h
  | false => rfl
 simp [insD, this]
theorem XPt {D : Nat → Bool} {k j : Nat} (h : D j = true) : insD D k j = true := by simp [insD, h]
section
variable {P : Program} {ops : Array Oper} {n len0 : Nat} {DS : Nat → DOp} {FR : Nat → List AV} {H : Nat → List AB} {V : Nat → AV} {PT : Nat → Pt}
theorem Can.mono (C : Can P ops n len0 DS FR H V PT) {j : Nat} : ∀ {k : Nat}, j ≤ k → k ≤ n → (H j).length ≤ (H k).length
  | 0, h, _ => by obtain rfl : j = 0 := by omega
                  exact Nat.le_refl _
  | k + 1, h, hk => by
    by_cases e : j = k + 1
    · subst e; exact Nat.le_refl _
    · exact Nat.le_trans (C.mono (by omega) (by omega)) (C.len k (by omega))
theorem Can.disj (C : Can P ops n len0 DS FR H V PT) {j k id : Nat} (hj : j < n) (hk : k < n) (hne : j ≠ k) (h1 : (PT j).lo ≤ id) (h2 : id < (PT j).hi) (h3 : (PT k).lo ≤ id) (h4 : id < (PT k).hi) : False := by
 rcases C.rng j hj with ⟨a, b⟩ | ⟨a, b⟩
 ·omega
 rcases C.rng k hk with ⟨c, d⟩ | ⟨c, d⟩
 ·omega
 rcases Nat.lt_or_gt_of_ne hne with q | q
 ·have := C.mono (j := j + 1) (k := k) (by omega) (by omega); omega
 ·have := C.mono (j := k + 1) (k := j) (by omega) (by omega); omega
def Shut (n : Nat) (DS : Nat → DOp) (D : Nat → Bool) : Prop := ∀ j, j < n → D j = true → ∀ m, bit m (DS j).anc = true → D m = true
theorem Can.hfoot (C : Can P ops n len0 DS FR H V PT) {D : Nat → Bool} (hD' : Shut n DS D) {k : Nat} (hk : k < n) (hnk : D k = false) (ha : ∀ m, bit m (DS k).anc = true → D m = true) {i : Nat} (hi : i ∈ (PT k).rs ++ (PT k).ws) : hD H PT D i n = (H k)[i]? := by
  have hlt := C.foot k hk i hi
  have one : ∀ m, m ≤ k → hD H PT D i m = (H m)[i]? := by
    intro m
    induction m with
    | zero => exact fun _ => rfl
    | succ m ih =>
      intro hm
      simp only [hD]
      rcases C.ind m k (by omega) hk with q | ⟨q, _⟩
      · rw [ha m q, Bool.true_and]
        by_cases hp : X72 (PT m) i = true
        · rw [if_pos hp]
        · rw [if_neg hp, ih (by omega), C.out m (by omega) i (by simpa using hp)]
      · have hp := q i hi
        rw [hp, Bool.and_false, if_neg (by simp), ih (by omega), C.out m (by omega) i hp]
  have two : ∀ m, k ≤ m → m ≤ n → hD H PT D i m = (H k)[i]? := by
    intro m
    induction m with
    | zero => intro h1 _; obtain rfl : k = 0 := by omega
              exact one 0 (Nat.le_refl _)
    | succ m ih =>
      intro h1 h2
      by_cases e : k = m + 1
      · subst e; exact one _ (Nat.le_refl _)
      simp only [hD]
      by_cases hc : (D m && X72 (PT m) i) = true
      · exfalso
        simp only [Bool.and_eq_true] at hc
        have hkm : k < m := by
          rcases Nat.lt_or_ge k m with q | q
          · exact q
          · obtain rfl : k = m := by omega
            rw [hnk] at hc; exact absurd hc.1 (by simp)
        rcases C.ind k m hkm (by omega) with q | ⟨_, q⟩
        · have := hD' m (by omega) hc.1 k q
          rw [hnk] at this; cases this
        · rcases JUS.1 hc.2 with w | w
          · exact q i w hi
          · have := C.mono (j := k) (k := m) (by omega) (by omega)
            rcases C.rng m (by omega) with ⟨a, b⟩ | ⟨a, b⟩ <;> omega
      · rw [if_neg hc]
        exact ih (by omega) (by omega)
  exact two n (by omega) (Nat.le_refl _)
theorem Can.hout (D : Nat → Bool) {k : Nat} {i : Nat} (hp : X72 (PT k) i = false) : ∀ m, hD H PT (insD D k) i m = hD H PT D i m
 | 0 => rfl
 | m + 1 => by
  simp only [hD]
  rw [Can.hout D hp m]
  by_cases e : m = k
  ·subst e
   rw [hp]
   simp
  ·rw [YhY e]
theorem Can.hin (C : Can P ops n len0 DS FR H V PT) {D : Nat → Bool} (hD' : Shut n DS D) {k : Nat} (hk : k < n) (hnk : D k = false) {i : Nat} (hp : X72 (PT k) i = true) : hD H PT (insD D k) i n = (H (k + 1))[i]? := by
 have main : ∀ m, k < m → m ≤ n → hD H PT (insD D k) i m = (H (k + 1))[i]? := by
  intro m
  induction m with
  | zero => intro h; omega
  | succ m ih =>
   intro h1 h2
   simp only [hD]
   by_cases e : m = k
   ·subst e
    rw [YaF, hp]
    simp
   rw [YhY e]
   by_cases hc : (D m && X72 (PT m) i) = true
   ·exfalso
    simp only [Bool.and_eq_true] at hc
    have hkm : k < m := by omega
    rcases C.ind k m hkm (by omega) with q | ⟨q, _⟩
    ·have := hD' m (by omega) hc.1 k q
     rw [hnk] at this; cases this
    ·rcases JUS.1 hc.2 with w | w
     ·have := q i (List.mem_append_right _ w)
      rw [hp] at this; cases this
     ·have hm1 := C.mono (j := k + 1) (k := m) (by omega) (by omega)
      have hm2 := C.len k hk
      rcases C.rng m (by omega) with ⟨a, b⟩ | ⟨a, b⟩
      ·omega
      ·rcases JUS.1 hp with u | u
       ·have := C.foot k hk i (List.mem_append_right _ u); omega
       ·rcases C.rng k hk with ⟨c, d⟩ | ⟨c, d⟩ <;> omega
   ·rw [if_neg hc]
    exact ih (by omega) (by omega)
 exact main n hk (Nat.le_refl _)
theorem YmL {e d : DOp} (h : XEH e d = true) : (∀ t, e.o.dst = some t → bit t d.us = false ∧ d.o.dst ≠ some t) ∧ (∀ t, d.o.dst = some t → bit t e.us = false) := by
 unfold XEH at h
 simp only [Bool.and_eq_true] at h
 refine ⟨fun t ht => ?_, fun t ht => ?_⟩
 ·have h1 := h.1
  rw [ht] at h1
  simp only [Bool.and_eq_true, Bool.not_eq_true'] at h1
  refine ⟨h1.1, fun q => ?_⟩
  have h2 := h1.2
  rw [q] at h2
  simp at h2
 ·have h1 := h.2
  rw [ht] at h1
  simpa using h1
theorem Can.fins (C : Can P ops n len0 DS FR H V PT) {D : Nat → Bool} (hD' : Shut n DS D) {k : Nat} (hk : k < n) (hnk : D k = false) : frD DS FR V (insD D k) n = put (frD DS FR V D n) (DS k).o.dst (V k) := by
 have one : ∀ m, m ≤ k → frD DS FR V (insD D k) m = frD DS FR V D m := by
  intro m
  induction m with
  | zero => exact fun _ => rfl
  | succ m ih =>
   intro h
   simp only [frD]
   rw [YhY (by omega), ih (by omega)]
 have two : ∀ m, k < m → m ≤ n → frD DS FR V (insD D k) m = put (frD DS FR V D m) (DS k).o.dst (V k) := by
  intro m
  induction m with
  | zero => intro h; omega
  | succ m ih =>
   intro h1 h2
   simp only [frD]
   by_cases e : m = k
   ·subst e
    rw [YaF, hnk, one m (Nat.le_refl _)]
    simp
   rw [YhY e, ih (by omega) (by omega)]
   cases hm : D m with
   | false => simp
   | true =>
    simp only [if_true]
    rcases C.tmp k m (by omega) (by omega) with q | q
    ·have := hD' m (by omega) hm k q
     rw [hnk] at this; cases this
    ·exact qVu _ _ _ fun t ht => ((YmL q).1 t ht).2
 exact two n hk (Nat.le_refl _)
theorem Can.fus (C : Can P ops n len0 DS FR H V PT) {D : Nat → Bool} (hD' : Shut n DS D) {k : Nat} (hk : k < n) (hnk : D k = false) (ha : ∀ m, bit m (DS k).anc = true → D m = true) {t : Nat} (ht : bit t (DS k).us = true) : (frD DS FR V D n)[t]? = (FR k)[t]? := by
  have one : ∀ m, m ≤ k → (frD DS FR V D m)[t]? = (FR m)[t]? := by
    intro m
    induction m with
    | zero => exact fun _ => rfl
    | succ m ih =>
      intro hm
      simp only [frD]
      rw [C.fput m (by omega), ZDy]
      by_cases hd : D m = true
      · rw [if_pos hd, ZDy, ih (by omega)]
      · rw [if_neg hd, ih (by omega)]
        rcases C.tmp m k (by omega) hk with q | q
        · exact absurd (ha m q) hd
        · rw [if_neg fun e => ?_]
          have := ((YmL q).1 t e).1
          rw [ht] at this; cases this
  have two : ∀ m, k ≤ m → m ≤ n → (frD DS FR V D m)[t]? = (FR k)[t]? := by
    intro m
    induction m with
    | zero => intro h1 _; obtain rfl : k = 0 := by omega
              exact one 0 (Nat.le_refl _)
    | succ m ih =>
      intro h1 h2
      by_cases e : k = m + 1
      · subst e; exact one _ (Nat.le_refl _)
      simp only [frD]
      by_cases hd : D m = true
      · have hkm : k < m := by
          rcases Nat.lt_or_ge k m with q | q
          · exact q
          · obtain rfl : k = m := by omega
            rw [hnk] at hd; cases hd
        rw [if_pos hd, ZDy]
        rcases C.tmp k m hkm (by omega) with q | q
        · have := hD' m (by omega) hd k q
          rw [hnk] at this; cases this
        · rw [if_neg fun e => ?_, ih (by omega) (by omega)]
          have := (YmL q).2 t e
          rw [ht] at this; cases this
      · rw [if_neg hd]
        exact ih (by omega) (by omega)
  exact two n (by omega) (Nat.le_refl _)
def XJm (p : Pt) (id : Nat) : Bool := !(Nat.ble p.lo id && Nat.blt id p.hi)
theorem JaF {p : Pt} {id : Nat} : XJm p id = true ↔ ¬ (p.lo ≤ id ∧ id < p.hi) := by
 unfold XJm
 rw [Bool.not_eq_true', ← Bool.not_eq_true]
 simp only [Bool.and_eq_true, Nat.ble_eq, Nat.blt_eq]
theorem Can.own (C : Can P ops n len0 DS FR H V PT) {D : Nat → Bool} (hD' : Shut n DS D) {k : Nat} (hk : k < n) (hnk : D k = false) {m : Nat} (hm : m < n) (hdm : D m = true) (id : Nat) (h : ownQ len0 PT (fun k => (DS k).anc) m id = true) : XJm (PT k) id = true := by
 rw [JaF]
 rintro ⟨h1, h2⟩
 simp only [ownQ, decide_eq_true_eq] at h
 rcases h with h | ⟨m', h3, h4, h5, h6⟩
 ·have := C.mono (j := 0) (k := k) (by omega) (by omega)
  rw [C.base] at this
  rcases C.rng k hk with ⟨a, b⟩ | ⟨a, b⟩ <;> omega
 ·refine C.disj (j := m') (k := k) (by omega) hk (fun e => ?_) h5 h6 h1 h2
  subst e
  rcases h4 with rfl | h4
  ·rw [hnk] at hdm; cases hdm
  ·have := hD' m hm hdm _ h4
   rw [hnk] at this; cases this
theorem Can.old (C : Can P ops n len0 DS FR H V PT) {k : Nat} (hk : k < n) (id : Nat) (h : decide (id < len0) = true) : XJm (PT k) id = true := by
 rw [JaF]
 rintro ⟨h1, h2⟩
 have := C.mono (j := 0) (k := k) (by omega) (by omega)
 rw [C.base] at this
 simp at h
 rcases C.rng k hk with ⟨a, b⟩ | ⟨a, b⟩ <;> omega
theorem Can.hok (C : Can P ops n len0 DS FR H V PT) {D : Nat → Bool} (hD' : Shut n DS D) {k : Nat} (hk : k < n) (hnk : D k = false) (h0 : ∀ (i : Nat) (B : AB), (H 0)[i]? = some B → B.ok (fun i => decide (i < len0)) = true) : ∀ m, m ≤ n → ∀ (i : Nat) (B : AB), hD H PT D i m = some B → B.ok (XJm (PT k)) = true
 | 0, _, i, B, e => AB.ok_mono (C.old hk) B (h0 i B e)
 | m + 1, hm, i, B, e => by
  simp only [hD] at e
  split at e
  ·rename_i hc
   simp only [Bool.and_eq_true] at hc
   exact AB.ok_mono (C.own hD' hk hnk (by omega) hc.1) B (C.bok m (by omega) i B hc.2 e)
  ·exact C.hok hD' hk hnk h0 m (by omega) i B e
theorem Can.fok (C : Can P ops n len0 DS FR H V PT) {D : Nat → Bool} (hD' : Shut n DS D) {k : Nat} (hk : k < n) (hnk : D k = false) (f0 : ∀ (t : Nat) (a : AV), (FR 0)[t]? = some a → a.ok (fun i => decide (i < len0)) = true) : ∀ m, m ≤ n → ∀ (t : Nat) (a : AV), (frD DS FR V D m)[t]? = some a → a.ok (XJm (PT k)) = true
 | 0, _, t, a, e => AV.ok_mono (C.old hk) a (f0 t a e)
 | m + 1, hm, t, a, e => by
  simp only [frD] at e
  split at e
  ·rename_i hc
   rw [ZDy] at e
   split at e
   ·obtain ⟨_, _, rfl⟩ := Option.map_eq_some_iff.1 e
    exact AV.ok_mono (C.own hD' hk hnk (by omega) hc) _ (C.vok m (by omega))
   ·exact C.fok hD' hk hnk f0 m (by omega) t a e
  ·exact C.fok hD' hk hnk f0 m (by omega) t a e
theorem Can.all (C : Can P ops n len0 DS FR H V PT) {D : Nat → Bool} (hall : ∀ j, j < n → D j = true) : frD DS FR V D n = FR n ∧ hL H PT n D = H n := by
 have one : ∀ m, m ≤ n → frD DS FR V D m = FR m := by
  intro m
  induction m with
  | zero => exact fun _ => rfl
  | succ m ih =>
   intro h
   simp only [frD]
   rw [hall m (by omega), ih (by omega), C.fput m (by omega)]
   rfl
 have two : ∀ i m, m ≤ n → hD H PT D i m = (H m)[i]? := by
  intro i m
  induction m with
  | zero => exact fun _ => rfl
  | succ m ih =>
   intro h
   simp only [hD]
   rw [hall m (by omega), Bool.true_and]
   by_cases hp : X72 (PT m) i = true
   ·rw [if_pos hp]
   ·rw [if_neg hp, ih (by omega), C.out m (by omega) i (by simpa using hp)]
 refine ⟨one n (Nat.le_refl _), List.ext_getElem? fun i => ?_⟩
 rw [q8H]
 split
 ·rename_i hi
  rw [two i n (Nat.le_refl _), List.getElem?_eq_getElem hi]
  rfl
 ·rename_i hi
  rw [List.getElem?_eq_none (by omega)]
theorem Can.step (C : Can P ops n len0 DS FR H V PT) {D : Nat → Bool} (hD' : Shut n DS D) {k : Nat} (hk : k < n) (hnk : D k = false) (ha : ∀ m, bit m (DS k).anc = true → D m = true)
  (f0 : ∀ (t : Nat) (a : AV), (FR 0)[t]? = some a → a.ok (fun i => decide (i < len0)) = true) (h0 : ∀ (i : Nat) (B : AB), (H 0)[i]? = some B → B.ok (fun i => decide (i < len0)) = true)
  {p : Nat} (hp : p ≤ len0) {ρ : Mp} {w : World} {tmps : Array Value} (is : List Nat) (its : List Item) {b : Frame} (cs : List Frame) (ds : List Deferred) (hbk : b.kind = .normal)
  (hv : VL ρ (frD DS FR V D n) tmps) (hr : Rel (KC P) ρ (hL H PT n D) w) :
  ∃ tmps' w' ρ', Steps P (lone (b.atR { tmps, defers := ds } (.inRegion ops (k :: is) :: its)) cs w) (lone (b.atR { tmps := tmps', defers := ds } (.inRegion ops is :: its)) cs w') ∧
   VL ρ' (frD DS FR V (insD D k) n) tmps' ∧ Rel (KC P) ρ' (hL H PT n (insD D k)) w' ∧ EffP p ρ (hL H PT n D) w ρ' (hL H PT n (insD D k)) w' := by
 have hlk := C.mono (j := k) (k := n) (by omega) (Nat.le_refl _)
 have hl0 := C.mono (j := 0) (k := k) (by omega) (by omega)
 rw [C.base] at hl0
 have hus : ∀ t, bit t (DS k).us = true → nthA (frD DS FR V D n) t = nthA (FR k) t := fun t ht => by
  rw [zjj, zjj, C.fus hD' hk hnk ha ht]
 have hft : ∀ i, i ∈ (PT k).rs ++ (PT k).ws → (hL H PT n D)[i]? = (H k)[i]? := fun i hi => by
  have hlt := C.foot k hk i hi
  rw [q8H, if_pos (by omega), C.hfoot hD' hk hnk ha hi, List.getElem?_eq_getElem hlt]
  rfl
 rw [C.fins hD' hk hnk]
 rcases C.run k hk with ⟨hw, hh, hrun⟩ | ⟨hlo, hhi, hu, hbl, G, hG, hGi, hrun⟩
 ·have hno : ∀ i, X72 (PT k) i = false := fun i => YLl.2 ⟨by rw [hw]; simp, by omega⟩
  have hsame : hL H PT n (insD D k) = hL H PT n D := by
   unfold hL
   congr 1
   funext i
   rw [Can.hout D (hno i) n]
  rw [hsame]
  obtain ⟨v', w', ρ', hst, hvr, hrel, heff⟩ := hrun _ (hL H PT n D) hus (fun i hi => hft i (List.mem_append_left _ hi)) ρ w tmps is its b cs ds hbk hv hr
  have hput := JQy (a := { tmps, defers := ds }) (hv.ext (heff.ext hr)) (DS k).o.dst hvr
  refine ⟨_, w', ρ', ?_, hput.1, hrel, heff.weak ?_⟩
  ·have := hst
   rw [← Qoi] at this
   exact this
  ·rw [XyY]; omega
 ·have hM : (YWe (PT k).rs (PT k).ws 0 (H k)).length = (H k).length := Xfl _ _ _ _
  have hmg : ∀ i B', (YWe (PT k).rs (PT k).ws 0 (H k))[i]? = some B' → (i ∈ (PT k).rs ++ (PT k).ws ∧ ∃ B, (H k)[i]? = some B ∧ B' = (if i ∈ (PT k).ws then B else B.freeze)) ∨ (i ∉ (PT k).ws ∧ B' = .dead) := fun i B' e => by
   rw [qza] at e
   obtain ⟨B, hB, rfl⟩ := Option.map_eq_some_iff.1 e
   rw [Nat.zero_add]
   by_cases h1 : i ∈ (PT k).ws
   ·exact .inl ⟨List.mem_append_right _ h1, B, hB, by rw [if_pos h1, if_pos h1]⟩
   ·by_cases h2 : i ∈ (PT k).rs
    ·exact .inl ⟨List.mem_append_left _ h2, B, hB, by rw [if_neg h1, if_neg h1, if_pos h2]⟩
    ·exact .inr ⟨h1, by rw [if_neg h1, if_neg h2]⟩
  have hle : ∀ (i : Nat) B' B, (YWe (PT k).rs (PT k).ws 0 (H k))[i]? = some B' → (hL H PT n D)[i]? = some B → B'.le B := fun i B' B e1 e2 => by
   rcases hmg i B' e1 with ⟨hi, C', hC, rfl⟩ | ⟨_, rfl⟩
   ·rw [hft i hi, hC] at e2
    cases e2
    split
    ·exact .inr (.inr rfl)
    ·exact .inr (.inl rfl)
   ·exact .inl rfl
  have hpart := hr.part hM (by rw [XyY]; exact hlk) hle (fun i B e => by
   rcases hmg i B e with ⟨hi, C', hC, rfl⟩ | ⟨_, rfl⟩
   ·obtain ⟨C'', hC2, hok⟩ := hbl i hi
    rw [hC] at hC2
    cases hC2
    split
    ·exact hok
    ·exact KfW hok
   ·rfl)
  have hvx : VL (ρ.take (H k).length) (mkF (fun t => bit t (DS k).us) (frD DS FR V D n)) tmps := by
   refine ⟨by rw [mkF, List.length_mapIdx]; exact hv.1, fun t a c h1 h2 => ?_⟩
   rw [JS7] at h1
   obtain ⟨a', ha', rfl⟩ := Option.map_eq_some_iff.1 h1
   by_cases hb : bit t (DS k).us = true
   ·rw [if_pos hb]
    have hok := hu t hb
    rw [← hus t hb, zjj, ha'] at hok
    refine (hv.2 t a' c ha' h2).agree (q := fun i => decide (i < (H k).length)) (fun i hi => ?_) hok
    rw [List.getElem?_take, if_pos (by simpa using hi)]
   ·rw [if_neg hb]
    exact .top c
  obtain ⟨v', w', ρ1, hst, hvr, hrel, heff⟩ := hrun (mkF (fun t => bit t (DS k).us) (frD DS FR V D n)) (fun t ht => by
   rw [← hus t ht, zjj, zjj, JS7]
   cases (frD DS FR V D n)[t]? with
   | none => rfl
   | some a => simp [ht]) (ρ.take (H k).length) w tmps is its b cs ds hbk hvx hpart
  rw [hM] at heff
  have hlen' := C.len k hk
  have hlk1 := C.mono (j := k + 1) (k := n) (by omega) (Nat.le_refl _)
  have hwh := Rel.whole (p := p) (H' := hL H PT n (insD D k)) (T := X72 (PT k)) (q := XJm (PT k)) hr hM hG (by omega) (by rw [XyY]; omega) (by rw [XyY, XyY]) (by omega) hle
   (fun i hi => by
    rcases JUS.1 hi with q | q
    ·have := C.foot k hk i (List.mem_append_right _ q); omega
    ·omega)
   (fun i hi => by have := (YLl.1 hi).2; rw [hlo, hhi] at this; exact this)
   (fun i B hi e => by
    have hni := (YLl.1 hi).1
    rcases hmg i B e with ⟨_, C', _, rfl⟩ | ⟨_, rfl⟩
    ·rw [if_neg hni]; exact J7a _
    ·rfl)
   (fun i hi => by
    have hlt : i < (H (k + 1)).length := by
     rcases JUS.1 hi with q | q
     ·have := C.foot k hk i (List.mem_append_right _ q); omega
     ·omega
    rw [← hGi i hi, q8H, if_pos (by omega), C.hin hD' hk hnk hi, List.getElem?_eq_getElem hlt]
    rfl)
   (fun i hi => by rw [q8H, q8H, Can.hout D hi n])
   (fun i hi => by have := JaF.1 hi; rw [hlo, hhi] at this; exact this)
   (fun i B e => by
    rw [q8H] at e
    split at e
    ·cases e
     cases hq : hD H PT D i n with
     | none => rfl
     | some B => exact C.hok hD' hk hnk h0 n (Nat.le_refl _) i B hq
    ·cases e)
   hrel heff
  obtain ⟨w1, w2, w3, w4⟩ := hwh
  have hvs : VL (JJg ρ ρ1 (H k).length (H (k + 1)).length) (frD DS FR V D n) tmps := hv.agree w3 (fun t a e => .inr (C.fok hD' hk hnk f0 n (Nat.le_refl _) t a e))
  have hput := JQy (a := { tmps, defers := ds }) hvs (DS k).o.dst (hvr.ext w4)
  refine ⟨_, w', _, ?_, hput.1, w1, w2⟩
  have := hst
  rw [← Qoi] at this
  exact this
end
end Go.Proofs.YthhghdebjiiliaaDoor
end
