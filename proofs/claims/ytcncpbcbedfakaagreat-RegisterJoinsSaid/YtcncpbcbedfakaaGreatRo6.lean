/- Part 6 of what the laws' proofs rest on. No condition. -/
import Derived.Test.YtcncpbcbedfakaaGreatRo5
set_option linter.all false
section
namespace Go.Proofs.YtcncpbcbedfakaaGreat
open Go.RowKit
noncomputable def nthA (l : List AV) : Nat → AV := List.rec (motive := fun _ => Nat → AV) (fun _ => .tu []) (fun a _ ih n => Nat.rec (motive := fun _ => AV) a (fun m _ => ih m) n) l
noncomputable def nthO (l : List AV) : Nat → Option AV := List.rec (motive := fun _ => Nat → Option AV) (fun _ => none) (fun a _ ih n => Nat.rec (motive := fun _ => Option AV) (some a) (fun m _ => ih m) n) l
noncomputable def setA (l : List AV) : Nat → AV → List AV := List.rec (motive := fun _ => Nat → AV → List AV) (fun _ _ => []) (fun a t ih n v => Nat.rec (motive := fun _ => List AV) (v :: t) (fun m _ => a :: ih m v) n) l
noncomputable def getB (l : List AB) : Nat → Option AB := List.rec (motive := fun _ => Nat → Option AB) (fun _ => none) (fun a _ ih n => Nat.rec (motive := fun _ => Option AB) (some a) (fun m _ => ih m) n) l
noncomputable def setB (l : List AB) : Nat → AB → List AB := List.rec (motive := fun _ => Nat → AB → List AB) (fun _ _ => []) (fun a t ih n v => Nat.rec (motive := fun _ => List AB) (v :: t) (fun m _ => a :: ih m v) n) l
theorem zrd : ∀ (l : List AV) (n : Nat), nthA l n = l.getD n (.tu [])
 | [], _ => by simp [nthA]
 | _ :: _, 0 => rfl
 | _ :: l, n + 1 => by
  have := zrd l n
  simpa [nthA] using this
theorem Kp9 : ∀ (l : List AB) (n : Nat), getB l n = l[n]?
 | [], _ => by simp [getB]
 | _ :: _, 0 => rfl
 | _ :: l, n + 1 => by
  have := Kp9 l n
  simpa [getB] using this
noncomputable def Opd.evF (fr : List AV) : Opd → AV
 | .t n => nthA fr n
 | .c v => v
noncomputable def Qf5 (h : List AB) (id : Nat) : Option (List AV) :=
 match getB h id with
 | some (.blk _ _ xs) => some xs
 | _ => none
noncomputable def ldVF (h : List AB) : Option Nat → AV → Option AV
 | none, .p id off => (Qf5 h id).bind fun xs => nthO xs off
 | some n, .p id off => (Qf5 h id).bind fun xs => if off + n ≤ xs.length then some (.ag ((xs.drop off).take n)) else none
 | _, _ => none
noncomputable def stBF (h : List AB) (id off : Nat) (l : List AV) : Option (List AB) :=
 match getB h id with
 | some (.blk fl true xs) => if off + l.length ≤ xs.length ∧ l.all (wrOk fl) = true then some (setB h id (.blk fl true (over xs off l))) else none
 | _ => none
noncomputable def stVF (h : List AB) : Option Nat → AV → AV → Option (List AB)
 | none, .p id off, v => if v.one then stBF h id off [v] else none
 | some n, .p id off, .ag l => if l.length = n then stBF h id off l else none
 | _, _, _ => none
noncomputable def qHj (h : List AB) (sz : Nat) : AV → Option (Nat × List AV)
 | .ns => some (0, [])
 | .se => some (0, [])
 | .s l => if sz = 1 then some (l.length, l.map fun b => .i .u8 b.toNat) else none
 | .sl id off len _ _ => if len = 0 then some (0, []) else (Qf5 h id).bind fun xs => if off + len * sz ≤ xs.length then some (len, (xs.drop off).take (len * sz)) else none
 | _ => none
noncomputable def YPn (h : List AB) (fl : Bool) (sz by_ : Nat) (s x : AV) : Option (AV × List AB) :=
 (qHj h sz x).bind fun (m, ys) =>
  if ys.all (wrOk fl) = true then
   match s with
   | .ns => if m = 0 then some (.ns, h) else if m * by_ ≤ 140737488355328 ∧ m ≤ maxLen then some (.sl h.length 0 m m (some sz), h ++ [.blk fl true ys]) else none
   | .sl id off len cap k =>
    if m = 0 then some (.sl id off len cap k, h)
    else if len + m ≤ cap then (stBF h id (off + len * sz) ys).map fun h' => (.sl id off (len + m) cap k, h')
    else match getB h id with
     | some (.blk fl' mu xs) =>
      if fl' = fl ∧ off + len * sz ≤ xs.length ∧ (len + m) * by_ ≤ 140737488355328 ∧ len + m ≤ maxLen then
       if k = none then some (.sl h.length 0 (len + m) (len + m) (some sz), h ++ [.blk fl true ((xs.drop off).take (len * sz) ++ ys)])
       else if k = some sz ∧ sz ≠ 0 ∧ mu = true ∧ off + len * sz = xs.length then some (.sl h.length 0 (len + m) (len + m) (some sz), (setB h id .dead) ++ [.blk fl true (xs.drop off ++ ys)])
       else none
      else none
     | _ => none
   | _ => none
  else none
noncomputable def Yhn (h : List AB) (sz : Nat) (d s : AV) : Option (AV × List AB) :=
 (qHj h sz s).bind fun (m, ys) =>
  match d with
  | .sl id off len _ _ => if m ≤ len then (stBF h id off ys).map fun h' => (.i .i64 m, h') else none
  | _ => none
noncomputable def r_mv (ev : Opd → AV) (h : List AB) (x : Opd) : Option (AV × List AB) :=
 some (ev x, h)
noncomputable def XbB (ev : Opd → AV) (h : List AB) (c a b : Opd) : Option (AV × List AB) :=
 match ev c with
  | .b t => some (if t then ev a else ev b, h)
  | _ => none
noncomputable def zBq (ev : Opd → AV) (h : List AB) (op : BinOp) (x y : Opd) : Option (AV × List AB) :=
 (binV op (ev x) (ev y)).map (·, h)
noncomputable def ZTk (ev : Opd → AV) (h : List AB) (neg : Bool) (x y : Opd) : Option (AV × List AB) :=
 match ev x, ev y with
  | .b p, .b q => some (.b ((p == q) ^^ neg), h)
  | _, _ => none
noncomputable def qD5 (ev : Opd → AV) (h : List AB) (ks : List CK) (neg : Bool) (x y : Opd) : Option (AV × List AB) :=
 match ev x, ev y with
  | .ag l, .ag l' => (qN9 ks l l').map fun r => (.b (r ^^ neg), h)
  | _, _ => none
noncomputable def Qz3 (ev : Opd → AV) (h : List AB) (neg : Bool) (x y : Opd) : Option (AV × List AB) :=
 (q70 (ev x) (ev y)).map fun r => (.b (r ^^ neg), h)
noncomputable def r_un (ev : Opd → AV) (h : List AB) (op : UnOp) (x : Opd) : Option (AV × List AB) :=
 (unV op (ev x)).map (·, h)
noncomputable def Jys (ev : Opd → AV) (h : List AB) (k : IntKind) (x : Opd) : Option (AV × List AB) :=
 (ev x).int?.map fun n => (.i k (k.wrap n), h)
noncomputable def X3D (ev : Opd → AV) (h : List AB) (x : Opd) : Option (AV × List AB) :=
 match ev x with
  | .s l => some (.s l, h)
  | _ => none
noncomputable def KfV (ev : Opd → AV) (h : List AB) (off : Nat) (x : Opd) : Option (AV × List AB) :=
 match ev x with
  | .p id o => some (.p id (o + off), h)
  | _ => none
noncomputable def ZBe (ev : Opd → AV) (h : List AB) (off : Nat) (sz : Option Nat) (x : Opd) : Option (AV × List AB) :=
 match ev x with
  | .ag l => match sz with
   | none => (l[off]?).map (·, h)
   | some n => some (.ag ((l.drop off).take n), h)
  | _ => none
noncomputable def Y78 (ev : Opd → AV) (h : List AB) (sz : Nat) (x i : Opd) : Option (AV × List AB) :=
 match ev x, ev i with
  | .sl id off k _ _, .i _ n => if 0 ≤ n ∧ n < k then some (.p id (off + n.toNat * sz), h) else none
  | _, _ => none
noncomputable def YZA (ev : Opd → AV) (h : List AB) (k sz : Nat) (x i : Opd) : Option (AV × List AB) :=
 match ev x, ev i with
  | .p id off, .i _ n => if 0 ≤ n ∧ n < k then some (.p id (off + n.toNat * sz), h) else none
  | _, _ => none
noncomputable def ZQ1 (ev : Opd → AV) (h : List AB) (x i : Opd) : Option (AV × List AB) :=
 match ev x, ev i with
  | .s l, .i _ n => if 0 ≤ n then (l[n.toNat]?).map fun b => (.i .u8 b.toNat, h) else none
  | _, _ => none
noncomputable def KiH (ev : Opd → AV) (h : List AB) (k sz : Nat) (agg : Bool) (x i : Opd) : Option (AV × List AB) :=
 match ev x, ev i with
  | .ag l, .i _ n => if 0 ≤ n ∧ n < k then (if agg then some (.ag ((l.drop (n.toNat * sz)).take sz), h) else (l[n.toNat * sz]?).map (·, h)) else none
  | _, _ => none
noncomputable def qDh (ev : Opd → AV) (h : List AB) (x : Opd) (lo hi : Option Opd) : Option (AV × List AB) :=
 match ev x with
  | .s l => (slS l (lo.map ev) (hi.map ev)).map (·, h)
  | _ => none
noncomputable def Ykx (ev : Opd → AV) (h : List AB) (sz : Nat) (x : Opd) (lo hi mx : Option Opd) : Option (AV × List AB) :=
 (slL sz (ev x) (lo.map ev) (hi.map ev) (mx.map ev)).map (·, h)
noncomputable def Xe2 (ev : Opd → AV) (h : List AB) (n sz : Nat) (x : Opd) (lo hi mx : Option Opd) : Option (AV × List AB) :=
 (slA n sz (ev x) (lo.map ev) (hi.map ev) (mx.map ev)).map (·, h)
noncomputable def JgC (ev : Opd → AV) (h : List AB) (t : TypeId) (x : Opd) : Option (AV × List AB) :=
 some (.ifc t (ev x), h)
noncomputable def Yyz (ev : Opd → AV) (h : List AB) (fn : Fn) (fst cap : List Opd) : Option (AV × List AB) :=
 some (.f fn (fst.map ev) (cap.map ev), h)
noncomputable def qG9 (ev : Opd → AV) (h : List AB) (x : Opd) (i : Nat) : Option (AV × List AB) :=
 match ev x with
  | .tu l => (l[i]?).map (·, h)
  | _ => none
noncomputable def ZJe (ev : Opd → AV) (h : List AB) (str : Bool) (x : Opd) : Option (AV × List AB) :=
 if (ev x).isStr = str then (lenV (ev x)).map fun n => (.i .i64 n, h) else none
noncomputable def QeO (_ev : Opd → AV) (h : List AB) (n : Nat) : Option (AV × List AB) :=
 some (.i .i64 n, h)
noncomputable def r_mm (ev : Opd → AV) (h : List AB) (mx : Bool) (x y : Opd) : Option (AV × List AB) :=
 (mmV mx (ev x) (ev y)).map (·, h)
noncomputable def KpQ (ev : Opd → AV) (h : List AB) (x : Opd) : Option (AV × List AB) :=
 match ev x with
  | .p id off => some (.p id off, h)
  | .f (.func f) fst cap => some (.f (.func f) fst cap, h)
  | .f (.yield l) fst cap => some (.f (.yield l) fst cap, h)
  | .ifc t v => some (.ifc t v, h)
  | _ => none
noncomputable def KrV (ev : Opd → AV) (h : List AB) (x : Opd) (t : TypeId) (ok : Bool) (z : AV) : Option (AV × List AB) :=
 match ev x with
  | .ifc t' v => if t' = t then some (if ok then .tu [v, .b true] else v, h) else if ok then some (.tu [z, .b false], h) else none
  | .ni => if ok then some (.tu [z, .b false], h) else none
  | _ => none
noncomputable def r_ld (ev : Opd → AV) (h : List AB) (n : Option Nat) (x : Opd) : Option (AV × List AB) :=
 (ldVF h n (ev x)).map (·, h)
noncomputable def r_st (ev : Opd → AV) (h : List AB) (n : Option Nat) (x v : Opd) : Option (AV × List AB) :=
 (stVF h n (ev x) (ev v)).map (.tu [], ·)
noncomputable def J4e (_ev : Opd → AV) (h : List AB) (fl : Bool) (zs : List AV) : Option (AV × List AB) :=
 newB h fl zs (fun n => .p n 0)
noncomputable def q3j (ev : Opd → AV) (h : List AB) (fl : Bool) (n : Nat) (x : Opd) : Option (AV × List AB) :=
 if (ev x).cells.length = n then newB h fl (ev x).cells (fun n => .p n 0) else none
noncomputable def JCH (ev : Opd → AV) (h : List AB) (zs : List AV) (ps : List (Nat × Nat × Opd)) : Option (AV × List AB) :=
 (zjH ev zs ps).map fun cs => (.ag cs, h)
noncomputable def XO3 (ev : Opd → AV) (h : List AB) (fl : Bool) (k : Nat) (zs : List AV) (ps : List (Nat × Nat × Opd)) : Option (AV × List AB) :=
 (zjH ev zs ps).bind fun cs => newB h fl cs (fun n => .sl n 0 k k none)
noncomputable def J8N (ev : Opd → AV) (h : List AB) (fl : Bool) (z : List AV) (by_ : Nat) (le ca : Opd) : Option (AV × List AB) :=
 match ev le, ev ca with
  | .i _ l, .i _ c => if 0 ≤ l ∧ l ≤ c ∧ (by_ : Int) * c ≤ 2 ^ 47 ∧ c ≤ maxLen then newB h fl ((List.replicate c.toNat z).flatten) (fun n => .sl n 0 l.toNat c.toNat none) else none
  | _, _ => none
noncomputable def Xb4 (ev : Opd → AV) (h : List AB) (str fl : Bool) (sz by_ : Nat) (s x : Opd) : Option (AV × List AB) :=
 if (ev x).isStr = str then YPn h fl sz by_ (ev s) (ev x) else none
noncomputable def KmB (ev : Opd → AV) (h : List AB) (str : Bool) (sz : Nat) (d s : Opd) : Option (AV × List AB) :=
 if (ev s).isStr = str then Yhn h sz (ev d) (ev s) else none
noncomputable def zVj (ev : Opd → AV) (h : List AB) (x : Opd) : Option (AV × List AB) :=
 match ev x with
  | .ns => some (.i .i64 0, h)
  | .sl _ _ _ c none => some (.i .i64 c, h)
  | _ => none
noncomputable def Jq2 (ev : Opd → AV) (h : List AB) (fl : Bool) (z : List AV) (by_ : Nat) (s n : Opd) : Option (AV × List AB) :=
 match ev s, ev n with
  | .ns, .i _ m => if m = 0 then some (.ns, h) else if 0 < m ∧ m.toNat * by_ ≤ 140737488355328 ∧ m.toNat ≤ maxLen then newB h fl ((List.replicate m.toNat z).flatten) (fun k => .sl k 0 m.toNat m.toNat (some z.length)) else none
  | _, _ => none
noncomputable def zEk (_ev : Opd → AV) (_h : List AB)  : Option (AV × List AB) :=
 none
noncomputable def QTe (ev : Opd → AV) (h : List AB) (x : Opd) : Option (AV × List AB) :=
 if (ev x).isStr then none else (qHj h 1 (ev x)).bind fun (_, cs) => (bytesOf cs).map fun l => (.s l, h)
noncomputable def QW3 (ev : Opd → AV) (h : List AB) (z : List AV) (x : Opd) : Option (AV × List AB) :=
 match ev x with
  | .ns => some (.tu [], h)
  | .se => some (.tu [], h)
  | .sl id off n _ _ => if n = 0 then some (.tu [], h) else (stBF h id off ((List.replicate n z).flatten)).map (.tu [], ·)
  | _ => none
noncomputable def Yn3 (ev : Opd → AV) (h : List AB) (x y : Opd) : Option (AV × List AB) :=
 (qHj h 1 (ev x)).bind fun (_, xs) => (qHj h 1 (ev y)).bind fun (_, ys) => (bytesOf xs).bind fun l => (bytesOf ys).map fun m => (.i .i64 (Extern.BytealgCompare.cmp ⟨l.toArray⟩ ⟨m.toArray⟩), h)
noncomputable def QeB (_ev : Opd → AV) (_h : List AB) (_x0 : Opd) (_x1 : List Opd) : Option (AV × List AB) :=
 none
noncomputable def CO.runF (ev : Opd → AV) (h : List AB) : CO → Option (AV × List AB)
 | .mv a0 => r_mv ev h a0
 | .pick a0 a1 a2 => XbB ev h a0 a1 a2
 | .bin a0 a1 a2 => zBq ev h a0 a1 a2
 | .eqb a0 a1 a2 => ZTk ev h a0 a1 a2
 | .eqc a0 a1 a2 a3 => qD5 ev h a0 a1 a2 a3
 | .eqn a0 a1 a2 => Qz3 ev h a0 a1 a2
 | .un a0 a1 => r_un ev h a0 a1
 | .cvi a0 a1 => Jys ev h a0 a1
 | .cvs a0 => X3D ev h a0
 | .fad a0 a1 => KfV ev h a0 a1
 | .fld a0 a1 a2 => ZBe ev h a0 a1 a2
 | .iad a0 a1 a2 => Y78 ev h a0 a1 a2
 | .iaa a0 a1 a2 a3 => YZA ev h a0 a1 a2 a3
 | .ixs a0 a1 => ZQ1 ev h a0 a1
 | .ixa a0 a1 a2 a3 a4 => KiH ev h a0 a1 a2 a3 a4
 | .sls a0 a1 a2 => qDh ev h a0 a1 a2
 | .sll a0 a1 a2 a3 a4 => Ykx ev h a0 a1 a2 a3 a4
 | .sla a0 a1 a2 a3 a4 a5 => Xe2 ev h a0 a1 a2 a3 a4 a5
 | .ifc a0 a1 => JgC ev h a0 a1
 | .mkf a0 a1 a2 => Yyz ev h a0 a1 a2
 | .ext a0 a1 => qG9 ev h a0 a1
 | .len a0 a1 => ZJe ev h a0 a1
 | .lnc a0 => QeO ev h a0
 | .mm a0 a1 a2 => r_mm ev h a0 a1 a2
 | .nck a0 => KpQ ev h a0
 | .tas a0 a1 a2 a3 => KrV ev h a0 a1 a2 a3
 | .ld a0 a1 => r_ld ev h a0 a1
 | .st a0 a1 a2 => r_st ev h a0 a1 a2
 | .new a0 a1 => J4e ev h a0 a1
 | .box a0 a1 a2 => q3j ev h a0 a1 a2
 | .bld a0 a1 => JCH ev h a0 a1
 | .bls a0 a1 a2 a3 => XO3 ev h a0 a1 a2 a3
 | .mks a0 a1 a2 a3 a4 => J8N ev h a0 a1 a2 a3 a4
 | .app a0 a1 a2 a3 a4 a5 => Xb4 ev h a0 a1 a2 a3 a4 a5
 | .cpy a0 a1 a2 a3 => KmB ev h a0 a1 a2 a3
 | .capo a0 => zVj ev h a0
 | .apz a0 a1 a2 a3 a4 => Jq2 ev h a0 a1 a2 a3 a4
 | .stop => zEk ev h
 | .b2s a0 => QTe ev h a0
 | .clr a0 a1 => QW3 ev h a0 a1
 | .bcmp a0 a1 => Yn3 ev h a0 a1
 | .call a0 a1 => QeB ev h a0 a1
end Go.Proofs.YtcncpbcbedfakaaGreat
end
section
namespace Go.Proofs.YtcncpbcbedfakaaGreat
open Go.RowKit
inductive Job where
 | fn (cf : CF)
 | rd (id : Nat) (asg bd : CC)
abbrev RunF := Job → List AV → List AB → Option (AV × List AB)
noncomputable def Xzh (T : Nat → Option CF) (E : RunF) (f : AV) (args : List AV) (h : List AB) : Option (AV × List AB) :=
 match f with
 | .f (.func g) fst cap => match T g with
  | some cf => E (.fn cf) (fst ++ args ++ cap ++ List.replicate (cf.ntmps - (fst ++ args ++ cap).length) (.tu [])) h
  | none => none
 | .y id => match getB h id with
  | some (.lp _ _ fr0 ps asg bd) => if Nat.beq ps.length args.length then E (.rd id asg bd) (ZuT ps args fr0) h else none
  | _ => none
 | _ => none
noncomputable def opF (T : Nat → Option CF) (E : RunF) (ev : Opd → AV) (h : List AB) (op : CO) : Option (AV × List AB) :=
 match op with
 | .call f args => Xzh T E (ev f) (args.map ev) h
 | op => op.runF ev h
noncomputable def YXy (fr : List AV) : Option (Nat × Bool) → Option Bool
 | none => some true
 | some (t, w) => match nthA fr t with
  | .b x => some (x == w)
  | .top => none
  | _ => some false
noncomputable def putF (fr : List AV) (d : Option Nat) (v : AV) : List AV :=
 match d with
 | some d => setA fr d v
 | none => fr
noncomputable def Zsp (T : Nat → Option CF) (E : RunF) (o : COper) (ih : List AV → List AB → Option (List AV × List AB)) (fr : List AV) (h : List AB) : Option (List AV × List AB) :=
 match opF T E (Opd.evF fr) h o.op with
 | none => none
 | some (v, h') => ih (putF fr o.dst v) h'
noncomputable def K9b (T : Nat → Option CF) (E : RunF) (o : COper) (ih : List AV → List AB → Option (List AV × List AB)) (fr : List AV) (h : List AB) : Option (List AV × List AB) :=
 match YXy fr o.guard with
 | none => none
 | some b => match b with
  | true => Zsp T E o ih fr h
  | false => ih (putF fr o.dst (.tu [])) h
noncomputable def JOM (T : Nat → Option CF) (E : RunF) (l : List COper) : List AV → List AB → Option (List AV × List AB) :=
 List.rec (motive := fun _ => List AV → List AB → Option (List AV × List AB)) (fun fr h => some (fr, h)) (fun o _ ih => K9b T E o ih) l
structure Pt where
 k : Nat
 lo : Nat
 hi : Nat
 rs : List Nat
 ws : List Nat
def XWq (rs ws : List Nat) : Nat → List AB → List AB
 | _, [] => []
 | i, B :: l => (if memN i ws then B else if memN i rs then B.freeze else .dead) :: XWq rs ws (i + 1) l
noncomputable def ZWN (ws : List Nat) (G : List AB) : Nat → List AB → List AB
 | i, [] => G.drop i
 | i, B :: l => (if memN i ws then (getB G i).getD .dead else B) :: ZWN ws G (i + 1) l
inductive MK where
 | free
 | ld (x : Opd)
 | call (f : Opd) (args : List Opd)
 | mem
def CO.mk : CO → MK
 | .ld _ x => .ld x
 | .call f args => .call f args
 | .b2s _ | .new _ _ | .box _ _ _ | .bls _ _ _ _ | .mks _ _ _ _ _ | .apz _ _ _ _ _ | .st _ _ _ | .app _ _ _ _ _ _ | .cpy _ _ _ _ | .clr _ _ | .bcmp _ _ => .mem
 | _ => .free
def idOf : AV → List Nat
 | .p id _ => [id]
 | .sl id _ _ _ _ => [id]
 | _ => []
def foot (ev : Opd → AV) : CO → List Nat × List Nat
 | .b2s x => (idOf (ev x), [])
 | .st _ x _ => ([], idOf (ev x))
 | .app _ _ _ _ s x => (idOf (ev x), idOf (ev s))
 | .cpy _ _ d s => (idOf (ev s), idOf (ev d))
 | .clr _ x => ([], idOf (ev x))
 | .bcmp x y => (idOf (ev x) ++ idOf (ev y), [])
 | _ => ([], [])
def Kj0 (p : Pt) (id : Nat) : Bool := memN id p.ws || (Nat.ble p.lo id && Nat.blt id p.hi)
def Jab (anc : Nat) (rs ws : List Nat) (p : Pt) : Bool :=
 if bit p.k anc then true else (rs ++ ws).all (fun id => !Kj0 p id) && ws.all (fun id => !memN id (p.rs ++ p.ws))
def qOk (len0 lo hi : Nat) (anc : Nat) (past : List Pt) (id : Nat) : Bool :=
 Nat.blt id len0 || (Nat.ble lo id && Nat.blt id hi) || past.any fun p => bit p.k anc && Nat.ble p.lo id && Nat.blt id p.hi
def okIn (lo : Nat) (id : Nat) : Bool := Nat.blt id lo
def okV (q : Nat → Bool) (v : AV) : Bool :=
 match v with
 | .i _ _ => true
 | .b _ => true
 | v => v.ok q
noncomputable def usOk (lo : Nat) (fr : List AV) (l : List Nat) : Bool := l.all fun t => okV (okIn lo) (nthA fr t)
noncomputable def att (T : Nat → Option CF) (E : RunF) (len0 k : Nat) (anc : Nat) (past : List Pt) (fr : List AV) (h : List AB) (op : CO) (rs ws : List Nat) : Option (AV × List AB × List Pt) :=
 if usOk h.length fr op.tmps && ((rs ++ ws).all fun id => match getB h id with | some B => B.ok (okIn h.length) | none => false) && past.all (Jab anc rs ws) then
  match opF T E (Opd.evF fr) (XWq rs ws 0 h) op with
  | none => none
  | some (v, G) =>
   if okV (qOk len0 h.length G.length anc past) v && Nat.ble h.length G.length && (ws.all fun id => ((getB G id).getD .dead).ok (qOk len0 h.length G.length anc past)) && ((G.drop h.length).all fun B => B.ok (qOk len0 h.length G.length anc past))
    then some (v, ZWN ws G 0 h, ⟨k, h.length, G.length, rs, ws⟩ :: past) else none
 else none
noncomputable def attC (T : Nat → Option CF) (E : RunF) (len0 k : Nat) (anc : Nat) (past : List Pt) (fr : List AV) (h : List AB) (op : CO) (R : List Nat) : Option (AV × List AB × List Pt) :=
 match att T E len0 k anc past fr h op R [] with
 | some x => some x
 | none => att T E len0 k anc past fr h op [] R
noncomputable def JCs (len0 : Nat) (anc : Nat) (past : List Pt) (fr : List AV) (h : List AB) (op : CO) : Option (AV × List AB × List Pt) :=
 match op.runF (Opd.evF fr) h with
 | none => none
 | some (v, _) => if okV (qOk len0 0 0 anc past) v then some (v, h, past) else none
noncomputable def qUc (len0 k : Nat) (anc : Nat) (past : List Pt) (fr : List AV) (h : List AB) (op : CO) (rs : List Nat) : Option (AV × List AB × List Pt) :=
 if past.all (Jab anc rs []) then
  match op.runF (Opd.evF fr) h with
  | none => none
  | some (v, _) => if okV (qOk len0 0 0 anc past) v then some (v, h, ⟨k, 0, 0, rs, []⟩ :: past) else none
 else none
noncomputable def attO (T : Nat → Option CF) (E : RunF) (len0 k : Nat) (anc : Nat) (past : List Pt) (fr : List AV) (h : List AB) (op : CO) : Option (AV × List AB × List Pt) :=
 match op.mk with
 | .free => JCs len0 anc past fr h op
 | .ld x => qUc len0 k anc past fr h op (idOf (Opd.evF fr x))
 | .call f args => attC T E len0 k anc past fr h op (ZHo h 10000 ((Opd.evF fr f).ids ++ idsL (args.map (Opd.evF fr))) [])
 | .mem => att T E len0 k anc past fr h op (foot (Opd.evF fr) op).1 (foot (Opd.evF fr) op).2
abbrev OutD := Nat → List Pt → List AV → List AB → Option (List AV × List AB)
noncomputable def Q5N (T : Nat → Option CF) (E : RunF) (len0 : Nat) (d : DOp) (ih : OutD) (k : Nat) (past : List Pt) (fr : List AV) (h : List AB) : Option (List AV × List AB) :=
 match attO T E len0 k d.anc past fr h d.o.op with
 | none => none
 | some (v, h', past') => ih (k + 1) past' (putF fr d.o.dst v) h'
noncomputable def QyS (T : Nat → Option CF) (E : RunF) (len0 : Nat) (d : DOp) (ih : OutD) (k : Nat) (past : List Pt) (fr : List AV) (h : List AB) : Option (List AV × List AB) :=
 match YXy fr d.o.guard with
 | none => none
 | some b => match b with
  | true => Q5N T E len0 d ih k past fr h
  | false => ih (k + 1) past (putF fr d.o.dst (.tu [])) h
noncomputable def drawn (T : Nat → Option CF) (E : RunF) (len0 : Nat) (l : List DOp) : OutD :=
 List.rec (motive := fun _ => OutD) (fun _ _ fr h => some (fr, h)) (fun d _ ih => QyS T E len0 d ih) l
abbrev OutC := Option (XE × List AV × List AB)
def outN (r : Option (List AV × List AB)) : OutC :=
 match r with
 | some (fr, h) => some (.n, fr, h)
 | none => none
noncomputable def eSeq (ia ib : List AV → List AB → OutC) (fr : List AV) (h : List AB) : OutC :=
 match ia fr h with
 | none => none
 | some (x, fr', h') => match x with
  | .n => ib fr' h'
  | .x id => some (.x id, fr', h')
  | .r => some (.r, fr', h')
noncomputable def YIf (q : Opd) (ia ib : List AV → List AB → OutC) (fr : List AV) (h : List AB) : OutC :=
 match q.evF fr with
 | .b t => match t with
  | true => ia fr h
  | false => ib fr h
 | _ => none
noncomputable def zDc (id : Nat) (ia : List AV → List AB → OutC) (fr : List AV) (h : List AB) : OutC :=
 match ia fr h with
 | none => none
 | some (x, fr', h') => match x with
  | .n => some (.n, fr', h')
  | .x id' => if Nat.beq id id' then some (.n, fr', h') else some (.x id', fr', h')
  | .r => some (.r, fr', h')
noncomputable def XZB (ia : List AV → List AB → OutC) (n : Nat) : List AV → List AB → OutC :=
 Nat.rec (motive := fun _ => List AV → List AB → OutC) (fun _ _ => none) (fun _ ih fr h => match ia fr h with
  | none => none
  | some (x, fr', h') => match x with
   | .n => ih fr' h'
   | .x id => some (.x id, fr', h')
   | .r => some (.r, fr', h')) n
noncomputable def eRf (T : Nat → Option CF) (E : RunF) (q : Opd) (ps : List Nat) (asg bd : CC) (fr : List AV) (h : List AB) : OutC :=
 match (match q.evF fr with
  | .f f fst cap => Xzh T E (.f f fst cap) [AV.y h.length] (h ++ [AB.lp .ready .n fr ps asg bd])
  | _ => none) with
 | none => none
 | some (_, h2) => match getB h2 h.length with
  | some (.lp st pd _ _ _ _) => match st with
   | .busy => none
   | _ => some (pd, fr, setB h2 h.length .dead)
  | _ => none
noncomputable def evC (T : Nat → Option CF) (E : RunF) (rd : Bool) (c : CC) : List AV → List AB → OutC :=
 CC.rec (motive := fun _ => List AV → List AB → OutC) (fun fr h => some (.n, fr, h)) (fun _ ops fr h => outN (JOM T E ops fr h)) (fun _ ops fr h => outN (drawn T E h.length ops 0 [] fr h))
  (fun _ _ ia ib fr h => eSeq ia ib fr h) (fun q _ _ ia ib fr h => YIf q ia ib fr h) (fun id _ ia fr h => zDc id ia fr h) (fun _ ia fr h => XZB ia 100000 fr h) (fun _ ia fr h => ia fr h)
  (fun id fr h => some (.x id, fr, h)) (fun fr h => some (.r, fr, h)) (fun _ _ => none) (fun q ps a b _ _ fr h => match rd with | true => none | false => eRf T E q ps a b fr h) c
def finF (cf : CF) (r : OutC) : Option (AV × List AB) :=
 match r with
 | none => none
 | some (x, fr, h) => match x with
  | .x _ => none
  | .n => match resV fr h cf.res with
   | some v => some (v, h)
   | none => none
  | .r => match resV fr h cf.res with
   | some v => some (v, h)
   | none => none
noncomputable def Xh3 (id : Nat) (r : OutC) : Option (AV × List AB) :=
 match r with
 | none => none
 | some (x, _, h) => match getB h id with
  | some (.lp _ _ fr0 ps asg bd) => match x with
   | .n => some (.b true, setB h id (.lp .ready .n fr0 ps asg bd))
   | .x k => some (.b false, setB h id (.lp .done (.x k) fr0 ps asg bd))
   | .r => some (.b false, setB h id (.lp .done .r fr0 ps asg bd))
  | _ => none
noncomputable def Qzm (T : Nat → Option CF) (E : RunF) (id : Nat) (asg bd : CC) (fr : List AV) (h : List AB) : Option (AV × List AB) :=
 match evC T E true asg fr h with
 | some (.n, fr1, h1) => match getB h1 id with
  | some (.lp .ready pd fr0 ps a b) => Xh3 id (evC T E true bd fr1 (setB h1 id (.lp .busy pd fr0 ps a b)))
  | _ => none
 | _ => none
noncomputable def evF (T : Nat → Option CF) (n : Nat) : RunF :=
 Nat.rec (motive := fun _ => RunF) (fun _ _ _ => none) (fun _ ih j fr h => match j with
  | .fn cf => finF cf (evC T ih false cf.body fr h)
  | .rd id asg bd => Qzm T ih id asg bd fr h) n
end Go.Proofs.YtcncpbcbedfakaaGreat
end
section
namespace Go.Proofs.YtcncpbcbedfakaaGreat
open Go.RowKit
mutual
theorem AV.ok_mono {q q' : Nat → Bool} (h : ∀ i, q i = true → q' i = true) : ∀ a : AV, a.ok q = true → a.ok q' = true
 | .p id _, e => by simp only [AV.ok] at e ⊢; exact h id e
 | .y id, e => by simp only [AV.ok] at e ⊢; exact h id e
 | .sl id _ len cap k, e => by
  simp only [AV.ok, Bool.or_eq_true] at e ⊢
  exact e.imp (fun x => x) (h _)
 | .f _ fst cap, e => by
  simp only [AV.ok, Bool.and_eq_true] at e ⊢
  exact ⟨KAf h fst e.1, KAf h cap e.2⟩
 | .ifc _ v, e => by
  simp only [AV.ok] at e ⊢
  exact AV.ok_mono h v e
 | .ag l, e => by
  simp only [AV.ok] at e ⊢
  exact KAf h l e
 | .tu l, e => by
  simp only [AV.ok] at e ⊢
  exact KAf h l e
 | .top, _ => by simp [AV.ok]
 | .b _, _ => by simp [AV.ok]
 | .i _ _, _ => by simp [AV.ok]
 | .s _, _ => by simp [AV.ok]
 | .np, _ => by simp [AV.ok]
 | .se, _ => by simp [AV.ok]
 | .ns, _ => by simp [AV.ok]
 | .nf, _ => by simp [AV.ok]
 | .ni, _ => by simp [AV.ok]
theorem KAf {q q' : Nat → Bool} (h : ∀ i, q i = true → q' i = true) : ∀ l : List AV, okL q l = true → okL q' l = true
 | [], _ => by simp [okL]
 | a :: l, e => by
  simp only [okL, Bool.and_eq_true] at e ⊢
  exact ⟨AV.ok_mono h a e.1, KAf h l e.2⟩
end
theorem AB.ok_mono {q q' : Nat → Bool} (h : ∀ i, q i = true → q' i = true) (B : AB) (e : B.ok q = true) : B.ok q' = true := by
 cases B with
 | dead => rfl
 | iter s p => rfl
 | lp _ _ fr _ _ _ => exact KAf h fr e
 | blk fl m xs =>
  cases fl with
  | true => rfl
  | false => exact KAf h xs e
theorem VR.okLen {ρ : Mp} {a : AV} {v : Value} (h : VR ρ a v) : a.ok (fun i => decide (i < ρ.length)) = true := by
 induction h with
 | p id off b o n h =>
  have := (List.getElem?_eq_some_iff.1 h).1
  simp [AV.ok, this]
 | sl id off len cap k b o n cap' h =>
  have := (List.getElem?_eq_some_iff.1 h).1
  simp [AV.ok, this]
 | y id b o n h =>
  have := (List.getElem?_eq_some_iff.1 h).1
  simp [AV.ok, this]
 | f fn fst cap fst' cap' h0 h _ _ ih0 ih =>
  simp only [AV.ok, Bool.and_eq_true]
  refine ⟨zFJ.2 fun j a hj => ih0 j a _ hj (Array.getElem?_eq_getElem ?_), zFJ.2 fun j a hj => ih j a _ hj (Array.getElem?_eq_getElem ?_)⟩
  ·rw [← h0]; exact (List.getElem?_eq_some_iff.1 hj).1
  ·rw [← h]; exact (List.getElem?_eq_some_iff.1 hj).1
 | ifc t v v' _ ih => simpa only [AV.ok] using ih
 | ag l cs h _ ih =>
  simp only [AV.ok]
  exact zFJ.2 fun j a hj => ih j a _ hj (Array.getElem?_eq_getElem (by rw [← h]; exact (List.getElem?_eq_some_iff.1 hj).1))
 | tu l cs h _ ih =>
  simp only [AV.ok]
  exact zFJ.2 fun j a hj => ih j a _ hj (Array.getElem?_eq_getElem (by rw [← h]; exact (List.getElem?_eq_some_iff.1 hj).1))
 | _ => simp [AV.ok]
theorem VR.okLe {ρ : Mp} {a : AV} {v : Value} (h : VR ρ a v) {n : Nat} (hn : ρ.length ≤ n) : a.ok (fun i => decide (i < n)) = true :=
 AV.ok_mono (fun i hi => by simp at hi ⊢; omega) a h.okLen
theorem Rel.okLen {K : Code → CC → Prop} {ρ : Mp} {h : List AB} {w : World} (r : Rel K ρ h w) {i : Nat} {B : AB} (hi : h[i]? = some B) : B.ok (fun i => decide (i < ρ.length)) = true := by
 obtain ⟨b, o, n, h1, h2⟩ := r.at hi
 cases B with
 | dead => rfl
 | iter s p => rfl
 | lp st pd fr ps asg bd =>
  obtain ⟨r, _, _, _, h4, _⟩ := h2
  exact zFJ.2 fun k a ha => (h4.2 k a _ ha (Array.getElem?_eq_getElem (by rw [← h4.1]; exact (List.getElem?_eq_some_iff.1 ha).1))).okLen
 | blk fl m xs =>
  cases fl with
  | true => rfl
  | false =>
   obtain ⟨cs, e, fz, _, _, h3, h4⟩ := h2
   exact zFJ.2 fun k a ha => (h4 k a _ ha (Array.getElem?_eq_getElem (by have := (List.getElem?_eq_some_iff.1 ha).1; omega))).okLen
theorem XVN {ev ev' : Opd → AV} : ∀ (ps : List (Nat × Nat × Opd)) (cells : List AV), (∀ x ∈ ps, ev x.2.2 = ev' x.2.2) → zjH ev cells ps = zjH ev' cells ps
 | [], _, _ => rfl
 | (off, sz, x) :: ps, cells, h => by
  simp only [zjH]
  rw [h _ (List.mem_cons_self ..)]
  split
  ·exact XVN ps _ fun y hy => h y (List.mem_cons_of_mem _ hy)
  ·rfl
theorem qOa {ev ev' : Opd → AV} (h : List AB) (c : CO) (hc : ∀ v, ev (.c v) = ev' (.c v)) (ht : ∀ t ∈ c.tmps, ev (.t t) = ev' (.t t)) : c.run ev h = c.run ev' h := by
 have o : ∀ x : Opd, (∀ t ∈ x.tmps, ev (.t t) = ev' (.t t)) → ev x = ev' x := fun x hx => by
  cases x with
  | t n => exact hx n (by simp [Opd.tmps])
  | c v => exact hc v
 have oo : ∀ x : Option Opd, (∀ t ∈ optT x, ev (.t t) = ev' (.t t)) → x.map ev = x.map ev' := fun x hx => by
  cases x with
  | none => rfl
  | some x => exact congrArg some (o x hx)
 have ol : ∀ l : List Opd, (∀ t ∈ l.flatMap Opd.tmps, ev (.t t) = ev' (.t t)) → l.map ev = l.map ev' := fun l hl =>
  List.map_congr_left fun x hx => o x fun t q => hl t (List.mem_flatMap.2 ⟨x, hx, q⟩)
 have of : ∀ ps : List (Nat × Nat × Opd), (∀ t ∈ ps.flatMap (fun x => x.2.2.tmps), ev (.t t) = ev' (.t t)) → ∀ cells, zjH ev cells ps = zjH ev' cells ps := fun ps hp cells =>
  XVN ps cells fun x hx => o x.2.2 fun t q => hp t (List.mem_flatMap.2 ⟨x, hx, q⟩)
 cases c with
 | mv a0 =>
  have h0 := o a0 fun t q => ht t q
  simp only [CO.run, h0]
 | pick a0 a1 a2 =>
  have h0 := o a0 fun t q => ht t (List.mem_append_left _ (List.mem_append_left _ q))
  have h1 := o a1 fun t q => ht t (List.mem_append_left _ (List.mem_append_right _ q))
  have h2 := o a2 fun t q => ht t (List.mem_append_right _ q)
  simp only [CO.run, h0, h1, h2]
 | bin _x0 a1 a2 =>
  have h0 := o a1 fun t q => ht t (List.mem_append_left _ q)
  have h1 := o a2 fun t q => ht t (List.mem_append_right _ q)
  simp only [CO.run, h0, h1]
 | eqb _x0 a1 a2 =>
  have h0 := o a1 fun t q => ht t (List.mem_append_left _ q)
  have h1 := o a2 fun t q => ht t (List.mem_append_right _ q)
  simp only [CO.run, h0, h1]
 | eqc _x0 _x1 a2 a3 =>
  have h0 := o a2 fun t q => ht t (List.mem_append_left _ q)
  have h1 := o a3 fun t q => ht t (List.mem_append_right _ q)
  simp only [CO.run, h0, h1]
 | eqn _x0 a1 a2 =>
  have h0 := o a1 fun t q => ht t (List.mem_append_left _ q)
  have h1 := o a2 fun t q => ht t (List.mem_append_right _ q)
  simp only [CO.run, h0, h1]
 | un _x0 a1 =>
  have h0 := o a1 fun t q => ht t q
  simp only [CO.run, h0]
 | cvi _x0 a1 =>
  have h0 := o a1 fun t q => ht t q
  simp only [CO.run, h0]
 | cvs a0 =>
  have h0 := o a0 fun t q => ht t q
  simp only [CO.run, h0]
 | fad _x0 a1 =>
  have h0 := o a1 fun t q => ht t q
  simp only [CO.run, h0]
 | fld _x0 _x1 a2 =>
  have h0 := o a2 fun t q => ht t q
  simp only [CO.run, h0]
 | iad _x0 a1 a2 =>
  have h0 := o a1 fun t q => ht t (List.mem_append_left _ q)
  have h1 := o a2 fun t q => ht t (List.mem_append_right _ q)
  simp only [CO.run, h0, h1]
 | iaa _x0 _x1 a2 a3 =>
  have h0 := o a2 fun t q => ht t (List.mem_append_left _ q)
  have h1 := o a3 fun t q => ht t (List.mem_append_right _ q)
  simp only [CO.run, h0, h1]
 | ixs a0 a1 =>
  have h0 := o a0 fun t q => ht t (List.mem_append_left _ q)
  have h1 := o a1 fun t q => ht t (List.mem_append_right _ q)
  simp only [CO.run, h0, h1]
 | ixa _x0 _x1 _x2 a3 a4 =>
  have h0 := o a3 fun t q => ht t (List.mem_append_left _ q)
  have h1 := o a4 fun t q => ht t (List.mem_append_right _ q)
  simp only [CO.run, h0, h1]
 | sls a0 a1 a2 =>
  have h0 := o a0 fun t q => ht t (List.mem_append_left _ (List.mem_append_left _ q))
  have h1 := oo a1 fun t q => ht t (List.mem_append_left _ (List.mem_append_right _ q))
  have h2 := oo a2 fun t q => ht t (List.mem_append_right _ q)
  simp only [CO.run, h0, h1, h2]
 | sll _x0 a1 a2 a3 a4 =>
  have h0 := o a1 fun t q => ht t (List.mem_append_left _ (List.mem_append_left _ (List.mem_append_left _ q)))
  have h1 := oo a2 fun t q => ht t (List.mem_append_left _ (List.mem_append_left _ (List.mem_append_right _ q)))
  have h2 := oo a3 fun t q => ht t (List.mem_append_left _ (List.mem_append_right _ q))
  have h3 := oo a4 fun t q => ht t (List.mem_append_right _ q)
  simp only [CO.run, h0, h1, h2, h3]
 | sla _x0 _x1 a2 a3 a4 a5 =>
  have h0 := o a2 fun t q => ht t (List.mem_append_left _ (List.mem_append_left _ (List.mem_append_left _ q)))
  have h1 := oo a3 fun t q => ht t (List.mem_append_left _ (List.mem_append_left _ (List.mem_append_right _ q)))
  have h2 := oo a4 fun t q => ht t (List.mem_append_left _ (List.mem_append_right _ q))
  have h3 := oo a5 fun t q => ht t (List.mem_append_right _ q)
  simp only [CO.run, h0, h1, h2, h3]
 | ifc _x0 a1 =>
  have h0 := o a1 fun t q => ht t q
  simp only [CO.run, h0]
 | mkf _x0 a1 a2 =>
  have h0 := ol a1 fun t q => ht t (List.mem_append_left _ q)
  have h1 := ol a2 fun t q => ht t (List.mem_append_right _ q)
  simp only [CO.run, h0, h1]
 | ext a0 _x1 =>
  have h0 := o a0 fun t q => ht t q
  simp only [CO.run, h0]
 | len _x0 a1 =>
  have h0 := o a1 fun t q => ht t q
  simp only [CO.run, h0]
 | lnc _x0 =>
  rfl
 | mm _x0 a1 a2 =>
  have h0 := o a1 fun t q => ht t (List.mem_append_left _ q)
  have h1 := o a2 fun t q => ht t (List.mem_append_right _ q)
  simp only [CO.run, h0, h1]
 | nck a0 =>
  have h0 := o a0 fun t q => ht t q
  simp only [CO.run, h0]
 | tas a0 _x1 _x2 _x3 =>
  have h0 := o a0 fun t q => ht t q
  simp only [CO.run, h0]
 | ld _x0 a1 =>
  have h0 := o a1 fun t q => ht t q
  simp only [CO.run, h0]
 | st _x0 a1 a2 =>
  have h0 := o a1 fun t q => ht t (List.mem_append_left _ q)
  have h1 := o a2 fun t q => ht t (List.mem_append_right _ q)
  simp only [CO.run, h0, h1]
 | new _x0 _x1 =>
  rfl
 | box _x0 _x1 a2 =>
  have h0 := o a2 fun t q => ht t q
  simp only [CO.run, h0]
 | bld _x0 a1 =>
  have h0 := of a1 fun t q => ht t q
  simp only [CO.run, h0]
 | bls _x0 _x1 _x2 a3 =>
  have h0 := of a3 fun t q => ht t q
  simp only [CO.run, h0]
 | mks _x0 _x1 _x2 a3 a4 =>
  have h0 := o a3 fun t q => ht t (List.mem_append_left _ q)
  have h1 := o a4 fun t q => ht t (List.mem_append_right _ q)
  simp only [CO.run, h0, h1]
 | app _x0 _x1 _x2 _x3 a4 a5 =>
  have h0 := o a4 fun t q => ht t (List.mem_append_left _ q)
  have h1 := o a5 fun t q => ht t (List.mem_append_right _ q)
  simp only [CO.run, h0, h1]
 | cpy _x0 _x1 a2 a3 =>
  have h0 := o a2 fun t q => ht t (List.mem_append_left _ q)
  have h1 := o a3 fun t q => ht t (List.mem_append_right _ q)
  simp only [CO.run, h0, h1]
 | capo a0 =>
  have h0 := o a0 fun t q => ht t q
  simp only [CO.run, h0]
 | apz _x0 _x1 _x2 a3 a4 =>
  have h0 := o a3 fun t q => ht t (List.mem_append_left _ q)
  have h1 := o a4 fun t q => ht t (List.mem_append_right _ q)
  simp only [CO.run, h0, h1]
 | stop =>
  rfl
 | b2s a0 =>
  have h0 := o a0 fun t q => ht t q
  simp only [CO.run, h0]
 | clr _x0 a1 =>
  have h0 := o a1 fun t q => ht t q
  simp only [CO.run, h0]
 | bcmp a0 a1 =>
  have h0 := o a0 fun t q => ht t (List.mem_append_left _ q)
  have h1 := o a1 fun t q => ht t (List.mem_append_right _ q)
  simp only [CO.run, h0, h1]
 | call _ _ =>
  rfl
section
variable {P : Program}
end
end Go.Proofs.YtcncpbcbedfakaaGreat
end
