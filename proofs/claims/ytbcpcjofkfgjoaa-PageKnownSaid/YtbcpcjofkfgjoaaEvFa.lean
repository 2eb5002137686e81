/- The abstract machine once more, fast: frames and heaps are trees. -/
import Derived.Test.YtbcpcjofkfgjoaaEvFn
namespace Go.Proofs.Ytbcpcjofkfgjoaa
open Go.RowKit

inductive FT where
  | e
  | n (v : AV) (l r : FT)
noncomputable def FT.get (t : FT) : Nat → AV :=
  FT.rec (motive := fun _ => Nat → AV) (fun _ => .tu []) (fun v _ _ il ir n => Nat.rec (motive := fun _ => AV) v (fun m _ => Bool.rec (motive := fun _ => AV) (il (Nat.div m 2)) (ir (Nat.div m 2)) (Nat.beq (Nat.mod m 2) 1)) n) t
noncomputable def FT.set (t : FT) : Nat → AV → FT :=
  FT.rec (motive := fun _ => Nat → AV → FT) (fun _ _ => .e) (fun v l r il ir n x => Nat.rec (motive := fun _ => FT) (.n x l r) (fun m _ => Bool.rec (motive := fun _ => FT) (.n v (il (Nat.div m 2) x) r) (.n v l (ir (Nat.div m 2) x)) (Nat.beq (Nat.mod m 2) 1)) n) t
noncomputable def FT.full (d : Nat) : FT := Nat.rec (motive := fun _ => FT) .e (fun _ t => .n (.tu []) t t) d
/-- A frame: how many places, and the tree of them. -/
structure FR where
  n : Nat
  t : FT
/-- A block: a loop's record has its frame as a tree. -/
inductive HB where
  | b (B : AB)
  | lp (st : LoopState) (pd : XE) (fr : FR) (ps : List Nat) (asg bd : CC)
inductive HT where
  | e
  | n (v : Option HB) (l r : HT)
noncomputable def HT.get (t : HT) : Nat → Option HB :=
  HT.rec (motive := fun _ => Nat → Option HB) (fun _ => none) (fun v _ _ il ir n => Nat.rec (motive := fun _ => Option HB) v (fun m _ => Bool.rec (motive := fun _ => Option HB) (il (Nat.div m 2)) (ir (Nat.div m 2)) (Nat.beq (Nat.mod m 2) 1)) n) t
noncomputable def HT.set (t : HT) : Nat → Option HB → HT :=
  HT.rec (motive := fun _ => Nat → Option HB → HT) (fun _ _ => .e) (fun v l r il ir n x => Nat.rec (motive := fun _ => HT) (.n x l r) (fun m _ => Bool.rec (motive := fun _ => HT) (.n v (il (Nat.div m 2) x) r) (.n v l (ir (Nat.div m 2) x)) (Nat.beq (Nat.mod m 2) 1)) n) t
noncomputable def HT.full (d : Nat) : HT := Nat.rec (motive := fun _ => HT) .e (fun _ t => .n none t t) d
/-- A heap: how many blocks, and the tree of them. -/
structure HP where
  len : Nat
  t : HT
noncomputable def HP.push (h : HP) (x : Option HB) : Option HP :=
  Nat.rec (motive := fun _ => Option HP) (some ⟨1, h.t.set 0 x⟩) (fun m _ => match Nat.blt m 16000 with | true => some ⟨Nat.succ (Nat.succ m), h.t.set (Nat.succ m) x⟩ | false => none) h.len
/-- What an operation does to the heap. -/
inductive HE where
  | z
  | put (id : Nat) (B : AB)
  | new (B : AB)
  | kn (id : Nat) (B : AB)
noncomputable def HP.app (h : HP) (e : HE) : Option HP :=
  match e with
  | .z => some h
  | .put id B => some ⟨h.len, h.t.set id (some (.b B))⟩
  | .new B => h.push (some (.b B))
  | .kn id B => HP.push ⟨h.len, h.t.set id none⟩ (some (.b B))
abbrev GT := Nat → Option AB
def rdG (g : GT) (id : Nat) : Option (List AV) :=
  match g id with
  | some (.blk _ _ xs) => some xs
  | _ => none
noncomputable def ldG (g : GT) : Option Nat → AV → Option AV
  | none, .p id off => (rdG g id).bind fun xs => nthO xs off
  | some n, .p id off => (rdG g id).bind fun xs => if off + n ≤ xs.length then some (.ag ((xs.drop off).take n)) else none
  | _, _ => none
def stG (g : GT) (id off : Nat) (l : List AV) : Option HE :=
  match g id with
  | some (.blk fl true xs) => if off + l.length ≤ xs.length ∧ l.all (wrOk fl) = true then some (.put id (.blk fl true (over xs off l))) else none
  | _ => none
def stVG (g : GT) : Option Nat → AV → AV → Option HE
  | none, .p id off, v => if v.one then stG g id off [v] else none
  | some n, .p id off, .ag l => if l.length = n then stG g id off l else none
  | _, _, _ => none
def newG (len : Nat) (fl : Bool) (cs : List AV) (v : Nat → AV) : Option (AV × HE) :=
  if cs.all (wrOk fl) = true then some (v len, .new (.blk fl true cs)) else none
def srcG (g : GT) (sz : Nat) : AV → Option (Nat × List AV)
  | .ns => some (0, [])
  | .se => some (0, [])
  | .s l => if sz = 1 then some (l.length, l.map fun b => .i .u8 b.toNat) else none
  | .sl id off len _ _ => if len = 0 then some (0, []) else (rdG g id).bind fun xs => if off + len * sz ≤ xs.length then some (len, (xs.drop off).take (len * sz)) else none
  | _ => none
def appG (g : GT) (hl : Nat) (fl : Bool) (sz by_ : Nat) (s x : AV) : Option (AV × HE) :=
  (srcG g sz x).bind fun (m, ys) =>
    if ys.all (wrOk fl) = true then
      match s with
      | .ns => if m = 0 then some (.ns, .z) else if m * by_ ≤ 140737488355328 ∧ m ≤ maxLen then some (.sl hl 0 m m (some sz), .new (.blk fl true ys)) else none
      | .sl id off len cap k =>
        if m = 0 then some (.sl id off len cap k, .z)
        else if len + m ≤ cap then (stG g id (off + len * sz) ys).map fun e => (.sl id off (len + m) cap k, e)
        else match g id with
          | some (.blk fl' mu xs) =>
            if fl' = fl ∧ off + len * sz ≤ xs.length ∧ (len + m) * by_ ≤ 140737488355328 ∧ len + m ≤ maxLen then
              if k = none then some (.sl hl 0 (len + m) (len + m) (some sz), .new (.blk fl true ((xs.drop off).take (len * sz) ++ ys)))
              else if k = some sz ∧ sz ≠ 0 ∧ mu = true ∧ off + len * sz = xs.length then some (.sl hl 0 (len + m) (len + m) (some sz), .kn id (.blk fl true (xs.drop off ++ ys)))
              else if k = some sz ∧ sz ≠ 0 ∧ mu = true then some (.sl hl 0 (len + m) (len + m) (some sz), .kn id (.blk fl true ((xs.drop off).take (len * sz) ++ ys)))
              else none
            else none
          | _ => none
      | _ => none
    else none
def cpyG (g : GT) (sz : Nat) (d s : AV) : Option (AV × HE) :=
  (srcG g sz s).bind fun (m, ys) =>
    match d with
    | .sl id off len _ _ => if m ≤ len then (stG g id off ys).map fun e => (.i .i64 m, e) else none
    | _ => none
abbrev OpF := (Opd → AV) → GT → Nat → Option (AV × HE)
def freeG (r : Option (AV × List AB)) : Option (AV × HE) :=
  match r with
  | some (v, _) => some (v, .z)
  | none => none
def valG (r : Option AV) : Option (AV × HE) :=
  match r with
  | some v => some (v, .z)
  | none => none
def untG (r : Option HE) : Option (AV × HE) :=
  match r with
  | some e => some (.tu [], e)
  | none => none
noncomputable def g_ld (n : Option Nat) (x : Opd) : OpF := fun ev g _ => valG (ldG g n (ev x))
noncomputable def g_st (n : Option Nat) (x v : Opd) : OpF := fun ev g _ => untG (stVG g n (ev x) (ev v))
noncomputable def g_new (fl : Bool) (zs : List AV) : OpF := fun _ _ hl => newG hl fl zs (fun n => .p n 0)
noncomputable def g_box (fl : Bool) (n : Nat) (x : Opd) : OpF := fun ev _ hl => if (ev x).cells.length = n then newG hl fl (ev x).cells (fun n => .p n 0) else none
noncomputable def g_bls (fl : Bool) (k : Nat) (zs : List AV) (ps : List (Nat × Nat × Opd)) : OpF := fun ev _ hl => (fillV ev zs ps).bind fun cs => newG hl fl cs (fun n => .sl n 0 k k none)
noncomputable def g_mks (fl : Bool) (z : List AV) (by_ : Nat) (le ca : Opd) : OpF := fun ev _ hl => match ev le, ev ca with
  | .i _ l, .i _ c => if 0 ≤ l ∧ l ≤ c ∧ (by_ : Int) * c ≤ 2 ^ 47 ∧ c ≤ maxLen then newG hl fl ((List.replicate c.toNat z).flatten) (fun n => .sl n 0 l.toNat c.toNat none) else none
  | _, _ => none
noncomputable def g_app (str fl : Bool) (sz by_ : Nat) (s x : Opd) : OpF := fun ev g hl => if (ev x).isStr = str then appG g hl fl sz by_ (ev s) (ev x) else none
noncomputable def g_cpy (str : Bool) (sz : Nat) (d s : Opd) : OpF := fun ev g _ => if (ev s).isStr = str then cpyG g sz (ev d) (ev s) else none
noncomputable def g_apz (fl : Bool) (z : List AV) (by_ : Nat) (s n : Opd) : OpF := fun ev _ hl => match ev s, ev n with
  | .ns, .i _ m => if m = 0 then some (.ns, .z) else if 0 < m ∧ m.toNat * by_ ≤ 140737488355328 ∧ m.toNat ≤ maxLen then newG hl fl ((List.replicate m.toNat z).flatten) (fun k => .sl k 0 m.toNat m.toNat (some z.length)) else none
  | _, _ => none
noncomputable def g_b2s (x : Opd) : OpF := fun ev g _ => if (ev x).isStr then none else (srcG g 1 (ev x)).bind fun (_, cs) => (bytesOf cs).map fun l => (.s l, .z)
noncomputable def g_clr (z : List AV) (x : Opd) : OpF := fun ev g _ => match ev x with
  | .ns => some (.tu [], .z)
  | .se => some (.tu [], .z)
  | .sl id off n _ _ => if n = 0 then some (.tu [], .z) else untG (stG g id off ((List.replicate n z).flatten))
  | _ => none
noncomputable def g_bcmp (x y : Opd) : OpF := fun ev g _ => (srcG g 1 (ev x)).bind fun (_, xs) => (srcG g 1 (ev y)).bind fun (_, ys) => (bytesOf xs).bind fun l => (bytesOf ys).map fun m => (.i .i64 (Extern.BytealgCompare.cmp ⟨l.toArray⟩ ⟨m.toArray⟩), .z)
noncomputable def g_s2b (x : Opd) : OpF := fun ev _ hl => match ev x with
  | .s l => if l.length ≤ maxLen then some (.sl hl 0 l.length l.length (some 1), .new (.blk true false (l.map fun b => .i .u8 (b.toNat : Int)))) else none
  | _ => none
noncomputable def g_rng (x : Opd) : OpF := fun ev _ hl => match ev x with
  | .s l => some (.p hl 0, .new (.iter ⟨l.toArray⟩ 0))
  | _ => none
noncomputable def g_nxt (x : Opd) : OpF := fun ev g _ => match ev x with
  | .p id 0 => match g id with
    | some (.iter s pos) => if pos < s.size then some (.tu [.b true, .i .i64 (pos : Int), .i .i32 ((Utf8.decode s pos).1 : Int)], .put id (.iter s (pos + (Utf8.decode s pos).2))) else some (.tu [.b false], .z)
    | _ => none
  | _ => none
noncomputable def g_s2s (x : Opd) : OpF := fun ev g _ => match ev x with
  | .sl id off n c k => if n = 0 then none else match g id with
    | some (.blk fl true xs) => some (.sl id off n c k, .put id (.blk fl false xs))
    | _ => none
  | _ => none
noncomputable def g_bix (x y : Opd) : OpF := fun ev _ _ => match ev x, ev y with
  | .s l, .i .u8 n => some (.i .i64 (match (List.range l.length).find? fun i => (⟨l.toArray⟩ : ByteArray)[i]! == UInt8.ofNat n.toNat with | some i => (i : Int) | none => -1), .z)
  | _, _ => none
noncomputable def f_mv (a0 : Opd) : OpF := fun ev _ _ => freeG (r_mv ev [] a0)
noncomputable def f_pick (a0 a1 a2 : Opd) : OpF := fun ev _ _ => freeG (r_pick ev [] a0 a1 a2)
noncomputable def f_bin (a0 : BinOp) (a1 a2 : Opd) : OpF := fun ev _ _ => freeG (r_bin ev [] a0 a1 a2)
noncomputable def f_eqb (a0 : Bool) (a1 a2 : Opd) : OpF := fun ev _ _ => freeG (r_eqb ev [] a0 a1 a2)
noncomputable def f_eqc (a0 : List CK) (a1 : Bool) (a2 a3 : Opd) : OpF := fun ev _ _ => freeG (r_eqc ev [] a0 a1 a2 a3)
noncomputable def f_eqn (a0 : Bool) (a1 a2 : Opd) : OpF := fun ev _ _ => freeG (r_eqn ev [] a0 a1 a2)
noncomputable def f_un (a0 : UnOp) (a1 : Opd) : OpF := fun ev _ _ => freeG (r_un ev [] a0 a1)
noncomputable def f_cvi (a0 : IntKind) (a1 : Opd) : OpF := fun ev _ _ => freeG (r_cvi ev [] a0 a1)
noncomputable def f_cvs (a0 : Opd) : OpF := fun ev _ _ => freeG (r_cvs ev [] a0)
noncomputable def f_fad (a0 : Nat) (a1 : Opd) : OpF := fun ev _ _ => freeG (r_fad ev [] a0 a1)
noncomputable def f_fld (a0 : Nat) (a1 : Option Nat) (a2 : Opd) : OpF := fun ev _ _ => freeG (r_fld ev [] a0 a1 a2)
noncomputable def f_iad (a0 : Nat) (a1 a2 : Opd) : OpF := fun ev _ _ => freeG (r_iad ev [] a0 a1 a2)
noncomputable def f_iaa (a0 a1 : Nat) (a2 a3 : Opd) : OpF := fun ev _ _ => freeG (r_iaa ev [] a0 a1 a2 a3)
noncomputable def f_ixs (a0 a1 : Opd) : OpF := fun ev _ _ => freeG (r_ixs ev [] a0 a1)
noncomputable def f_ixa (a0 a1 : Nat) (a2 : Bool) (a3 a4 : Opd) : OpF := fun ev _ _ => freeG (r_ixa ev [] a0 a1 a2 a3 a4)
noncomputable def f_sls (a0 : Opd) (a1 a2 : Option Opd) : OpF := fun ev _ _ => freeG (r_sls ev [] a0 a1 a2)
noncomputable def f_sll (a0 : Nat) (a1 : Opd) (a2 a3 a4 : Option Opd) : OpF := fun ev _ _ => freeG (r_sll ev [] a0 a1 a2 a3 a4)
noncomputable def f_sla (a0 a1 : Nat) (a2 : Opd) (a3 a4 a5 : Option Opd) : OpF := fun ev _ _ => freeG (r_sla ev [] a0 a1 a2 a3 a4 a5)
noncomputable def f_ifc (a0 : TypeId) (a1 : Opd) : OpF := fun ev _ _ => freeG (r_ifc ev [] a0 a1)
noncomputable def f_mkf (a0 : Fn) (a1 a2 : List Opd) : OpF := fun ev _ _ => freeG (r_mkf ev [] a0 a1 a2)
noncomputable def f_ext (a0 : Opd) (a1 : Nat) : OpF := fun ev _ _ => freeG (r_ext ev [] a0 a1)
noncomputable def f_len (a0 : Bool) (a1 : Opd) : OpF := fun ev _ _ => freeG (r_len ev [] a0 a1)
noncomputable def f_lnc (a0 : Nat) : OpF := fun ev _ _ => freeG (r_lnc ev [] a0)
noncomputable def f_mm (a0 : Bool) (a1 a2 : Opd) : OpF := fun ev _ _ => freeG (r_mm ev [] a0 a1 a2)
noncomputable def f_nck (a0 : Opd) : OpF := fun ev _ _ => freeG (r_nck ev [] a0)
noncomputable def f_tas (a0 : Opd) (a1 : TypeId) (a2 : Bool) (a3 : AV) : OpF := fun ev _ _ => freeG (r_tas ev [] a0 a1 a2 a3)
noncomputable def f_bld (a0 : List AV) (a1 : List (Nat × Nat × Opd)) : OpF := fun ev _ _ => freeG (r_bld ev [] a0 a1)
noncomputable def f_capo (a0 : Opd) : OpF := fun ev _ _ => freeG (r_capo ev [] a0)
noncomputable def f_stop : OpF := fun _ _ _ => none
noncomputable def f_call (_a0 : Opd) (_a1 : List Opd) : OpF := fun _ _ _ => none
/-- An operation, on a getter of blocks. -/
noncomputable def opE (op : CO) : OpF := CO.rec (motive := fun _ => OpF) f_mv f_pick f_bin f_eqb f_eqc f_eqn f_un f_cvi f_cvs f_fad f_fld f_iad f_iaa f_ixs f_ixa f_sls f_sll f_sla f_ifc f_mkf f_ext f_len f_lnc f_mm f_nck f_tas g_ld g_st g_new g_box f_bld g_bls g_mks g_app g_cpy f_capo g_apz f_stop g_b2s g_clr g_bcmp g_s2b g_rng g_nxt g_s2s g_bix f_call op
noncomputable def HP.g (h : HP) : Nat → Option AB := fun id => match h.t.get id with
  | some (.b B) => some B
  | _ => none
noncomputable def Opd.evT (fr : FR) : Opd → AV
  | .t n => fr.t.get n
  | .c v => v
noncomputable def FR.put (fr : FR) (d : Option Nat) (v : AV) : FR :=
  match d with
  | some d => match Nat.blt d fr.n with
    | true => ⟨fr.n, fr.t.set d v⟩
    | false => fr
  | none => fr
noncomputable def FR.full (n : Nat) : FR := ⟨n, FT.full (Nat.succ (Nat.log2 n))⟩
abbrev RunT := Job → FR → HP → Option (AV × HP)
noncomputable def argsT (l : List AV) : Nat → FR → FR := List.rec (motive := fun _ => Nat → FR → FR) (fun _ t => t) (fun a _ ih n t => ih (Nat.succ n) (t.put (some n) a)) l
noncomputable def psT (ps : List Nat) : List AV → FR → FR := List.rec (motive := fun _ => List AV → FR → FR) (fun _ t => t) (fun p _ ih as t => match as with | [] => t | a :: as => ih as (t.put (some p) a)) ps
noncomputable def appR (h : HP) (r : Option (AV × HE)) : Option (AV × HP) :=
  match r with
  | some (v, e) => match h.app e with
    | some h' => some (v, h')
    | none => none
  | none => none
/-- What a number of a function stands for: its code, or (a function whose contract comes from elsewhere) what it does. -/
inductive TC where
  | cf (c : CF)
  | nv (f : List AV → GT → Nat → Option (AV × HE))
abbrev TB := Nat → Option TC
noncomputable def TC.call (E : RunT) (c : TC) (args : List AV) (h : HP) : Option (AV × HP) :=
  TC.rec (motive := fun _ => Option (AV × HP)) (fun cf => match Nat.ble args.length cf.ntmps with
    | true => E (.fn cf) (argsT args 0 (FR.full cf.ntmps)) h
    | false => none) (fun f => appR h (f args h.g h.len)) c
noncomputable def callT (T : TB) (E : RunT) (f : AV) (args : List AV) (h : HP) : Option (AV × HP) :=
  match f with
  | .f (.func g) fst cap => match T g with
    | some c => c.call E (fst ++ args ++ cap) h
    | none => none
  | .y id => match h.t.get id with
    | some (.lp _ _ fr0 ps asg bd) => match Nat.beq ps.length args.length with
      | true => E (.rd id asg bd) (psT ps args fr0) h
      | false => none
    | _ => none
  | _ => none
def CO.isCall : CO → Option (Opd × List Opd)
  | .call f args => some (f, args)
  | _ => none
noncomputable def opT (T : TB) (E : RunT) (fr : FR) (h : HP) (op : CO) : Option (AV × HP) :=
  match op.isCall with
  | some (f, args) => callT T E (Opd.evT fr f) (args.map (Opd.evT fr)) h
  | none => appR h (opE op (Opd.evT fr) h.g h.len)
noncomputable def guardT (fr : FR) : Option (Nat × Bool) → Option Bool
  | none => some true
  | some (t, w) => match fr.t.get t with
    | .b x => some (x == w)
    | .top => none
    | _ => some false
abbrev OutR := Option (FR × HP)
noncomputable def regRunT (T : TB) (E : RunT) (o : COper) (ih : FR → HP → OutR) (fr : FR) (h : HP) : OutR :=
  match opT T E fr h o.op with
  | none => none
  | some (v, h') => ih (fr.put o.dst v) h'
noncomputable def regStepT (T : TB) (E : RunT) (o : COper) (ih : FR → HP → OutR) (fr : FR) (h : HP) : OutR :=
  match guardT fr o.guard with
  | none => none
  | some b => match b with
    | true => regRunT T E o ih fr h
    | false => ih (fr.put o.dst (.tu [])) h
noncomputable def runRegT (T : TB) (E : RunT) (l : List COper) : FR → HP → OutR :=
  List.rec (motive := fun _ => FR → HP → OutR) (fun fr h => some (fr, h)) (fun o _ ih => regStepT T E o ih) l
/-- Under a mask. -/
def HB.freeze : HB → Option HB
  | .b B => match B with
    | .blk fl _ xs => some (.b (.blk fl false xs))
    | _ => none
  | .lp _ _ _ _ _ _ => none
noncomputable def maskW (h : HT) (ws : List Nat) (t : HT) : HT := List.rec (motive := fun _ => HT → HT) (fun t => t) (fun id _ ih t => ih (t.set id (h.get id))) ws t
noncomputable def maskR (h : HT) (rs : List Nat) (t : HT) : HT := List.rec (motive := fun _ => HT → HT) (fun t => t) (fun id _ ih t => ih (t.set id ((h.get id).bind HB.freeze))) rs t
noncomputable def maskT (h : HP) (rs ws : List Nat) : HP := ⟨h.len, maskW h.t ws (maskR h.t rs (HT.full 14))⟩
/-- The numbers from lo on, n of them. -/
noncomputable def mergeN (g : HT) (lo n : Nat) (t : HT) : HT := Nat.rec (motive := fun _ => HT → HT) (fun t => t) (fun k ih t => ih (match g.get (Nat.add lo k) with | some B => t.set (Nat.add lo k) (some B) | none => t)) n t
noncomputable def mergeW (g : HT) (ws : List Nat) (t : HT) : HT := List.rec (motive := fun _ => HT → HT) (fun t => t) (fun id _ ih t => ih (t.set id (g.get id))) ws t
noncomputable def mergeT (ws : List Nat) (g : HP) (h : HP) : HP := ⟨g.len, mergeN g.t h.len (Nat.sub g.len h.len) (mergeW g.t ws h.t)⟩
noncomputable def okT (q : Nat → Bool) (n : Nat) (t : FT) : Bool := Nat.rec (motive := fun _ => Bool) true (fun k ih => match okV q (t.get k) with | true => ih | false => false) n
noncomputable def HB.ok (q : Nat → Bool) : Option HB → Bool
  | some (.b B) => B.ok q
  | some (.lp _ _ fr _ _ _) => okT q fr.n fr.t
  | none => true
noncomputable def allN (p : Nat → Bool) (lo n : Nat) : Bool := Nat.rec (motive := fun _ => Bool) true (fun k ih => match p (Nat.add lo k) with | true => ih | false => false) n
noncomputable def idsT (n : Nat) (t : FT) : List Nat := Nat.rec (motive := fun _ => List Nat) [] (fun k ih => (t.get k).ids ++ ih) n
noncomputable def blkIdsT (h : HT) (id : Nat) : List Nat :=
  match h.get id with
  | some (.b (.blk false _ xs)) => idsL xs
  | some (.lp _ _ fr _ _ _) => idsT fr.n fr.t
  | _ => []
noncomputable def reachT (h : HT) (n : Nat) : List Nat → List Nat → List Nat := Nat.rec (motive := fun _ => List Nat → List Nat → List Nat) (fun _ seen => seen)
  (fun _ ih todo seen => match todo with
    | [] => seen
    | id :: todo => match memN id seen with
      | true => ih todo seen
      | false => ih (blkIdsT h id ++ todo) (id :: seen)) n
noncomputable def usOkT (lo : Nat) (fr : FR) (l : List Nat) : Bool := l.all fun t => okV (okIn lo) (fr.t.get t)
noncomputable def attT (T : TB) (E : RunT) (len0 k : Nat) (anc : Nat) (past : List Pt) (fr : FR) (h : HP) (op : CO) (rs ws : List Nat) : Option (AV × HP × List Pt) :=
  match usOkT h.len fr op.tmps && ((rs ++ ws).all fun id => match h.t.get id with | some B => HB.ok (okIn h.len) (some B) | none => false) && past.all (indepP anc rs ws) with
  | false => none
  | true =>
    match opT T E fr (maskT h rs ws) op with
    | none => none
    | some (v, G) =>
      match okV (qOk len0 h.len G.len anc past) v && Nat.ble h.len G.len && (ws.all fun id => HB.ok (qOk len0 h.len G.len anc past) (G.t.get id)) && allN (fun id => HB.ok (qOk len0 h.len G.len anc past) (G.t.get id)) h.len (Nat.sub G.len h.len) with
      | true => some (v, mergeT ws G h, ⟨k, h.len, G.len, rs, ws⟩ :: past)
      | false => none
noncomputable def attCT (T : TB) (E : RunT) (len0 k : Nat) (anc : Nat) (past : List Pt) (fr : FR) (h : HP) (op : CO) (R : List Nat) : Option (AV × HP × List Pt) :=
  match attT T E len0 k anc past fr h op R [] with
  | some x => some x
  | none => attT T E len0 k anc past fr h op [] R
noncomputable def attFT (len0 : Nat) (anc : Nat) (past : List Pt) (fr : FR) (h : HP) (op : CO) : Option (AV × HP × List Pt) :=
  match opE op (Opd.evT fr) h.g h.len with
  | some (v, .z) => match okV (qOk len0 0 0 anc past) v with
    | true => some (v, h, past)
    | false => none
  | _ => none
noncomputable def attLT (len0 k : Nat) (anc : Nat) (past : List Pt) (fr : FR) (h : HP) (op : CO) (rs : List Nat) : Option (AV × HP × List Pt) :=
  match past.all (indepP anc rs []) with
  | true =>
    match opE op (Opd.evT fr) h.g h.len with
    | some (v, .z) => match okV (qOk len0 0 0 anc past) v with
      | true => some (v, h, ⟨k, 0, 0, rs, []⟩ :: past)
      | false => none
    | _ => none
  | false => none
noncomputable def attOT (T : TB) (E : RunT) (len0 k : Nat) (anc : Nat) (past : List Pt) (fr : FR) (h : HP) (op : CO) : Option (AV × HP × List Pt) :=
  match op.mk with
  | .free => attFT len0 anc past fr h op
  | .ld x => attLT len0 k anc past fr h op (idOf (Opd.evT fr x))
  | .call f args => attCT T E len0 k anc past fr h op (reachT h.t 10000 ((Opd.evT fr f).ids ++ idsL (args.map (Opd.evT fr))) [])
  | .mem => attT T E len0 k anc past fr h op (foot (Opd.evT fr) op).1 (foot (Opd.evT fr) op).2
abbrev OutDT := Nat → List Pt → FR → HP → OutR
noncomputable def drawRunT (T : TB) (E : RunT) (len0 : Nat) (d : DOp) (ih : OutDT) (k : Nat) (past : List Pt) (fr : FR) (h : HP) : OutR :=
  match attOT T E len0 k d.anc past fr h d.o.op with
  | none => none
  | some (v, h', past') => ih (Nat.succ k) past' (fr.put d.o.dst v) h'
noncomputable def drawStepT (T : TB) (E : RunT) (len0 : Nat) (d : DOp) (ih : OutDT) (k : Nat) (past : List Pt) (fr : FR) (h : HP) : OutR :=
  match guardT fr d.o.guard with
  | none => none
  | some b => match b with
    | true => drawRunT T E len0 d ih k past fr h
    | false => ih (Nat.succ k) past (fr.put d.o.dst (.tu [])) h
noncomputable def drawnT (T : TB) (E : RunT) (len0 : Nat) (l : List DOp) : OutDT :=
  List.rec (motive := fun _ => OutDT) (fun _ _ fr h => some (fr, h)) (fun d _ ih => drawStepT T E len0 d ih) l
abbrev OutT := Option (XE × FR × HP)
def outT (r : OutR) : OutT :=
  match r with
  | some (fr, h) => some (.n, fr, h)
  | none => none
noncomputable def eSeqT (ia ib : FR → HP → OutT) (fr : FR) (h : HP) : OutT :=
  match ia fr h with
  | none => none
  | some (x, fr', h') => match x with
    | .n => ib fr' h'
    | .x id => some (.x id, fr', h')
    | .r => some (.r, fr', h')
noncomputable def eCondT (q : Opd) (ia ib : FR → HP → OutT) (fr : FR) (h : HP) : OutT :=
  match q.evT fr with
  | .b t => match t with
    | true => ia fr h
    | false => ib fr h
  | _ => none
noncomputable def eBlockT (id : Nat) (ia : FR → HP → OutT) (fr : FR) (h : HP) : OutT :=
  match ia fr h with
  | none => none
  | some (x, fr', h') => match x with
    | .n => some (.n, fr', h')
    | .x id' => match Nat.beq id id' with | true => some (.n, fr', h') | false => some (.x id', fr', h')
    | .r => some (.r, fr', h')
noncomputable def eLoopT (ia : FR → HP → OutT) (n : Nat) : FR → HP → OutT :=
  Nat.rec (motive := fun _ => FR → HP → OutT) (fun _ _ => none) (fun _ ih fr h => match ia fr h with
    | none => none
    | some (x, fr', h') => match x with
      | .n => ih fr' h'
      | .x id => some (.x id, fr', h')
      | .r => some (.r, fr', h')) n
noncomputable def TB.cfs (T : TB) : TB := fun g => match T g with
  | some c => TC.rec (motive := fun _ => Option TC) (fun cf => some (.cf cf)) (fun _ => none) c
  | none => none
noncomputable def eRfT (T : TB) (E : RunT) (q : Opd) (ps : List Nat) (asg bd : CC) (fr : FR) (h : HP) : OutT :=
  match q.evT fr with
  | .f f fst cap => match h.push (some (.lp .ready .n fr ps asg bd)) with
    | none => none
    | some h1 => match callT T.cfs E (.f f fst cap) [AV.y h.len] h1 with
      | none => none
      | some (_, h2) => match h2.t.get h.len with
        | some (.lp st pd _ _ _ _) => match st with
          | .busy => none
          | _ => some (pd, fr, ⟨h2.len, h2.t.set h.len none⟩)
        | _ => none
  | _ => none
noncomputable def evCT (T : TB) (E : RunT) (rd : Bool) (c : CC) : FR → HP → OutT :=
  CC.rec (motive := fun _ => FR → HP → OutT) (fun fr h => some (.n, fr, h)) (fun _ ops fr h => outT (runRegT T E ops fr h)) (fun _ ops fr h => outT (drawnT T E h.len ops 0 [] fr h))
    (fun _ _ ia ib fr h => eSeqT ia ib fr h) (fun q _ _ ia ib fr h => eCondT q ia ib fr h) (fun id _ ia fr h => eBlockT id ia fr h) (fun _ ia fr h => eLoopT ia 100000 fr h) (fun _ ia fr h => ia fr h)
    (fun id fr h => some (.x id, fr, h)) (fun fr h => some (.r, fr, h)) (fun _ _ => none) (fun q ps a b _ _ fr h => match rd with | true => none | false => eRfT T E q ps a b fr h) c
noncomputable def resOneT (fr : FR) (h : HP) : RC → Option AV
  | .t n => some (fr.t.get n)
  | .cell n sz => ldG h.g sz (fr.t.get n)
noncomputable def resAllT (fr : FR) (h : HP) : List RC → Option (List AV)
  | [] => some []
  | r :: rs => (resOneT fr h r).bind fun a => (resAllT fr h rs).map (a :: ·)
noncomputable def resT (fr : FR) (h : HP) (rs : List RC) : Option AV :=
  (resAllT fr h rs).map fun
    | [a] => a
    | l => .tu l
noncomputable def finT (cf : CF) (r : OutT) : Option (AV × HP) :=
  match r with
  | none => none
  | some (x, fr, h) => match x with
    | .x _ => none
    | .n => match resT fr h cf.res with
      | some v => some (v, h)
      | none => none
    | .r => match resT fr h cf.res with
      | some v => some (v, h)
      | none => none
noncomputable def rdFinT (id : Nat) (r : OutT) : Option (AV × HP) :=
  match r with
  | none => none
  | some (x, _, h) => match h.t.get id with
    | some (.lp _ _ fr0 ps asg bd) => match x with
      | .n => some (.b true, ⟨h.len, h.t.set id (some (.lp .ready .n fr0 ps asg bd))⟩)
      | .x k => some (.b false, ⟨h.len, h.t.set id (some (.lp .done (.x k) fr0 ps asg bd))⟩)
      | .r => some (.b false, ⟨h.len, h.t.set id (some (.lp .done .r fr0 ps asg bd))⟩)
    | _ => none
noncomputable def rdRunT (T : TB) (E : RunT) (id : Nat) (asg bd : CC) (fr : FR) (h : HP) : Option (AV × HP) :=
  match evCT T E true asg fr h with
  | some (.n, fr1, h1) => match h1.t.get id with
    | some (.lp .ready pd fr0 ps a b) => rdFinT id (evCT T E true bd fr1 ⟨h1.len, h1.t.set id (some (.lp .busy pd fr0 ps a b))⟩)
    | _ => none
  | _ => none
noncomputable def evTF (T : TB) (n : Nat) : RunT :=
  Nat.rec (motive := fun _ => RunT) (fun _ _ _ => none) (fun _ ih j fr h => match j with
    | .fn cf => finT cf (evCT T ih false cf.body fr h)
    | .rd id asg bd => rdRunT T ih id asg bd fr h) n
def isTT : Option (AV × HP) → Bool
  | some (.b true, _) => true
  | _ => false
noncomputable def runT (T : TB) (n : Nat) (cf : CF) : Bool := isTT (evTF T n (.fn cf) (FR.full cf.ntmps) ⟨0, HT.full 14⟩)
end Go.Proofs.Ytbcpcjofkfgjoaa
