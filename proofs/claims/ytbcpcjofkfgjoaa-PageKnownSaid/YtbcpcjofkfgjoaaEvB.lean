/- The operations of the abstract machine. -/
import Derived.Test.YtbcpcjofkfgjoaaEvA
namespace Go.Proofs.Ytbcpcjofkfgjoaa

def AV.int? : AV → Option Int
  | .i _ n => some n
  | _ => none
/-- One cell that holds no address, and is known. -/
def AV.flat : AV → Bool
  | .b _ | .i _ _ | .s _ | .np | .ns | .nf | .ni => true
  | _ => false
/-- One cell, known. -/
def AV.one : AV → Bool
  | .ag _ | .tu _ | .top => false
  | _ => true
def AV.cells : AV → List AV
  | .ag l => l
  | v => [v]
def AV.known : AV → Bool
  | .top => false
  | _ => true

def binI (op : BinOp) (k : IntKind) (a b : Int) : Option AV :=
  match op with
  | .add => some (.i k (k.wrap (a + b)))
  | .sub => some (.i k (k.wrap (a - b)))
  | .mul => some (.i k (k.wrap (a * b)))
  | .quo => if b = 0 then none else some (.i k (k.wrap (a.tdiv b)))
  | .rem => if b = 0 then none else some (.i k (a.tmod b))
  | .and => some (.i k (k.wrap (BitVec.ofInt k.bits a &&& BitVec.ofInt k.bits b).toNat))
  | .or => some (.i k (k.wrap (BitVec.ofInt k.bits a ||| BitVec.ofInt k.bits b).toNat))
  | .xor => some (.i k (k.wrap (BitVec.ofInt k.bits a ^^^ BitVec.ofInt k.bits b).toNat))
  | .andNot => some (.i k (k.wrap (BitVec.ofInt k.bits a &&& ~~~ BitVec.ofInt k.bits b).toNat))
  | .eql => some (.b (a == b))
  | .neq => some (.b (a != b))
  | .lss => some (.b (a < b))
  | .leq => some (.b (a ≤ b))
  | .gtr => some (.b (a > b))
  | .geq => some (.b (a ≥ b))
  | .shl | .shr => none
def binS (op : BinOp) (x y : List UInt8) : Option AV :=
  match op with
  | .add => if ((x.length + y.length : Nat) : Int) > IntKind.i64.max then none else some (.s (x ++ y))
  | .eql => some (.b (x == y))
  | .neq => some (.b (!(x == y)))
  | .lss => some (.b (Op.bytesLess x y))
  | .leq => some (.b (Op.bytesLess x y || x == y))
  | .gtr => some (.b (!(Op.bytesLess x y || x == y)))
  | .geq => some (.b (!(Op.bytesLess x y)))
  | _ => none
def binV (op : BinOp) : AV → AV → Option AV
  | .i k a, .i k' b => match op with
    | .shl => if b < 0 then none else some (.i k (k.wrap (a * 2 ^ (min b.toNat k.bits))))
    | .shr => if b < 0 then none else some (.i k (a.fdiv (2 ^ (min b.toNat k.bits))))
    | op => if k = k' then binI op k a b else none
  | .s x, .s y => binS op x y
  | _, _ => none
def eqCell : CK → AV → AV → Option Bool
  | .b, .b x, .b y => some (x == y)
  | .i, .i k a, .i k' b => if k = k' then some (a == b) else none
  | .s, .s x, .s y => some (x == y)
  | _, _, _ => none
def eqCells : List CK → List AV → List AV → Option Bool
  | [], [], [] => some true
  | k :: ks, x :: xs, y :: ys => (eqCell k x y).bind fun r => (eqCells ks xs ys).map (r && ·)
  | _, _, _ => none
def eqNil : AV → AV → Option Bool
  | .ns, .ns | .np, .np | .nf, .nf => some true
  | .sl _ _ n _ k, .ns | .ns, .sl _ _ n _ k => if n = 0 ∧ k = some 0 then none else some false
  | .se, .ns | .ns, .se | .p _ _, .np | .np, .p _ _ | .f _ _ _, .nf | .nf, .f _ _ _ | .ifc _ _, .ni | .ni, .ifc _ _ => some false
  | _, _ => none
def unV (op : UnOp) : AV → Option AV
  | .i k n => match op with
    | .neg => some (.i k (k.wrap (0 - n)))
    | .xor => some (.i k (k.wrap (BitVec.ofInt k.bits (if k.signed then -1 else k.max) ^^^ BitVec.ofInt k.bits n).toNat))
    | _ => none
  | .b x => match op with
    | .not => some (.b (!x))
    | _ => none
  | _ => none
/-- What is known of the capacity of a slice behind a cut. -/
def kcut (k : Option Nat) (sz : Nat) : Option Nat :=
  match k with
  | none => none
  | some z => if z = sz then some z else some 0
/-- A bound of a slice expression: none: not given. -/
def bnd (d : Nat) (top : Nat) : Option AV → Option Nat
  | none => some d
  | some (.i _ n) => if 0 ≤ n ∧ n ≤ top then some n.toNat else none
  | some _ => none
def slS (s : List UInt8) (lo hi : Option AV) : Option AV :=
  (bnd s.length s.length hi).bind fun h => (bnd 0 h lo).map fun l => .s ((s.take h).drop l)
def slL (sz : Nat) (x : AV) (lo hi mx : Option AV) : Option AV :=
  match x, mx with
  | .sl id off len cap k, none => (bnd len cap hi).bind fun h => (bnd 0 h lo).map fun l =>
      if l = 0 then .sl id off h cap k
      else if l < cap then .sl id (off + l * sz) (h - l) (cap - l) (kcut k sz)
      else if k = none then .sl id off 0 0 none else .se
  | .sl id off _ cap k, some v => (bnd 0 cap (some v)).bind fun m => (hi.bind fun hv => bnd 0 m (some hv)).bind fun h => (bnd 0 h lo).map fun l =>
      if m = l then (if cap = 0 ∧ k = some 0 then .sl id off 0 0 (some 0) else .sl id off 0 0 none) else .sl id (off + l * sz) (h - l) (m - l) none
  | .ns, none => (bnd 0 0 hi).bind fun h => (bnd 0 h lo).map fun _ => .ns
  | .se, none => (bnd 0 0 hi).bind fun h => (bnd 0 h lo).map fun _ => .se
  | _, _ => none
def slA (n sz : Nat) (x : AV) (lo hi mx : Option AV) : Option AV :=
  match x, mx with
  | .p id off, none => (bnd n n hi).bind fun h => (bnd 0 h lo).map fun l => if n = l then .sl id off (h - l) 0 none else .sl id (off + l * sz) (h - l) (n - l) none
  | _, _ => none
def rdBlk (h : List AB) (id : Nat) : Option (List AV) :=
  match h[id]? with
  | some (.blk _ _ xs) => some xs
  | _ => none
def ldV (h : List AB) : Option Nat → AV → Option AV
  | none, .p id off => (rdBlk h id).bind fun xs => xs[off]?
  | some n, .p id off => (rdBlk h id).bind fun xs => if off + n ≤ xs.length then some (.ag ((xs.drop off).take n)) else none
  | _, _ => none
def wrOk (fl : Bool) (v : AV) : Bool := if fl then v.flat else v.one
/-- Cells laid over a row from a place on. -/
def over (xs : List AV) (off : Nat) (l : List AV) : List AV := xs.take off ++ l ++ xs.drop (off + l.length)
def stB (h : List AB) (id off : Nat) (l : List AV) : Option (List AB) :=
  match h[id]? with
  | some (.blk fl true xs) => if off + l.length ≤ xs.length ∧ l.all (wrOk fl) = true then some (h.set id (.blk fl true (over xs off l))) else none
  | _ => none
def stV (h : List AB) : Option Nat → AV → AV → Option (List AB)
  | none, .p id off, v => if v.one then stB h id off [v] else none
  | some n, .p id off, .ag l => if l.length = n then stB h id off l else none
  | _, _, _ => none
def fillV (ev : Opd → AV) (cells : List AV) : List (Nat × Nat × Opd) → Option (List AV)
  | [] => some cells
  | (off, sz, x) :: rest => if (ev x).cells.length = sz ∧ off + sz ≤ cells.length ∧ (ev x).known = true then fillV ev (over cells off (ev x).cells) rest else none
def newB (h : List AB) (fl : Bool) (cs : List AV) (v : Nat → AV) : Option (AV × List AB) :=
  if cs.all (wrOk fl) = true then some (v h.length, h ++ [.blk fl true cs]) else none
/-- The cells of n elements of a slice, or a string's bytes. -/
def srcV (h : List AB) (sz : Nat) : AV → Option (Nat × List AV)
  | .ns => some (0, [])
  | .se => some (0, [])
  | .s l => if sz = 1 then some (l.length, l.map fun b => .i .u8 b.toNat) else none
  | .sl id off len _ _ => if len = 0 then some (0, []) else (rdBlk h id).bind fun xs => if off + len * sz ≤ xs.length then some (len, (xs.drop off).take (len * sz)) else none
  | _ => none
def appV (h : List AB) (fl : Bool) (sz by_ : Nat) (s x : AV) : Option (AV × List AB) :=
  (srcV h sz x).bind fun (m, ys) =>
    if ys.all (wrOk fl) = true then
      match s with
      | .ns => if m = 0 then some (.ns, h) else if m * by_ ≤ 140737488355328 ∧ m ≤ maxLen then some (.sl h.length 0 m m (some sz), h ++ [.blk fl true ys]) else none
      | .sl id off len cap k =>
        if m = 0 then some (.sl id off len cap k, h)
        else if len + m ≤ cap then (stB h id (off + len * sz) ys).map fun h' => (.sl id off (len + m) cap k, h')
        else match h[id]? with
          | some (.blk fl' mu xs) =>
            if fl' = fl ∧ off + len * sz ≤ xs.length ∧ (len + m) * by_ ≤ 140737488355328 ∧ len + m ≤ maxLen then
              if k = none then some (.sl h.length 0 (len + m) (len + m) (some sz), h ++ [.blk fl true ((xs.drop off).take (len * sz) ++ ys)])
              else if k = some sz ∧ sz ≠ 0 ∧ mu = true ∧ off + len * sz = xs.length then some (.sl h.length 0 (len + m) (len + m) (some sz), h.set id .dead ++ [.blk fl true (xs.drop off ++ ys)])
              else if k = some sz ∧ sz ≠ 0 ∧ mu = true then some (.sl h.length 0 (len + m) (len + m) (some sz), h.set id .dead ++ [.blk fl true ((xs.drop off).take (len * sz) ++ ys)])
              else none
            else none
          | _ => none
      | _ => none
    else none
def cpyV (h : List AB) (sz : Nat) (d s : AV) : Option (AV × List AB) :=
  (srcV h sz s).bind fun (m, ys) =>
    match d with
    | .sl id off len _ _ => if m ≤ len then (stB h id off ys).map fun h' => (.i .i64 m, h') else none
    | _ => none
def bytesOf : List AV → Option (List UInt8)
  | [] => some []
  | .i .u8 n :: rest => (bytesOf rest).map (UInt8.ofNat n.toNat :: ·)
  | _ => none
def mmV (mx : Bool) : AV → AV → Option AV
  | .i k x, .i _ y => some (.i k (if mx then (if y > x then y else x) else (if y < x then y else x)))
  | _, _ => none

def AV.isStr : AV → Bool
  | .s _ => true
  | _ => false
def lenV : AV → Option Int
  | .s l => some l.length
  | .sl _ _ n _ _ => some n
  | .ns | .se => some 0
  | _ => none
def CO.run (ev : Opd → AV) (h : List AB) : CO → Option (AV × List AB)
  | .mv x => some (ev x, h)
  | .pick c a b => match ev c with
    | .b t => some (if t then ev a else ev b, h)
    | _ => none
  | .bin op x y => (binV op (ev x) (ev y)).map (·, h)
  | .eqb neg x y => match ev x, ev y with
    | .b p, .b q => some (.b ((p == q) ^^ neg), h)
    | _, _ => none
  | .eqc ks neg x y => match ev x, ev y with
    | .ag l, .ag l' => (eqCells ks l l').map fun r => (.b (r ^^ neg), h)
    | _, _ => none
  | .eqn neg x y => (eqNil (ev x) (ev y)).map fun r => (.b (r ^^ neg), h)
  | .un op x => (unV op (ev x)).map (·, h)
  | .cvi k x => (ev x).int?.map fun n => (.i k (k.wrap n), h)
  | .cvs x => match ev x with
    | .s l => some (.s l, h)
    | _ => none
  | .fad off x => match ev x with
    | .p id o => some (.p id (o + off), h)
    | _ => none
  | .fld off sz x => match ev x with
    | .ag l => match sz with
      | none => (l[off]?).map (·, h)
      | some n => some (.ag ((l.drop off).take n), h)
    | _ => none
  | .iad sz x i => match ev x, ev i with
    | .sl id off k _ _, .i _ n => if 0 ≤ n ∧ n < k then some (.p id (off + n.toNat * sz), h) else none
    | _, _ => none
  | .iaa k sz x i => match ev x, ev i with
    | .p id off, .i _ n => if 0 ≤ n ∧ n < k then some (.p id (off + n.toNat * sz), h) else none
    | _, _ => none
  | .ixs x i => match ev x, ev i with
    | .s l, .i _ n => if 0 ≤ n then (l[n.toNat]?).map fun b => (.i .u8 b.toNat, h) else none
    | _, _ => none
  | .ixa k sz agg x i => match ev x, ev i with
    | .ag l, .i _ n => if 0 ≤ n ∧ n < k then (if agg then some (.ag ((l.drop (n.toNat * sz)).take sz), h) else (l[n.toNat * sz]?).map (·, h)) else none
    | _, _ => none
  | .sls x lo hi => match ev x with
    | .s l => (slS l (lo.map ev) (hi.map ev)).map (·, h)
    | _ => none
  | .sll sz x lo hi mx => (slL sz (ev x) (lo.map ev) (hi.map ev) (mx.map ev)).map (·, h)
  | .sla n sz x lo hi mx => (slA n sz (ev x) (lo.map ev) (hi.map ev) (mx.map ev)).map (·, h)
  | .ifc t x => some (.ifc t (ev x), h)
  | .mkf fn fst cap => some (.f fn (fst.map ev) (cap.map ev), h)
  | .ext x i => match ev x with
    | .tu l => (l[i]?).map (·, h)
    | _ => none
  | .len str x => if (ev x).isStr = str then (lenV (ev x)).map fun n => (.i .i64 n, h) else none
  | .lnc n => some (.i .i64 n, h)
  | .mm mx x y => (mmV mx (ev x) (ev y)).map (·, h)
  | .nck x => match ev x with
    | .p id off => some (.p id off, h)
    | .f (.func f) fst cap => some (.f (.func f) fst cap, h)
    | .f (.yield l) fst cap => some (.f (.yield l) fst cap, h)
    | .ifc t v => some (.ifc t v, h)
    | _ => none
  | .tas x t ok z => match ev x with
    | .ifc t' v => if t' = t then some (if ok then .tu [v, .b true] else v, h) else if ok then some (.tu [z, .b false], h) else none
    | .ni => if ok then some (.tu [z, .b false], h) else none
    | _ => none
  | .ld n x => (ldV h n (ev x)).map (·, h)
  | .st n x v => (stV h n (ev x) (ev v)).map (.tu [], ·)
  | .new fl zs => newB h fl zs (fun n => .p n 0)
  | .box fl n x => if (ev x).cells.length = n then newB h fl (ev x).cells (fun n => .p n 0) else none
  | .bld zs ps => (fillV ev zs ps).map fun cs => (.ag cs, h)
  | .bls fl k zs ps => (fillV ev zs ps).bind fun cs => newB h fl cs (fun n => .sl n 0 k k none)
  | .mks fl z by_ le ca => match ev le, ev ca with
    | .i _ l, .i _ c => if 0 ≤ l ∧ l ≤ c ∧ (by_ : Int) * c ≤ 2 ^ 47 ∧ c ≤ maxLen then newB h fl ((List.replicate c.toNat z).flatten) (fun n => .sl n 0 l.toNat c.toNat none) else none
    | _, _ => none
  | .app str fl sz by_ s x => if (ev x).isStr = str then appV h fl sz by_ (ev s) (ev x) else none
  | .cpy str sz d s => if (ev s).isStr = str then cpyV h sz (ev d) (ev s) else none
  | .capo x => match ev x with
    | .ns => some (.i .i64 0, h)
    | .sl _ _ _ c none => some (.i .i64 c, h)
    | _ => none
  | .apz fl z by_ s n => match ev s, ev n with
    | .ns, .i _ m => if m = 0 then some (.ns, h) else if 0 < m ∧ m.toNat * by_ ≤ 140737488355328 ∧ m.toNat ≤ maxLen then newB h fl ((List.replicate m.toNat z).flatten) (fun k => .sl k 0 m.toNat m.toNat (some z.length)) else none
    | _, _ => none
  | .stop => none
  | .b2s x => if (ev x).isStr then none else (srcV h 1 (ev x)).bind fun (_, cs) => (bytesOf cs).map fun l => (.s l, h)
  | .clr z x => match ev x with
    | .ns => some (.tu [], h)
    | .se => some (.tu [], h)
    | .sl id off n _ _ => if n = 0 then some (.tu [], h) else (stB h id off ((List.replicate n z).flatten)).map (.tu [], ·)
    | _ => none
  | .bcmp x y => (srcV h 1 (ev x)).bind fun (_, xs) => (srcV h 1 (ev y)).bind fun (_, ys) => (bytesOf xs).bind fun l => (bytesOf ys).map fun m => (.i .i64 (Extern.BytealgCompare.cmp ⟨l.toArray⟩ ⟨m.toArray⟩), h)
  | .s2b x => match ev x with
    | .s l => if l.length ≤ maxLen then some (.sl h.length 0 l.length l.length (some 1), h ++ [.blk true false (l.map fun b => .i .u8 (b.toNat : Int))]) else none
    | _ => none
  | .rng x => match ev x with
    | .s l => some (.p h.length 0, h ++ [.iter ⟨l.toArray⟩ 0])
    | _ => none
  | .nxt x => match ev x with
    | .p id 0 => match h[id]? with
      | some (.iter s pos) => if pos < s.size then some (.tu [.b true, .i .i64 (pos : Int), .i .i32 ((Utf8.decode s pos).1 : Int)], h.set id (.iter s (pos + (Utf8.decode s pos).2))) else some (.tu [.b false], h)
      | _ => none
    | _ => none
  | .s2s x => match ev x with
    | .sl id off n c k => if n = 0 then none else match h[id]? with
      | some (.blk fl true xs) => some (.sl id off n c k, h.set id (.blk fl false xs))
      | _ => none
    | _ => none
  | .bix x y => match ev x, ev y with
    | .s l, .i .u8 n => some (.i .i64 (match (List.range l.length).find? fun i => (⟨l.toArray⟩ : ByteArray)[i]! == UInt8.ofNat n.toNat with | some i => (i : Int) | none => -1), h)
    | _, _ => none
  | .call _ _ => none

/-- An operation of the abstract machine, its guard asked. -/
def put (fr : List AV) (d : Option Nat) (v : AV) : List AV :=
  match d with
  | some d => fr.set d v
  | none => fr
def wants (fr : List AV) : Option (Nat × Bool) → Bool
  | none => true
  | some (t, w) => match fr[t]? with
    | some (.b x) => x == w
    | _ => false
/-- Is it known whether a guarded operation is wanted? -/
def gknown (fr : List AV) : Option (Nat × Bool) → Bool
  | none => true
  | some (t, _) => match fr[t]? with
    | some v => v.known
    | none => true
end Go.Proofs.Ytbcpcjofkfgjoaa
