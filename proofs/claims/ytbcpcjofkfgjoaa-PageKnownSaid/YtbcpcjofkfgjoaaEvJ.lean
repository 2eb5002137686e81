/- From the model's operations to those of the abstract machine. -/
import Derived.Test.YtbcpcjofkfgjoaaEvIb
namespace Go.Proofs.Ytbcpcjofkfgjoaa
open Go.RowKit

def absS : Value → Option AV
  | .bool b => some (.b b)
  | .int k n => some (.i k n)
  | .string s => some (.s s.data.toList)
  | .pointer none => some .np
  | .slice none 0 0 => some .ns
  | .nilFunc => some .nf
  | .nilIface => some .ni
  | _ => none
def absL : List Value → Option (List AV)
  | [] => some []
  | v :: vs => (absS v).bind fun a => (absL vs).map (a :: ·)
def absV : Value → Option AV
  | .agg cs => (absL cs.toList).map .ag
  | .tuple cs => (absL cs.toList).map .tu
  | v => absS v
theorem absS_ok (ρ : Mp) {v : Value} {a : AV} (h : absS v = some a) : VR ρ a v := by
  cases v with
  | bool b => cases h; exact .b b
  | int k n => cases h; exact .i k n
  | string s => cases h; exact .s _ _ rfl
  | pointer p => cases p <;> cases h; exact .np
  | slice a n c =>
    cases a with
    | none =>
      cases n <;> cases c <;> simp [absS] at h
      subst h
      exact .ns
    | some _ => cases h
  | nilFunc => cases h; exact .nf
  | nilIface => cases h; exact .ni
  | _ => cases h
theorem absL_ok (ρ : Mp) : ∀ {l : List Value} {as : List AV}, absL l = some as → VL ρ as l.toArray
  | [], as, h => by cases h; exact VL.nil ρ
  | v :: vs, as, h => by
    simp only [absL] at h
    obtain ⟨a, ha, h⟩ := Option.bind_eq_some_iff.1 h
    obtain ⟨bs, hb, rfl⟩ := Option.map_eq_some_iff.1 h
    exact VL.cons (absS_ok ρ ha) (absL_ok ρ hb)
theorem absA_ok (ρ : Mp) {cs : Array Value} {as : List AV} (h : absL cs.toList = some as) : VL ρ as cs := by
  have := absL_ok ρ h
  simpa using this
theorem absV_ok (ρ : Mp) {v : Value} {a : AV} (h : absV v = some a) : VR ρ a v := by
  cases v with
  | agg cs =>
    obtain ⟨as, h2, rfl⟩ := Option.map_eq_some_iff.1 h
    exact vl_agg (absA_ok ρ h2)
  | tuple cs =>
    obtain ⟨as, h2, rfl⟩ := Option.map_eq_some_iff.1 h
    have := absA_ok ρ h2
    exact .tu _ _ this.1 this.2
  | _ => exact absS_ok ρ h
def cOpd : Operand → Option Opd
  | .tmp t => some (.t t)
  | .const v => (absV v).map .c
  | .func f => some (.c (.f (.func f) [] []))
  | .global _ => none
def cOpdO : Option Operand → Option (Option Opd)
  | none => some none
  | some x => (cOpd x).map some
def cOpds : List Operand → Option (List Opd)
  | [] => some []
  | x :: xs => (cOpd x).bind fun y => (cOpds xs).map (y :: ·)
def szOf (P : Program) (t : TypeId) : Option Nat := (P.info? t).map (·.size)
/-- A flat type: its zero holds no address. -/
def scal : AV → Bool
  | .b _ | .i _ _ | .s _ => true
  | _ => false
/-- A type's zero, cell by cell. -/
def zcells (P : Program) (t : TypeId) : Option (List AV) := (P.info? t).bind fun i => i.zero.bind fun z => absL z.cells.toList
def agN (P : Program) (t : TypeId) : Option (Option Nat) := (P.underlying t).bind fun d => (P.info? t).map fun i => if isAg d then some i.size else none
def isConstO : Operand → Bool
  | .const _ => true
  | _ => false
def isNilO : Operand → Option TypeDesc → Bool
  | .const (.slice none 0 0), some (.slice _) => true
  | .const (.pointer none), some (.pointer _) => true
  | .const .nilFunc, some (.func ..) => true
  | .const .nilIface, some (.interface _) => true
  | _, _ => false
def cBin (P : Program) (op : BinOp) (t : TypeId) (x y : Operand) : Option CO :=
  (cOpd x).bind fun a => (cOpd y).bind fun b =>
  if op = .eql ∨ op = .neq then
    match P.underlying t with
    | some (.int _) | some .string => some (.bin op a b)
    | some .bool => some (.eqb (op == .neq) a b)
    | some (.struct _) | some (.array _ _) => if P.eqGuardType P.depth t = false then (ckOf P 20 t).map fun ks => .eqc ks (op == .neq) a b else none
    | d => if isNilO x d || isNilO y d then some (.eqn (op == .neq) a b) else none
  else some (.bin op a b)
def cConv (P : Program) (src dst : TypeId) (x : Operand) : Option CO :=
  (cOpd x).bind fun a =>
  match P.underlying src, P.underlying dst with
  | some (.int _), some (.int k) => some (.cvi k a)
  | some .string, some .string => some (.cvs a)
  | some (.slice e), some .string => match P.underlying e with
    | some (.int .u8) => some (.b2s a)
    | _ => none
  | some .string, some (.slice e) => match P.underlying e with
    | some (.int .u8) => some (.s2b a)
    | _ => none
  | some (.slice _), some (.slice e) => if src = dst then match P.underlying e with
    | some (.int .u8) => some (.s2s a)
    | _ => none
    else none
  | _, _ => none
def cField (P : Program) (s : TypeId) (f : Nat) : Option (Nat × Option Nat × Nat) :=
  match P.underlying s with
  | some (.struct fs) => (fs[f]?).bind fun fd => (agN P fd.type).bind fun n => (szOf P fd.type).map fun k => (fd.offset, n, k)
  | _ => none
def partsS (P : Program) (fs : List Field) : Option (List (Nat × Nat)) :=
  match fs with
  | [] => some []
  | f :: fs => (szOf P f.type).bind fun n => (partsS P fs).map ((f.offset, n) :: ·)
def cParts (place : Nat → Option (Nat × Nat)) : List (Nat × Operand) → Option (List (Nat × Nat × Opd))
  | [] => some []
  | (i, x) :: ps => (place i).bind fun q => (cOpd x).bind fun a => (cParts place ps).map ((q.1, q.2, a) :: ·)
def compB (P : Program) : Builtin → List Operand → List TypeId → Option CO
  | .len, [x], [t] => (cOpd x).bind fun a => match P.underlying t with
    | some .string => some (.len true a)
    | some (.slice _) => some (.len false a)
    | some (.array n _) => some (.lnc n)
    | _ => none
  | .max, [x, y], _ => (cOpd x).bind fun a => (cOpd y).map fun b => .mm true a b
  | .min, [x, y], _ => (cOpd x).bind fun a => (cOpd y).map fun b => .mm false a b
  | .append, [x, y], [t, tx] => (cOpd x).bind fun a => (cOpd y).bind fun b => match P.underlying t, P.underlying tx with
    | some (.slice e), some (.slice _) => (P.info? e).bind fun ie => (zcells P e).bind fun zs => if zs.length = ie.size then some (.app false (zs.all scal) ie.size ie.bytes a b) else none
    | some (.slice e), some .string => (P.info? e).bind fun ie => (zcells P e).bind fun zs => if zs.length = ie.size then some (.app true (zs.all scal) ie.size ie.bytes a b) else none
    | some (.slice e), some (.int _) => (P.info? e).bind fun ie => (zcells P e).bind fun zs => if zs.length = ie.size ∧ ie.size ≠ 0 then some (.apz (zs.all scal) zs ie.bytes a b) else none
    | _, _ => none
  | .copy, [x, y], [t, tx] => (cOpd x).bind fun a => (cOpd y).bind fun b => match P.underlying t, P.underlying tx with
    | some (.slice e), some (.slice _) => (szOf P e).map fun n => .cpy false n a b
    | some (.slice e), some .string => (szOf P e).map fun n => .cpy true n a b
    | _, _ => none
  | .cap, [x], [t] => (cOpd x).bind fun a => match P.underlying t with
    | some (.slice _) => some (.capo a)
    | _ => none
  | .clear, [x], [t] => (cOpd x).bind fun a => match P.underlying t with
    | some (.slice e) => (P.info? e).bind fun ie => (zcells P e).bind fun zs => if zs.length = ie.size ∧ ie.size ≠ 0 then some (.clr zs a) else none
    | _ => none
  | _, _, _ => none
/-- Is it the library's entry that compares bytes? -/
def isCmp (P : Program) : Operand → Bool
  | .func g => match P.funcs[g]? with
    | some fn => (fn.name == "internal/bytealg.Compare" || fn.name == "internal/bytealg.abigen_runtime_cmpstring") && fn.origin == "" && fn.body.isNone
    | none => false
  | _ => false
/-- Is it the library's entry that looks for a byte in a string? -/
def isBix (P : Program) : Operand → Bool
  | .func g => match P.funcs[g]? with
    | some fn => fn.name == "internal/bytealg.IndexByteString" && fn.origin == "" && fn.body.isNone
    | none => false
  | _ => false
def compBix : List Operand → Option CO
  | [x, y] => (cOpd x).bind fun a => (cOpd y).map fun b => .bix a b
  | _ => none
def compCall (P : Program) (c : Call) : Option CO :=
  match c.callee with
  | .builtin b => compB P b c.args.toList c.argTypes.toList
  | .value f => match isCmp P f, c.args.toList with
    | true, [x, y] => (cOpd x).bind fun a => (cOpd y).map fun b => .bcmp a b
    | _, l => if isBix P f = true then compBix l else (cOpd f).bind fun a => (cOpds l).map fun l => .call a l
  | .invoke _ _ => none
def compOp (P : Program) : Op → Option CO
  | .move x | .assign x => (cOpd x).map .mv
  | .pick c a b => (cOpd c).bind fun c => (cOpd a).bind fun a => (cOpd b).map fun b => .pick c a b
  | .alloc e => (zcells P e).map fun zs => .new (zs.all scal) zs
  | .box e x => (cOpd x).bind fun a => (zcells P e).map fun zs => .box (zs.all scal) zs.length a
  | .build t ps => (zcells P t).bind fun zs => match P.underlying t with
    | some (.struct fs) => (partsS P fs.toList).bind fun pl => (cParts (pl[·]?) ps.toList).map fun q => .bld zs q
    | some (.array _ e) => (szOf P e).bind fun n => (cParts (fun k => some (k * n, n)) ps.toList).map fun q => .bld zs q
    | _ => none
  | .buildSlice t len ps => match P.underlying t with
    | some (.slice e) => (P.info? e).bind fun ie => ie.zero.bind fun z =>
        (absL (((Array.range (len * ie.size)).map (z.cells[· % z.cells.size]!)).toList)).bind fun zs => (zcells P e).bind fun ze =>
        if len * ie.size ≤ 2 ^ 24 ∧ len ≤ maxLen then (cParts (fun k => some (k * ie.size, ie.size)) ps.toList).map fun q => .bls (ze.all scal) len zs q else none
    | _ => none
  | .load t x => (cOpd x).bind fun a => (agN P t).map fun n => .ld n a
  | .store t x y => (cOpd x).bind fun a => (cOpd y).bind fun b => (agN P t).bind fun n => if n = none → szOf P t = some 1 then some (.st n a b) else none
  | .nilCheck x => (cOpd x).map .nck
  | .binOp op t x y _ => cBin P op t x y
  | .unOp op _ x => (cOpd x).map (.un op)
  | .convert src dst x => cConv P src dst x
  | .makeInterface t x => (cOpd x).bind fun a => match P.underlying t with
    | none | some (.interface _) => none
    | _ => some (.ifc t a)
  | .makeFunc fn first cap => (cOpds first.toList).bind fun a => (cOpds cap.toList).map fun b => .mkf fn a b
  | .makeSlice t l c => (cOpd l).bind fun a => (cOpd c).bind fun b => match P.underlying t with
    | some (.slice e) => (P.info? e).bind fun ie => (zcells P e).bind fun zs => if zs.length = ie.size ∧ ie.size ≠ 0 then some (.mks (zs.all scal) zs ie.bytes a b) else none
    | _ => none
  | .slice t x lo hi mx => (cOpd x).bind fun a => (cOpdO lo).bind fun lo => (cOpdO hi).bind fun hi => (cOpdO mx).bind fun mx => match P.underlying t with
    | some .string => if mx.isNone then some (.sls a lo hi) else none
    | some (.slice e) => (szOf P e).map fun n => .sll n a lo hi mx
    | some (.array k e) => if k ≤ maxLen then (szOf P e).map fun n => .sla k n a lo hi mx else none
    | _ => none
  | .fieldAddr s x f => (cOpd x).bind fun a => (cField P s f).bind fun (off, _, k) => if k ≠ 0 then some (.fad off a) else none
  | .field s x f => (cOpd x).bind fun a => (cField P s f).map fun (off, n, _) => .fld off n a
  | .indexAddr t x i => (cOpd x).bind fun a => (cOpd i).bind fun b => match P.underlying t with
    | some (.slice e) => (szOf P e).map fun n => .iad n a b
    | some (.array k e) => (szOf P e).map fun n => .iaa k n a b
    | _ => none
  | .index t x i => (cOpd x).bind fun a => (cOpd i).bind fun b => match P.underlying t with
    | some .string => some (.ixs a b)
    | some (.array k e) => (szOf P e).bind fun n => (agN P e).map fun g => .ixa k n g.isSome a b
    | _ => none
  | .typeAssert x _ t ok => (cOpd x).bind fun a => ((P.info? t).bind (·.zero)).bind fun z => (absV z).bind fun zv => match P.underlying t with
    | none | some (.interface _) => none
    | _ => some (.tas a t ok zv)
  | .extract x i => (cOpd x).map fun a => .ext a i
  | .call c => compCall P c
  | .range t x => (cOpd x).bind fun a => match P.underlying t with
    | some .string => some (.rng a)
    | _ => none
  | .next x b => (cOpd x).bind fun a => if b = true then some (.nxt a) else none
  | _ => none
/-- What is not covered stops the abstract machine. -/
def compOpS (P : Program) (o : Op) : Option CO :=
  match o with
  | .defer _ => none
  | _ => some ((compOp P o).getD .stop)
def compO (P : Program) (ops : Array Oper) (o : Oper) : Option COper :=
  (compOpS P o.op).bind fun op =>
  match o.guard with
  | none => some ⟨o.dst, none, op⟩
  | some (j, want) => ((ops[j]?).bind (·.dst)).map fun t => ⟨o.dst, some (t, want), op⟩
end Go.Proofs.Ytbcpcjofkfgjoaa
