/- Part 4 of what the laws' proofs rest on. No condition. -/
import Derived.Test.YtnnkfhlmkaobfaaCm3
set_option linter.all false
section
namespace Go.Proofs.Ytnnkfhlmkaobfaa
open Go.RowKit
def absS : Value → Option AV
  | .bool b => some (.b b)
  | .int k n => some (.i k n)
  | .string s => some (.s s.data.toList)
  | .pointer none => some .np
  | .slice none 0 0 => some .ns
  | .nilFunc => some .nf
  | .nilIface => some .ni
  | _ => none
def absL : List Value → Option (List AV)
  | [] => some []
  | v :: vs => (absS v).bind fun a => (absL vs).map (a :: ·)
def absV : Value → Option AV
  | .agg cs => (absL cs.toList).map .ag
  | .tuple cs => (absL cs.toList).map .tu
  | v => absS v
theorem absS_ok (ρ : Mp) {v : Value} {a : AV} (h : absS v = some a) : VR ρ a v := by
  cases v with
  | bool b => cases h; exact .b b
  | int k n => cases h; exact .i k n
  | string s => cases h; exact .s _ _ rfl
  | pointer p => cases p <;> cases h; exact .np
  | slice a n c =>
    cases a with
    | none =>
      cases n <;> cases c <;> simp [absS] at h
      subst h
      exact .ns
    | some _ => cases h
  | nilFunc => cases h; exact .nf
  | nilIface => cases h; exact .ni
  | _ => cases h
theorem absL_ok (ρ : Mp) : ∀ {l : List Value} {az : List AV}, absL l = some az → VL ρ az l.toArray
  | [], az, h => by cases h; exact VL.nil ρ
  | v :: vs, az, h => by
    simp only [absL] at h
    obtain ⟨a, ha, h⟩ := Option.bind_eq_some_iff.1 h
    obtain ⟨bs, hb, rfl⟩ := Option.map_eq_some_iff.1 h
    exact VL.cons (absS_ok ρ ha) (absL_ok ρ hb)
theorem absA_ok (ρ : Mp) {cs : Array Value} {az : List AV} (h : absL cs.toList = some az) : VL ρ az cs := by
  have := absL_ok ρ h
  simpa using this
theorem absV_ok (ρ : Mp) {v : Value} {a : AV} (h : absV v = some a) : VR ρ a v := by
  cases v with
  | agg cs =>
    obtain ⟨az, h2, rfl⟩ := Option.map_eq_some_iff.1 h
    exact vl_agg (absA_ok ρ h2)
  | tuple cs =>
    obtain ⟨az, h2, rfl⟩ := Option.map_eq_some_iff.1 h
    have := absA_ok ρ h2
    exact .tu _ _ this.1 this.2
  | _ => exact absS_ok ρ h
def cOpd : Operand → Option Opd
  | .tmp t => some (.t t)
  | .const v => (absV v).map .c
  | .func f => some (.c (.f (.func f) [] []))
  | .global _ => none
def cOpdO : Option Operand → Option (Option Opd)
  | none => some none
  | some x => (cOpd x).map some
def cOpds : List Operand → Option (List Opd)
  | [] => some []
  | x :: xs => (cOpd x).bind fun y => (cOpds xs).map (y :: ·)
def szOf (P : Program) (t : TypeId) : Option Nat := (P.info? t).map (·.size)
/-- A flat type: its zero holds no address. -/
def scal : AV → Bool
  | .b _ | .i _ _ | .s _ => true
  | _ => false
/-- A type's zero, cell by cell. -/
def zcells (P : Program) (t : TypeId) : Option (List AV) := (P.info? t).bind fun i => i.zero.bind fun z => absL z.cells.toList
def agN (P : Program) (t : TypeId) : Option (Option Nat) := (P.underlying t).bind fun d => (P.info? t).map fun i => if isAg d then some i.size else none
def isConstO : Operand → Bool
  | .const _ => true
  | _ => false
def isNilO : Operand → Option TypeDesc → Bool
  | .const (.slice none 0 0), some (.slice _) => true
  | .const (.pointer none), some (.pointer _) => true
  | .const .nilFunc, some (.func ..) => true
  | .const .nilIface, some (.interface _) => true
  | _, _ => false
def cBin (P : Program) (op : BinOp) (t : TypeId) (x y : Operand) : Option CO :=
  (cOpd x).bind fun a => (cOpd y).bind fun b =>
  if op = .eql ∨ op = .neq then
    match P.underlying t with
    | some (.int _) | some .string => some (.bin op a b)
    | some .bool => some (.eqb (op == .neq) a b)
    | some (.struct _) | some (.array _ _) => if P.eqGuardType P.depth t = false then (ckOf P 20 t).map fun ks => .eqc ks (op == .neq) a b else none
    | d => if isNilO x d || isNilO y d then some (.eqn (op == .neq) a b) else none
  else some (.bin op a b)
def cConv (P : Program) (src dst : TypeId) (x : Operand) : Option CO :=
  (cOpd x).bind fun a =>
  match P.underlying src, P.underlying dst with
  | some (.int _), some (.int k) => some (.cvi k a)
  | some .string, some .string => some (.cvs a)
  | some (.slice e), some .string => match P.underlying e with
    | some (.int .u8) => some (.b2s a)
    | _ => none
  | _, _ => none
def cField (P : Program) (s : TypeId) (f : Nat) : Option (Nat × Option Nat × Nat) :=
  match P.underlying s with
  | some (.struct fs) => (fs[f]?).bind fun fd => (agN P fd.type).bind fun n => (szOf P fd.type).map fun k => (fd.offset, n, k)
  | _ => none
def partsS (P : Program) (fs : List Field) : Option (List (Nat × Nat)) :=
  match fs with
  | [] => some []
  | f :: fs => (szOf P f.type).bind fun n => (partsS P fs).map ((f.offset, n) :: ·)
def cParts (place : Nat → Option (Nat × Nat)) : List (Nat × Operand) → Option (List (Nat × Nat × Opd))
  | [] => some []
  | (i, x) :: ps => (place i).bind fun q => (cOpd x).bind fun a => (cParts place ps).map ((q.1, q.2, a) :: ·)
def compB (P : Program) : Builtin → List Operand → List TypeId → Option CO
  | .len, [x], [t] => (cOpd x).bind fun a => match P.underlying t with
    | some .string => some (.len true a)
    | some (.slice _) => some (.len false a)
    | some (.array n _) => some (.lnc n)
    | _ => none
  | .max, [x, y], _ => (cOpd x).bind fun a => (cOpd y).map fun b => .mm true a b
  | .min, [x, y], _ => (cOpd x).bind fun a => (cOpd y).map fun b => .mm false a b
  | .append, [x, y], [t, tx] => (cOpd x).bind fun a => (cOpd y).bind fun b => match P.underlying t, P.underlying tx with
    | some (.slice e), some (.slice _) => (P.info? e).bind fun ie => (zcells P e).bind fun zs => if zs.length = ie.size then some (.app false (zs.all scal) ie.size ie.bytes a b) else none
    | some (.slice e), some .string => (P.info? e).bind fun ie => (zcells P e).bind fun zs => if zs.length = ie.size then some (.app true (zs.all scal) ie.size ie.bytes a b) else none
    | some (.slice e), some (.int _) => (P.info? e).bind fun ie => (zcells P e).bind fun zs => if zs.length = ie.size ∧ ie.size ≠ 0 then some (.apz (zs.all scal) zs ie.bytes a b) else none
    | _, _ => none
  | .copy, [x, y], [t, tx] => (cOpd x).bind fun a => (cOpd y).bind fun b => match P.underlying t, P.underlying tx with
    | some (.slice e), some (.slice _) => (szOf P e).map fun n => .cpy false n a b
    | some (.slice e), some .string => (szOf P e).map fun n => .cpy true n a b
    | _, _ => none
  | .cap, [x], [t] => (cOpd x).bind fun a => match P.underlying t with
    | some (.slice _) => some (.capo a)
    | _ => none
  | .clear, [x], [t] => (cOpd x).bind fun a => match P.underlying t with
    | some (.slice e) => (P.info? e).bind fun ie => (zcells P e).bind fun zs => if zs.length = ie.size ∧ ie.size ≠ 0 then some (.clr zs a) else none
    | _ => none
  | _, _, _ => none
/-- Is it the library's entry that compares bytes? -/
def isCmp (P : Program) : Operand → Bool
  | .func g => match P.funcs[g]? with
    | some fn => (fn.name == "internal/bytealg.Compare" || fn.name == "internal/bytealg.abigen_runtime_cmpstring") && fn.origin == "" && fn.body.isNone
    | none => false
  | _ => false
def compCall (P : Program) (c : Call) : Option CO :=
  match c.callee with
  | .builtin b => compB P b c.args.toList c.argTypes.toList
  | .value f => match isCmp P f, c.args.toList with
    | true, [x, y] => (cOpd x).bind fun a => (cOpd y).map fun b => .bcmp a b
    | _, l => (cOpd f).bind fun a => (cOpds l).map fun l => .call a l
  | .invoke _ _ => none
def compOp (P : Program) : Op → Option CO
  | .move x | .assign x => (cOpd x).map .mv
  | .pick c a b => (cOpd c).bind fun c => (cOpd a).bind fun a => (cOpd b).map fun b => .pick c a b
  | .alloc e => (zcells P e).map fun zs => .new (zs.all scal) zs
  | .box e x => (cOpd x).bind fun a => (zcells P e).map fun zs => .box (zs.all scal) zs.length a
  | .build t ps => (zcells P t).bind fun zs => match P.underlying t with
    | some (.struct fs) => (partsS P fs.toList).bind fun pl => (cParts (pl[·]?) ps.toList).map fun q => .bld zs q
    | some (.array _ e) => (szOf P e).bind fun n => (cParts (fun k => some (k * n, n)) ps.toList).map fun q => .bld zs q
    | _ => none
  | .buildSlice t len ps => match P.underlying t with
    | some (.slice e) => (P.info? e).bind fun ie => ie.zero.bind fun z =>
        (absL (((Array.range (len * ie.size)).map (z.cells[· % z.cells.size]!)).toList)).bind fun zs => (zcells P e).bind fun ze =>
        if len * ie.size ≤ 2 ^ 24 ∧ len ≤ maxLen then (cParts (fun k => some (k * ie.size, ie.size)) ps.toList).map fun q => .bls (ze.all scal) len zs q else none
    | _ => none
  | .load t x => (cOpd x).bind fun a => (agN P t).map fun n => .ld n a
  | .store t x y => (cOpd x).bind fun a => (cOpd y).bind fun b => (agN P t).bind fun n => if n = none → szOf P t = some 1 then some (.st n a b) else none
  | .nilCheck x => (cOpd x).map .nck
  | .binOp op t x y _ => cBin P op t x y
  | .unOp op _ x => (cOpd x).map (.un op)
  | .convert src dst x => cConv P src dst x
  | .makeInterface t x => (cOpd x).bind fun a => match P.underlying t with
    | none | some (.interface _) => none
    | _ => some (.ifc t a)
  | .makeFunc fn first cap => (cOpds first.toList).bind fun a => (cOpds cap.toList).map fun b => .mkf fn a b
  | .makeSlice t l c => (cOpd l).bind fun a => (cOpd c).bind fun b => match P.underlying t with
    | some (.slice e) => (P.info? e).bind fun ie => (zcells P e).bind fun zs => if zs.length = ie.size ∧ ie.size ≠ 0 then some (.mks (zs.all scal) zs ie.bytes a b) else none
    | _ => none
  | .slice t x lo hi mx => (cOpd x).bind fun a => (cOpdO lo).bind fun lo => (cOpdO hi).bind fun hi => (cOpdO mx).bind fun mx => match P.underlying t with
    | some .string => if mx.isNone then some (.sls a lo hi) else none
    | some (.slice e) => (szOf P e).map fun n => .sll n a lo hi mx
    | some (.array k e) => if k ≤ maxLen then (szOf P e).map fun n => .sla k n a lo hi mx else none
    | _ => none
  | .fieldAddr s x f => (cOpd x).bind fun a => (cField P s f).bind fun (off, _, k) => if k ≠ 0 then some (.fad off a) else none
  | .field s x f => (cOpd x).bind fun a => (cField P s f).map fun (off, n, _) => .fld off n a
  | .indexAddr t x i => (cOpd x).bind fun a => (cOpd i).bind fun b => match P.underlying t with
    | some (.slice e) => (szOf P e).map fun n => .iad n a b
    | some (.array k e) => (szOf P e).map fun n => .iaa k n a b
    | _ => none
  | .index t x i => (cOpd x).bind fun a => (cOpd i).bind fun b => match P.underlying t with
    | some .string => some (.ixs a b)
    | some (.array k e) => (szOf P e).bind fun n => (agN P e).map fun g => .ixa k n g.isSome a b
    | _ => none
  | .typeAssert x _ t ok => (cOpd x).bind fun a => ((P.info? t).bind (·.zero)).bind fun z => (absV z).bind fun zv => match P.underlying t with
    | none | some (.interface _) => none
    | _ => some (.tas a t ok zv)
  | .extract x i => (cOpd x).map fun a => .ext a i
  | .call c => compCall P c
  | _ => none
/-- What is not covered stops the abstract machine. -/
def compOpS (P : Program) (o : Op) : Option CO :=
  match o with
  | .defer _ => none
  | _ => some ((compOp P o).getD .stop)
def compO (P : Program) (ops : Array Oper) (o : Oper) : Option COper :=
  (compOpS P o.op).bind fun op =>
  match o.guard with
  | none => some ⟨o.dst, none, op⟩
  | some (j, want) => ((ops[j]?).bind (·.dst)).map fun t => ⟨o.dst, some (t, want), op⟩
end Go.Proofs.Ytnnkfhlmkaobfaa
end
section
namespace Go.Proofs.Ytnnkfhlmkaobfaa
open Go.RowKit
section
variable {P : Program} {K : Code → CC → Prop}
/-- An operation of the model ends with a value, or with none. -/
def GoodN (K : Code → CC → Prop) (P : Program) (ρ : Mp) (h : List AB) (w : World) (s : Sem Next) (r : AV × List AB) : Prop :=
  ∃ v' w' ρ', (s.run P w = .ok (.value v') w' ∨ s.run P w = .ok .skip w' ∧ v' = undef) ∧ Ext ρ ρ' ∧ Rel K ρ' r.2 w' ∧ VR ρ' r.1 v' ∧ Eff ρ h w ρ' r.2 w'
theorem Good.next {ρ : Mp} {h : List AB} {w : World} {s : Sem Value} {r : AV × List AB} (g : Good K P ρ h w s r) : GoodN K P ρ h w (do let v ← s; pure (.value v)) r :=
  let ⟨v, w', ρ', e, rest⟩ := g
  ⟨v, w', ρ', .inl (by simp [e]), rest⟩
theorem Ans.next {ρ : Mp} {h : List AB} {w : World} {s : Sem Value} {a : AV} (ha : Ans P ρ s a) (hr : Rel K ρ h w) : GoodN K P ρ h w (do let v ← s; pure (.value v)) (a, h) := (ha.good hr).next
/-- The operands, here and there. -/
def EV (ρ : Mp) (f : Operand → Value) (ev : Opd → AV) : Prop := ∀ x y, cOpd x = some y → VR ρ (ev y) (f x)
theorem EV.of {ρ : Mp} {fr : List AV} {a : Act} (h : VL ρ fr a.tmps) : EV ρ a.eval (Opd.ev fr) := fun x y e => by
  cases x with
  | tmp t =>
    cases e
    by_cases ht : t < fr.length
    · have h1 : fr[t]? = some fr[t] := List.getElem?_eq_getElem ht
      obtain ⟨c, hc, hv⟩ := h.get h1
      simpa [Opd.ev, Act.eval, h1, List.getD, Array.getD_eq_getD_getElem?, hc] using hv
    · have h1 : fr[t]? = none := List.getElem?_eq_none (Nat.le_of_not_lt ht)
      have h2 : a.tmps[t]? = none := Array.getElem?_eq_none (by rw [← h.1]; exact Nat.le_of_not_lt ht)
      simpa [Opd.ev, Act.eval, h1, List.getD, Array.getD_eq_getD_getElem?, h2, undef] using VR.tu (ρ := ρ) [] #[] rfl (fun j a c h => by simp at h)
  | const v =>
    obtain ⟨av, h1, rfl⟩ := Option.map_eq_some_iff.1 e
    exact absV_ok ρ h1
  | func f =>
    cases e
    exact .f _ [] [] #[] #[] rfl rfl (fun j a c h => by simp at h) (fun j a c h => by simp at h)
  | global g => cases e
theorem EV.vo {ρ : Mp} {f : Operand → Value} {ev : Opd → AV} (h : EV ρ f ev) {x : Option Operand} {y : Option Opd} (e : cOpdO x = some y) : VO ρ (y.map ev) (x.map f) := by
  cases x with
  | none => cases e; trivial
  | some x =>
    obtain ⟨z, hz, rfl⟩ := Option.map_eq_some_iff.1 e
    exact h x z hz
theorem EV.vl {ρ : Mp} {f : Operand → Value} {ev : Opd → AV} (h : EV ρ f ev) : ∀ {xs : List Operand} {ys : List Opd}, cOpds xs = some ys → VL ρ (ys.map ev) (xs.map f).toArray
  | [], ys, e => by cases e; exact VL.nil ρ
  | x :: xs, ys, e => by
    simp only [cOpds] at e
    obtain ⟨y, hy, e⟩ := Option.bind_eq_some_iff.1 e
    obtain ⟨zs, hz, rfl⟩ := Option.map_eq_some_iff.1 e
    exact VL.cons (h x y hy) (h.vl hz)
theorem EV.parts {ρ : Mp} {f : Operand → Value} {ev : Opd → AV} (h : EV ρ f ev) {place : Nat → Option (Nat × Nat)} : ∀ {ps : List (Nat × Operand)} {q : List (Nat × Nat × Opd)}, cParts place ps = some q → PartsOk ρ place ev q (ps.map fun x => (x.1, f x.2))
  | [], q, e => by cases e; trivial
  | (i, x) :: ps, q, e => by
    simp only [cParts] at e
    obtain ⟨pl, hp, e⟩ := Option.bind_eq_some_iff.1 e
    obtain ⟨a, ha, e⟩ := Option.bind_eq_some_iff.1 e
    obtain ⟨rest, hr, rfl⟩ := Option.map_eq_some_iff.1 e
    exact ⟨hp, h x a ha, h.parts hr⟩
theorem szOf_some {t : TypeId} {n : Nat} (h : szOf P t = some n) : ∃ i, P.info? t = some i ∧ i.size = n := Option.map_eq_some_iff.1 h
theorem agN_some {t : TypeId} {n : Option Nat} (h : agN P t = some n) : ∃ d i, P.underlying t = some d ∧ P.info? t = some i ∧ n = (if isAg d then some i.size else none) := by
  obtain ⟨d, hd, h⟩ := Option.bind_eq_some_iff.1 h
  obtain ⟨i, hi, h⟩ := Option.map_eq_some_iff.1 h
  exact ⟨d, i, hd, hi, h.symm⟩
theorem zcells_some {t : TypeId} {zs : List AV} (h : zcells P t = some zs) : ∃ i z, P.info? t = some i ∧ i.zero = some z ∧ absL z.cells.toList = some zs := by
  obtain ⟨i, hi, h⟩ := Option.bind_eq_some_iff.1 h
  obtain ⟨z, hz, h⟩ := Option.bind_eq_some_iff.1 h
  exact ⟨i, z, hi, hz, h⟩
theorem partsS_ok : ∀ (fs : List Field) (pl : List (Nat × Nat)), partsS P fs = some pl → ∀ w, (fs.mapM fun f => do pure (f.offset, ← sizeOf f.type) : Sem (List (Nat × Nat))).run P w = .ok pl w
  | [], pl, h, w => by
    cases h
    rfl
  | f :: fs, pl, h, w => by
    simp only [partsS] at h
    obtain ⟨n, hn, h⟩ := Option.bind_eq_some_iff.1 h
    obtain ⟨rest, hr, rfl⟩ := Option.map_eq_some_iff.1 h
    obtain ⟨i, hi, rfl⟩ := szOf_some hn
    have ih := partsS_ok fs rest hr w
    simp only [List.mapM_cons, Sem.run_bind, sizeOf, typeInfo, run_program, Result.andThen_ok, hi, Sem.run_pure]
    simp only [sizeOf, typeInfo, bind_pure_comp] at ih
    simp only [bind_pure_comp, ih, Result.andThen_ok]
theorem arr_mapM (fs : Array Field) (g : Field → Sem (Nat × Nat)) (l : List (Nat × Nat)) (w : World) (h : (fs.toList.mapM g).run P w = .ok l w) : (fs.mapM g).run P w = .ok l.toArray w := by
  rw [Array.mapM_eq_mapM_toList]
  simp [h]
theorem bin_ok {ρ : Mp} {h : List AB} {w : World} (hr : Rel K ρ h w) {f : Operand → Value} {fr : List AV} (hev : EV ρ f (Opd.ev fr)) {op : BinOp} {t : TypeId} {x y : Operand} {co : CO} (hc : cBin P op t x y = some co) {r : AV × List AB} (er : co.run (Opd.ev fr) h = some r) :
    GoodN K P ρ h w (do let v ← (do eqGuard op t x y (f x) (f y); binOp op t (f x) (f y)); pure (.value v)) r := by
  unfold cBin at hc
  obtain ⟨a, ha, hc⟩ := Option.bind_eq_some_iff.1 hc
  obtain ⟨b, hb, hc⟩ := Option.bind_eq_some_iff.1 hc
  have va := hev x a ha
  have vb := hev y b hb
  generalize f x = vx at va ⊢
  generalize f y = vy at vb ⊢
  have plain : (.bin op a b : CO).run (Opd.ev fr) h = some r → GoodN K P ρ h w (do let v ← (do eqGuard op t x y vx vy; binOp op t vx vy); pure (.value v)) r := fun er => by
    obtain ⟨v, hv, rfl⟩ := Option.map_eq_some_iff.1 er
    exact (ans_bin op t x y va vb hv).next hr
  split at hc
  · rename_i hop
    have hopn : op = (if (op == .neq) then .neq else .eql) := by rcases hop with rfl | rfl <;> rfl
    split at hc
    · cases hc; exact plain er
    · cases hc; exact plain er
    · rename_i hu
      cases hc
      simp only [CO.run] at er
      split at er
      · rename_i p q hp hq
        cases er
        rw [hp] at va
        rw [hq] at vb
        cases va
        cases vb
        have := (ans_eqb (P := P) (ρ := ρ) (op == .neq) t hu x y p q).next hr
        rcases hop with rfl | rfl <;> exact this
      · cases er
    · rename_i fs hu
      split at hc
      · rename_i hg
        obtain ⟨ks, hk, rfl⟩ := Option.map_eq_some_iff.1 hc
        simp only [CO.run] at er
        split at er
        · rename_i l l' hl hl'
          obtain ⟨q, hq, rfl⟩ := Option.map_eq_some_iff.1 er
          rw [hl] at va
          rw [hl'] at vb
          have := (ans_eqc (P := P) (op == .neq) 20 t hk (by omega) (by rw [hu]; rfl) hg x y va vb hq).next hr
          rcases hop with rfl | rfl <;> exact this
        · cases er
      · cases hc
    · rename_i n e hu
      split at hc
      · rename_i hg
        obtain ⟨ks, hk, rfl⟩ := Option.map_eq_some_iff.1 hc
        simp only [CO.run] at er
        split at er
        · rename_i l l' hl hl'
          obtain ⟨q, hq, rfl⟩ := Option.map_eq_some_iff.1 er
          rw [hl] at va
          rw [hl'] at vb
          have := (ans_eqc (P := P) (op == .neq) 20 t hk (by omega) (by rw [hu]; rfl) hg x y va vb hq).next hr
          rcases hop with rfl | rfl <;> exact this
        · cases er
      · cases hc
    · split at hc
      · rename_i hn
        cases hc
        simp only [CO.run] at er
        obtain ⟨q, hq, rfl⟩ := Option.map_eq_some_iff.1 er
        cases hu : P.underlying t with
        | none =>
          rw [hu] at hn
          cases x <;> cases y <;> simp [isNilO] at hn
        | some d =>
          rw [hu] at hn
          have side : ∀ {X : Operand} {A : Opd}, cOpd X = some A → isNilO X (some d) = true → (∃ v, X = .const v) ∧ nilSide d (Opd.ev fr A) := by
            intro X A hX hN
            unfold isNilO at hN
            split at hN <;> first
              | (rename_i he; cases he; simp [cOpd, absV, absS] at hX; subst hX; exact ⟨⟨_, rfl⟩, rfl⟩)
              | cases hN
          have hcon : (∃ v, x = .const v) ∨ ∃ v, y = .const v := by
            rcases Bool.or_eq_true_iff.1 hn with q | q
            · exact .inl (side ha q).1
            · exact .inr (side hb q).1
          have hside : nilSide d (Opd.ev fr a) ∨ nilSide d (Opd.ev fr b) := by
            rcases Bool.or_eq_true_iff.1 hn with q | q
            · exact .inl (side ha q).2
            · exact .inr (side hb q).2
          have := (ans_eqn (P := P) (op == .neq) t hu x y hcon va vb hq hside).next hr
          rcases hop with rfl | rfl <;> exact this
      · cases hc
  · cases hc; exact plain er
end
end Go.Proofs.Ytnnkfhlmkaobfaa
end
section
namespace Go.Proofs.Ytnnkfhlmkaobfaa
open Go.RowKit
section
variable {P : Program} {K : Code → CC → Prop}
theorem len_ok {ρ : Mp} {h : List AB} {w : World} (hr : Rel K ρ h w) (str : Bool) {t ty : TypeId} {d : TypeDesc} (hu : P.underlying t = some d) (hd : if str then d = .string else ∃ e, d = .slice e) {x : AV} {vx : Value} (hx : VR ρ x vx) {r : AV × List AB} (er : (if x.isStr = str then (lenV x).map fun n => (AV.i .i64 n, h) else none) = some r) : Good K P ρ h w (Builtin.len_ #[t] ty #[vx]) r := by
  split at er
  · rename_i hs
    obtain ⟨n, hn, rfl⟩ := Option.map_eq_some_iff.1 er
    cases str with
    | true =>
      simp only [if_true] at hd
      subst hd
      exact (ans_len (P := P) t ty hu (.inl rfl) hx hn (propext (Iff.intro (fun _ => isStr_iff.1 hs) (fun _ => rfl)))).good hr
    | false =>
      simp only [Bool.false_eq_true, if_false] at hd
      obtain ⟨e, rfl⟩ := hd
      exact (ans_len (P := P) t ty hu (.inr ⟨e, rfl⟩) hx hn (propext (Iff.intro (fun q => by cases q) (fun ⟨l, q⟩ => absurd q (isStr_not hs l))))).good hr
  · cases er
theorem builtin_run {ρ : Mp} {h : List AB} {w : World} (hr : Rel K ρ h w) {f : Operand → Value} {fr : List AV} (hev : EV ρ f (Opd.ev fr)) {b : Builtin} {args : List Operand} {ts : List TypeId} {ty : TypeId} {consts : Array Bool} {co : CO} (hc : compB P b args ts = some co) {r : AV × List AB} (er : co.run (Opd.ev fr) h = some r) : GoodN K P ρ h w (builtin b ts.toArray ty consts (args.map f).toArray) r := by
  unfold compB at hc
  split at hc
  · rename_i x t
    obtain ⟨a, ha, hc⟩ := Option.bind_eq_some_iff.1 hc
    have va := hev x a ha
    split at hc
    · rename_i hu
      cases hc
      exact (len_ok (P := P) hr true hu (by simp) va er).next
    · rename_i e hu
      cases hc
      exact (len_ok (P := P) hr false hu (by simp) va er).next
    · rename_i n e hu
      cases hc
      cases er
      exact ((Ans.mk (P := P) (v := .int .i64 n) (fun w => by simp [Builtin.len_, run_underlying hu, goInt]) (.i _ _)).good hr).next
    · cases hc
  · rename_i ts x y
    obtain ⟨a, ha, hc⟩ := Option.bind_eq_some_iff.1 hc
    obtain ⟨b, hb, rfl⟩ := Option.map_eq_some_iff.1 hc
    obtain ⟨v, hv, rfl⟩ := Option.map_eq_some_iff.1 er
    exact ((ans_mm (P := P) true ts.toArray ty (hev x a ha) (hev y b hb) hv).good hr).next
  · rename_i ts x y
    obtain ⟨a, ha, hc⟩ := Option.bind_eq_some_iff.1 hc
    obtain ⟨b, hb, rfl⟩ := Option.map_eq_some_iff.1 hc
    obtain ⟨v, hv, rfl⟩ := Option.map_eq_some_iff.1 er
    exact ((ans_mm (P := P) false ts.toArray ty (hev x a ha) (hev y b hb) hv).good hr).next
  · rename_i x y t tx
    obtain ⟨a, ha, hc⟩ := Option.bind_eq_some_iff.1 hc
    obtain ⟨b, hb, hc⟩ := Option.bind_eq_some_iff.1 hc
    have gen : ∀ {e : TypeId} {d : TypeDesc} {str : Bool}, P.underlying t = some (.slice e) → P.underlying tx = some d → ((P.info? e).bind fun ie => (zcells P e).bind fun zs => if zs.length = ie.size then some (CO.app str (zs.all scal) ie.size ie.bytes a b) else none) = some co →
        (if str then d = .string else ∃ e, d = .slice e) → GoodN K P ρ h w (builtin .append #[t, tx] ty consts #[f x, f y]) r := fun {e d str} hu hd hc hk => by
      obtain ⟨ie, hie, hc⟩ := Option.bind_eq_some_iff.1 hc
      obtain ⟨zs, hz, hc⟩ := Option.bind_eq_some_iff.1 hc
      split at hc
      · rename_i hq
        cases hc
        simp only [CO.run] at er
        split at er
        · rename_i hs
          obtain ⟨i, z, hi, hzz, hl⟩ := zcells_some hz
          rw [hie] at hi
          cases hi
          have hvz := absA_ok ρ hl
          refine (good_app (P := P) hr t tx ty e hu hie hzz (by rw [← hvz.1]; exact hq) _ hd (hev x a ha) (hev y b hb) ?_ er).next
          cases str with
          | true => exact .inl ⟨isStr_iff.1 hs, by simpa using hk⟩
          | false => exact .inr ⟨isStr_not hs, by simpa using hk⟩
        · cases er
      · cases hc
    split at hc
    · rename_i e e' hu hd
      exact gen hu hd hc (by simp)
    · rename_i e hu hd
      exact gen hu hd hc (by simp)
    · rename_i e k hu hd
      obtain ⟨ie, hie, hc⟩ := Option.bind_eq_some_iff.1 hc
      obtain ⟨zs, hz, hc⟩ := Option.bind_eq_some_iff.1 hc
      split at hc
      · rename_i hq
        cases hc
        obtain ⟨i, z, hi, hzz, hl⟩ := zcells_some hz
        rw [hie] at hi
        cases hi
        have hvz := absA_ok ρ hl
        have v1 := hev x a ha
        have v2 := hev y b hb
        simp only [CO.run] at er
        split at er
        · rename_i ik m hx hy
          rw [hx] at v1
          rw [hy] at v2
          show GoodN K P ρ h w (builtin .append #[t, tx] ty consts #[f x, f y]) r
          generalize f x = vx at v1 ⊢
          generalize f y = vy at v2 ⊢
          cases v1
          cases v2
          split at er
          · rename_i hm0
            subst hm0
            cases er
            have hw0 : IntKind.i64.wrap 0 = 0 := by decide
            refine ((Ans.mk (P := P) (v := .slice none 0 0) (fun w => ?_) .ns).good hr).next
            simp [Builtin.append_, run_underlying hu, run_underlying hd, sizeOf, typeInfo, hie, asInt, asIntOf, hw0]
          · split at er
            · rename_i hm
              exact (good_apz (P := P) hr t tx ty e hu hd hie hzz (by rw [← hvz.1]; exact hq.1) hq.2 _ hvz hm.1 hm.2.1 hm.2.2 er).next
            · cases er
        · cases er
      · cases hc
    · cases hc
  · rename_i x y t tx
    obtain ⟨a, ha, hc⟩ := Option.bind_eq_some_iff.1 hc
    obtain ⟨b, hb, hc⟩ := Option.bind_eq_some_iff.1 hc
    have gen : ∀ {e : TypeId} {d : TypeDesc} {str : Bool}, P.underlying t = some (.slice e) → P.underlying tx = some d → ((szOf P e).map fun n => CO.cpy str n a b) = some co →
        (if str then d = .string else ∃ e, d = .slice e) → GoodN K P ρ h w (builtin .copy #[t, tx] ty consts #[f x, f y]) r := fun {e d str} hu hd hc hk => by
      obtain ⟨n, hn, rfl⟩ := Option.map_eq_some_iff.1 hc
      obtain ⟨ie, hie, rfl⟩ := szOf_some hn
      simp only [CO.run] at er
      split at er
      · rename_i hs
        refine (good_cpy (P := P) hr t tx ty e hu hie hd (hev x a ha) (hev y b hb) ?_ er).next
        cases str with
        | true => exact .inl ⟨isStr_iff.1 hs, by simpa using hk⟩
        | false => exact .inr ⟨isStr_not hs, by simpa using hk⟩
      · cases er
    split at hc
    · rename_i e e' hu hd
      exact gen hu hd hc (by simp)
    · rename_i e hu hd
      exact gen hu hd hc (by simp)
    · cases hc
  · rename_i x t
    obtain ⟨a, ha, hc⟩ := Option.bind_eq_some_iff.1 hc
    have v1 := hev x a ha
    split at hc
    · rename_i e hu
      cases hc
      simp only [CO.run] at er
      split at er
      · rename_i hx
        cases er
        rw [hx] at v1
        generalize hfx : f x = vx at v1
        cases v1
        refine ((Ans.mk (P := P) (v := .int .i64 0) (fun w => ?_) (.i _ _)).good hr).next
        simp [Builtin.cap_, run_underlying hu, goInt, hfx]
      · rename_i c hx
        cases er
        rw [hx] at v1
        generalize hfx : f x = vx at v1
        cases v1 with
        | sl _ _ _ _ _ b o n cap' hρ h1 h2 h3 h4 h5 =>
          have := h4 rfl
          subst this
          refine ((Ans.mk (P := P) (v := .int .i64 cap') (fun w => ?_) (.i _ _)).good hr).next
          simp [Builtin.cap_, run_underlying hu, goInt, hfx]
      · cases er
    · cases hc
  · rename_i x t
    obtain ⟨a, ha, hc⟩ := Option.bind_eq_some_iff.1 hc
    have v1 := hev x a ha
    split at hc
    · rename_i e hu
      obtain ⟨ie, hie, hc⟩ := Option.bind_eq_some_iff.1 hc
      obtain ⟨zs, hzs, hc⟩ := Option.bind_eq_some_iff.1 hc
      split at hc
      · rename_i hq
        cases hc
        obtain ⟨ie', z, hie', hzz, hl⟩ := zcells_some hzs
        rw [hie] at hie'
        cases hie'
        have hvz := absA_ok ρ hl
        exact (good_clr (P := P) hr t ty e hu hie hzz (by rw [← hvz.1]; exact hq.1) hq.2 hvz er v1).next
      · cases hc
    · cases hc
  · cases hc
theorem builtin_ok {ρ : Mp} {h : List AB} {w : World} (hr : Rel K ρ h w) {f : Operand → Value} {fr : List AV} (hev : EV ρ f (Opd.ev fr)) {c : Call} {ty : TypeId} {co : CO} (hc : compOp P (.call c) = some co) {r : AV × List AB} (er : co.run (Opd.ev fr) h = some r) : GoodN K P ρ h w (do let d ← resolve f c ty; invoke d.target d.args) r := by
  obtain ⟨callee, args, ts⟩ := c
  simp only [compOp, compCall] at hc
  cases callee with
  | builtin b =>
    simp only at hc
    have hb := fun consts => builtin_run (P := P) hr hev (ty := ty) (consts := consts) hc er
    have ea : (args.toList.map f).toArray = args.map f := by rw [← Array.toList_map, Array.toArray_toList]
    rw [ea] at hb
    simp only [Array.toArray_toList] at hb
    obtain ⟨cs, e⟩ : ∃ cs, (do let d ← resolve f { callee := .builtin b, args := args, argTypes := ts } ty; invoke d.target d.args) = builtin b ts ty cs (args.map f) := ⟨_, rfl⟩
    rw [e]
    exact hb cs
  | value g =>
    simp only at hc
    split at hc
    · rename_i x y hcmp hxy
      obtain ⟨a, ha, hc⟩ := Option.bind_eq_some_iff.1 hc
      obtain ⟨b, hb, rfl⟩ := Option.map_eq_some_iff.1 hc
      unfold isCmp at hcmp
      split at hcmp
      · rename_i gid
        split at hcmp
        · rename_i fn hfn
          simp only [Bool.and_eq_true, Bool.or_eq_true, beq_iff_eq] at hcmp
          obtain ⟨v', e1, e2, e3⟩ := good_bcmp (P := P) hr hfn hcmp.1.1 hcmp.1.2 hcmp.2 (hev x a ha) (hev y b hb) er
          have hargs : args = #[x, y] := by
            apply Array.ext'
            simpa using hxy
          subst hargs
          have hg : f (.func gid) = .func (.func gid) #[] #[] := by
            have h1 := hev (.func gid) _ rfl
            simp only [Opd.ev] at h1
            generalize f (.func gid) = u at h1
            cases h1 with
            | f _ _ _ fst' cap' q1 q2 =>
              rw [Array.eq_empty_of_size_eq_zero q1.symm, Array.eq_empty_of_size_eq_zero q2.symm]
          refine ⟨v', w, ρ, .inl ?_, Ext.refl _, e3 ▸ hr, e2, e3 ▸ Eff.refl _ _ _⟩
          rw [← e1]
          simp [resolve, hg, Deferred.ofValue, invoke]
        · cases hcmp
      · cases hcmp
    · obtain ⟨a, ha, hc⟩ := Option.bind_eq_some_iff.1 hc
      obtain ⟨l, hl, rfl⟩ := Option.map_eq_some_iff.1 hc
      cases er
  | invoke _ _ => cases hc
end
end Go.Proofs.Ytnnkfhlmkaobfaa
end
section
namespace Go.Proofs.Ytnnkfhlmkaobfaa
open Go.RowKit
section
variable {P : Program} {K : Code → CC → Prop}
theorem unit_next {ρ : Mp} {h h' : List AB} {w : World} {s : Sem Unit} (g : ∃ w', s.run P w = .ok () w' ∧ Rel K ρ h' w' ∧ Eff ρ h w ρ h' w') : GoodN K P ρ h w (do s; pure .skip) (.tu [], h') :=
  let ⟨w', e, h1, h2⟩ := g
  ⟨undef, w', ρ, .inr ⟨by simp [e], rfl⟩, Ext.refl _, h1, .tu [] #[] rfl (fun j a c h => by simp at h), h2⟩
theorem val_next {ρ : Mp} {h : List AB} {w : World} (hr : Rel K ρ h w) {a : AV} {v : Value} (hv : VR ρ a v) : GoodN K P ρ h w (pure (.value v)) (a, h) :=
  ⟨v, w, ρ, .inl rfl, Ext.refl _, hr, hv, Eff.refl _ _ _⟩
set_option maxHeartbeats 4000000 in
theorem exec_ok {ρ : Mp} {h : List AB} {w : World} (hr : Rel K ρ h w) {f : Operand → Value} {fr : List AV} (hev : EV ρ f (Opd.ev fr)) {o : Oper} {co : CO} (hc : compOp P o.op = some co) {r : AV × List AB} (er : co.run (Opd.ev fr) h = some r) : GoodN K P ρ h w (execOp f o) r := by
  obtain ⟨dst, op, ty, pos, after, guard⟩ := o
  unfold execOp
  cases op with
  | move x =>
    obtain ⟨a, ha, rfl⟩ := Option.map_eq_some_iff.1 hc
    cases er
    exact val_next hr (hev x a ha)
  | assign x =>
    obtain ⟨a, ha, rfl⟩ := Option.map_eq_some_iff.1 hc
    cases er
    exact val_next hr (hev x a ha)
  | pick c a b =>
    simp only [compOp] at hc
    obtain ⟨c', h1, hc⟩ := Option.bind_eq_some_iff.1 hc
    obtain ⟨a', h2, hc⟩ := Option.bind_eq_some_iff.1 hc
    obtain ⟨b', h3, rfl⟩ := Option.map_eq_some_iff.1 hc
    simp only [CO.run] at er
    split at er
    · rename_i t ht
      cases er
      have v1 := hev c c' h1
      rw [ht] at v1
      dsimp only
      generalize f c = vc at v1 ⊢
      cases v1
      cases t
      · exact ⟨_, w, ρ, .inl (by simp [asBool]), Ext.refl _, hr, hev b b' h3, Eff.refl _ _ _⟩
      · exact ⟨_, w, ρ, .inl (by simp [asBool]), Ext.refl _, hr, hev a a' h2, Eff.refl _ _ _⟩
    · cases er
  | alloc e =>
    obtain ⟨zs, hz, rfl⟩ := Option.map_eq_some_iff.1 hc
    obtain ⟨i, z, hi, hzz, hl⟩ := zcells_some hz
    have g := good_newVar (P := P) hr e _ (absA_ok ρ hl) er
    obtain ⟨v', w', ρ', e1, rest⟩ := g
    refine ⟨v', w', ρ', .inl ?_, rest⟩
    have e2 : (Instr.alloc e true (.tuple #[])).run P w = .ok v' w' := by
      rw [← e1]
      simp [Instr.alloc, zeroValue, typeInfo, hi, hzz]
    simp [e2]
  | box e x =>
    simp only [compOp] at hc
    obtain ⟨a, ha, hc⟩ := Option.bind_eq_some_iff.1 hc
    obtain ⟨zs, hz, rfl⟩ := Option.map_eq_some_iff.1 hc
    simp only [CO.run] at er
    split at er
    · rename_i hl
      have hk : (Opd.ev fr a).known = true := by
        have := (newB_some er).1
        cases hq : Opd.ev fr a <;> first | rfl | (rw [hq] at this; simp [AV.cells, wrOk, AV.flat, AV.one] at this)
      exact (good_newVar (P := P) hr e _ ((hev x a ha).cellsVL hk) er).next
    · cases er
  | build t ps =>
    simp only [compOp] at hc
    obtain ⟨zs, hz, hc⟩ := Option.bind_eq_some_iff.1 hc
    obtain ⟨i, z, hi, hzz, hl⟩ := zcells_some hz
    split at hc
    · rename_i fs hu
      obtain ⟨pl, hpl, hc⟩ := Option.bind_eq_some_iff.1 hc
      obtain ⟨q, hq, rfl⟩ := Option.map_eq_some_iff.1 hc
      obtain ⟨cs, hcs, rfl⟩ := Option.map_eq_some_iff.1 er
      refine (ans_bldS t hu hi hzz (places := pl.toArray) (fun w => arr_mapM fs _ pl w (partsS_ok fs.toList pl hpl w)) (parts := ps.map fun (i, x) => (i, f x)) ?_ (absA_ok ρ hl) hcs).next hr
      have := hev.parts hq
      simpa using this
    · rename_i n e hu
      obtain ⟨k, hk, hc⟩ := Option.bind_eq_some_iff.1 hc
      obtain ⟨q, hq, rfl⟩ := Option.map_eq_some_iff.1 hc
      obtain ⟨cs, hcs, rfl⟩ := Option.map_eq_some_iff.1 er
      obtain ⟨ie, hie, rfl⟩ := szOf_some hk
      refine (ans_bldA t e hu hi hzz hie (parts := ps.map fun (i, x) => (i, f x)) ?_ (absA_ok ρ hl) hcs).next hr
      have := hev.parts hq
      simpa using this
    · cases hc
  | buildSlice t len ps =>
    simp only [compOp] at hc
    split at hc
    · rename_i e hu
      obtain ⟨ie, hie, hc⟩ := Option.bind_eq_some_iff.1 hc
      obtain ⟨z, hz, hc⟩ := Option.bind_eq_some_iff.1 hc
      obtain ⟨zs, hzs, hc⟩ := Option.bind_eq_some_iff.1 hc
      obtain ⟨ze, hze, hc⟩ := Option.bind_eq_some_iff.1 hc
      split at hc
      · rename_i hb
        obtain ⟨q, hq, rfl⟩ := Option.map_eq_some_iff.1 hc
        simp only [CO.run] at er
        obtain ⟨cs, hcs, er⟩ := Option.bind_eq_some_iff.1 er
        refine (good_bls (P := P) hr t e hu hie hz len hb.1 _ (parts := ps.map fun (i, x) => (i, f x)) ?_ (absA_ok ρ hzs) hcs hb.2 er).next
        have := hev.parts hq
        simpa using this
      · cases hc
    · cases hc
  | load t x =>
    simp only [compOp] at hc
    obtain ⟨a, ha, hc⟩ := Option.bind_eq_some_iff.1 hc
    obtain ⟨n, hn, rfl⟩ := Option.map_eq_some_iff.1 hc
    obtain ⟨d, i, hd, hi, rfl⟩ := agN_some hn
    obtain ⟨v, hv, rfl⟩ := Option.map_eq_some_iff.1 er
    exact (good_ld hr t hd hi (hev x a ha) hv).next
  | store t x y =>
    simp only [compOp] at hc
    obtain ⟨a, ha, hc⟩ := Option.bind_eq_some_iff.1 hc
    obtain ⟨b, hb, hc⟩ := Option.bind_eq_some_iff.1 hc
    obtain ⟨n, hn, hc⟩ := Option.bind_eq_some_iff.1 hc
    split at hc
    · rename_i h1
      cases hc
      obtain ⟨d, i, hd, hi, rfl⟩ := agN_some hn
      obtain ⟨h', hv, rfl⟩ := Option.map_eq_some_iff.1 er
      refine unit_next (good_st hr t (ag := isAg d) hi (fun hd => ?_) (hev x a ha) (hev y b hb) hv)
      have := h1 (by rw [hd]; rfl)
      unfold szOf at this
      rw [hi] at this
      simpa using this
    · cases hc
  | nilCheck x =>
    obtain ⟨a, ha, rfl⟩ := Option.map_eq_some_iff.1 hc
    have va := hev x a ha
    simp only [CO.run] at er
    dsimp only
    generalize f x = vx at va ⊢
    split at er
    · rename_i hq
      rw [hq] at va
      cases er
      cases va with
      | p _ _ b o n hh => exact val_next hr (VR.p _ _ b o n hh)
    · rename_i hq
      rw [hq] at va
      cases er
      cases va with
      | f _ _ _ fst' cap' h0 h1 h2 h3 => exact val_next hr (VR.f _ _ _ fst' cap' h0 h1 h2 h3)
    · rename_i hq
      rw [hq] at va
      cases er
      cases va with
      | f _ _ _ fst' cap' h0 h1 h2 h3 => exact val_next hr (VR.f _ _ _ fst' cap' h0 h1 h2 h3)
    · rename_i hq
      rw [hq] at va
      cases er
      cases va with
      | ifc _ _ v' h1 => exact val_next hr (VR.ifc _ _ v' h1)
    · cases er
  | binOp op t x y yt => exact bin_ok hr hev hc er
  | unOp op t x =>
    obtain ⟨a, ha, rfl⟩ := Option.map_eq_some_iff.1 hc
    obtain ⟨v, hv, rfl⟩ := Option.map_eq_some_iff.1 er
    exact (ans_un op (hev x a ha) hv).next hr
  | convert src dst x =>
    simp only [compOp, cConv] at hc
    obtain ⟨a, ha, hc⟩ := Option.bind_eq_some_iff.1 hc
    have va := hev x a ha
    split at hc
    · rename_i k0 k hs hd
      cases hc
      obtain ⟨n, hn, rfl⟩ := Option.map_eq_some_iff.1 er
      exact (ans_cvi src dst k hs hd va hn).next hr
    · rename_i hs hd
      cases hc
      simp only [CO.run] at er
      split at er
      · rename_i l hl
        cases er
        rw [hl] at va
        exact (ans_cvs src dst hs hd va).next hr
      · cases er
    · rename_i e hs hd
      split at hc
      · rename_i he
        cases hc
        simp only [CO.run] at er
        split at er
        · cases er
        · rename_i hns
          obtain ⟨⟨m, cs⟩, hsrc, er⟩ := Option.bind_eq_some_iff.1 er
          obtain ⟨l, hl, rfl⟩ := Option.map_eq_some_iff.1 er
          exact (good_b2s (P := P) hr src dst e hs he hd (isStr_not (by simpa using hns)) va hsrc hl).next
      · cases hc
    · cases hc
  | makeInterface t x =>
    simp only [compOp] at hc
    obtain ⟨a, ha, hc⟩ := Option.bind_eq_some_iff.1 hc
    split at hc
    · cases hc
    · cases hc
    · rename_i d hn1 hn2
      cases hc
      cases er
      cases hu : P.underlying t with
      | none => exact absurd hu hn1
      | some d => exact (ans_ifc t hu (fun ms e => hn2 ms (by rw [hu, e])) (hev x a ha)).next hr
  | makeFunc fn first cap =>
    simp only [compOp] at hc
    obtain ⟨l0, hl0, hc⟩ := Option.bind_eq_some_iff.1 hc
    obtain ⟨l, hl, rfl⟩ := Option.map_eq_some_iff.1 hc
    cases er
    have hv0 := hev.vl hl0
    have hv := hev.vl hl
    refine (Ans.mk (P := P) (v := .func fn (first.map f) (cap.map f)) (fun w => by simp [Instr.makeFunc]) (.f fn _ _ _ _ ?_ ?_ ?_ ?_)).next hr
    · have := hv0.1; simpa using this
    · have := hv.1; simpa using this
    · intro j a c h1 h2
      exact hv0.2 j a c h1 (by simpa using h2)
    · intro j a c h1 h2
      exact hv.2 j a c h1 (by simpa using h2)
  | makeSlice t l c =>
    simp only [compOp] at hc
    obtain ⟨a, ha, hc⟩ := Option.bind_eq_some_iff.1 hc
    obtain ⟨b, hb, hc⟩ := Option.bind_eq_some_iff.1 hc
    split at hc
    · rename_i e hu
      obtain ⟨ie, hie, hc⟩ := Option.bind_eq_some_iff.1 hc
      obtain ⟨zs, hz, hc⟩ := Option.bind_eq_some_iff.1 hc
      split at hc
      · rename_i hq
        cases hc
        obtain ⟨i, z, hi, hzz, hl⟩ := zcells_some hz
        rw [hie] at hi
        cases hi
        simp only [CO.run] at er
        have va := hev l a ha
        have vb := hev c b hb
        split at er
        · rename_i k1 n1 k2 n2 q1 q2
          split at er
          · rename_i hcond
            rw [q1] at va
            rw [q2] at vb
            dsimp only
            generalize f l = vl at va ⊢
            generalize f c = vc at vb ⊢
            cases va
            cases vb
            have hvz := absA_ok ρ hl
            exact (good_mks (P := P) hr t e hu hie hzz (by rw [← hvz.1]; exact hq.1) hq.2 _ hvz hcond.1 hcond.2.1 hcond.2.2.1 hcond.2.2.2 er).next
          · cases er
        · cases er
      · cases hc
    · cases hc
  | slice t x lo hi mx =>
    simp only [compOp] at hc
    obtain ⟨a, ha, hc⟩ := Option.bind_eq_some_iff.1 hc
    obtain ⟨lo', h1, hc⟩ := Option.bind_eq_some_iff.1 hc
    obtain ⟨hi', h2, hc⟩ := Option.bind_eq_some_iff.1 hc
    obtain ⟨mx', h3, hc⟩ := Option.bind_eq_some_iff.1 hc
    have va := hev x a ha
    have v1 := hev.vo h1
    have v2 := hev.vo h2
    have v3 := hev.vo h3
    split at hc
    · rename_i hu
      split at hc
      · rename_i hm
        cases hc
        simp only [CO.run] at er
        split at er
        · rename_i l hl
          obtain ⟨v, hv, rfl⟩ := Option.map_eq_some_iff.1 er
          rw [hl] at va
          cases mx with
          | none => exact (ans_sls t hu va v1 v2 hv).next hr
          | some m =>
            obtain ⟨m', _, rfl⟩ := Option.map_eq_some_iff.1 h3
            simp at hm
        · cases er
      · cases hc
    · rename_i e hu
      obtain ⟨n, hn, rfl⟩ := Option.map_eq_some_iff.1 hc
      obtain ⟨i, hi, rfl⟩ := szOf_some hn
      obtain ⟨v, hv, rfl⟩ := Option.map_eq_some_iff.1 er
      exact (ans_sll t e hu hi va v1 v2 v3 hv).next hr
    · rename_i k e hu
      split at hc
      · rename_i hk
        obtain ⟨n, hn, rfl⟩ := Option.map_eq_some_iff.1 hc
        obtain ⟨i, hi, rfl⟩ := szOf_some hn
        obtain ⟨v, hv, rfl⟩ := Option.map_eq_some_iff.1 er
        exact (ans_sla t e hu hi hk va v1 v2 v3 hv).next hr
      · cases hc
    · cases hc
  | fieldAddr s x fi =>
    simp only [compOp, cField] at hc
    obtain ⟨a, ha, hc⟩ := Option.bind_eq_some_iff.1 hc
    obtain ⟨⟨off, n, k⟩, h1, hc⟩ := Option.bind_eq_some_iff.1 hc
    simp only at hc
    split at h1
    · rename_i fs hu
      obtain ⟨fd, hfd, h1⟩ := Option.bind_eq_some_iff.1 h1
      obtain ⟨n', hn, h1⟩ := Option.bind_eq_some_iff.1 h1
      obtain ⟨k', hk, h1⟩ := Option.map_eq_some_iff.1 h1
      cases h1
      obtain ⟨i, hi, rfl⟩ := szOf_some hk
      split at hc
      · rename_i hz
        cases hc
        simp only [CO.run] at er
        have va := hev x a ha
        split at er
        · rename_i id o hq
          cases er
          rw [hq] at va
          exact (ans_fad s fi hu hfd hi hz va).next hr
        · cases er
      · cases hc
    · cases h1
  | field s x fi =>
    simp only [compOp, cField] at hc
    obtain ⟨a, ha, hc⟩ := Option.bind_eq_some_iff.1 hc
    obtain ⟨⟨off, n, k⟩, h1, rfl⟩ := Option.map_eq_some_iff.1 hc
    split at h1
    · rename_i fs hu
      obtain ⟨fd, hfd, h1⟩ := Option.bind_eq_some_iff.1 h1
      obtain ⟨n', hn, h1⟩ := Option.bind_eq_some_iff.1 h1
      obtain ⟨k', hk, h1⟩ := Option.map_eq_some_iff.1 h1
      cases h1
      obtain ⟨d, i, hd, hi, rfl⟩ := agN_some hn
      simp only [CO.run] at er
      have va := hev x a ha
      split at er
      · rename_i l hl
        rw [hl] at va
        have key : ∃ v, partV (isAg d) fd.offset i.size l = some v ∧ r = (v, h) := by
          unfold partV
          cases hag : isAg d
          · simp only [hag, Bool.false_eq_true, if_false] at er ⊢
            obtain ⟨v, hv, rfl⟩ := Option.map_eq_some_iff.1 er
            exact ⟨v, hv, rfl⟩
          · simp only [hag, if_true] at er ⊢
            cases er
            exact ⟨_, rfl, rfl⟩
        obtain ⟨v, hv, rfl⟩ := key
        exact (ans_fld s fi hu hfd hi hd va hv).next hr
      · cases er
    · cases h1
  | indexAddr t x i =>
    simp only [compOp] at hc
    obtain ⟨a, ha, hc⟩ := Option.bind_eq_some_iff.1 hc
    obtain ⟨b, hb, hc⟩ := Option.bind_eq_some_iff.1 hc
    have va := hev x a ha
    have vb := hev i b hb
    split at hc
    · rename_i e hu
      obtain ⟨n, hn, rfl⟩ := Option.map_eq_some_iff.1 hc
      obtain ⟨ie, hie, rfl⟩ := szOf_some hn
      simp only [CO.run] at er
      split at er
      · rename_i q1 q2
        split at er
        · rename_i hcond
          cases er
          rw [q1] at va
          rw [q2] at vb
          dsimp only
          generalize f i = vi at vb ⊢
          cases vb
          exact (ans_iad t e hu hie va hcond.1 hcond.2).next hr
        · cases er
      · cases er
    · rename_i k e hu
      obtain ⟨n, hn, rfl⟩ := Option.map_eq_some_iff.1 hc
      obtain ⟨ie, hie, rfl⟩ := szOf_some hn
      simp only [CO.run] at er
      split at er
      · rename_i q1 q2
        split at er
        · rename_i hcond
          cases er
          rw [q1] at va
          rw [q2] at vb
          dsimp only
          generalize f i = vi at vb ⊢
          cases vb
          exact (ans_iaa t e hu hie va hcond.1 hcond.2).next hr
        · cases er
      · cases er
    · cases hc
  | index t x i =>
    simp only [compOp] at hc
    obtain ⟨a, ha, hc⟩ := Option.bind_eq_some_iff.1 hc
    obtain ⟨b, hb, hc⟩ := Option.bind_eq_some_iff.1 hc
    have va := hev x a ha
    have vb := hev i b hb
    split at hc
    · rename_i hu
      cases hc
      simp only [CO.run] at er
      split at er
      · rename_i q1 q2
        split at er
        · rename_i h0
          obtain ⟨u, hu', rfl⟩ := Option.map_eq_some_iff.1 er
          rw [q1] at va
          rw [q2] at vb
          dsimp only
          generalize f i = vi at vb ⊢
          cases vb
          exact (ans_ixs t hu va h0 hu').next hr
        · cases er
      · cases er
    · rename_i k e hu
      obtain ⟨n, hn, hc⟩ := Option.bind_eq_some_iff.1 hc
      obtain ⟨g, hg, rfl⟩ := Option.map_eq_some_iff.1 hc
      obtain ⟨ie, hie, rfl⟩ := szOf_some hn
      obtain ⟨d, i2, hd, hi2, rfl⟩ := agN_some hg
      rw [hie] at hi2
      cases hi2
      simp only [CO.run] at er
      split at er
      · rename_i l kk m q1 q2
        split at er
        · rename_i hcond
          rw [q1] at va
          rw [q2] at vb
          dsimp only
          generalize f i = vi at vb ⊢
          cases vb
          have key : ∃ v, partV (isAg d) (m.toNat * ie.size) ie.size l = some v ∧ r = (v, h) := by
            unfold partV
            cases hag : isAg d
            · simp only [hag, Bool.false_eq_true, if_false, Option.isSome_none] at er ⊢
              obtain ⟨v, hv, rfl⟩ := Option.map_eq_some_iff.1 er
              exact ⟨v, hv, rfl⟩
            · simp only [hag, if_true, Option.isSome_some] at er ⊢
              cases er
              exact ⟨_, rfl, rfl⟩
          obtain ⟨v, hv, rfl⟩ := key
          exact (ans_ixa t e hu hie hd va hcond.1 hcond.2 hv).next hr
        · cases er
      · cases er
    · cases hc
  | typeAssert x tx t ok =>
    simp only [compOp] at hc
    obtain ⟨a, ha, hc⟩ := Option.bind_eq_some_iff.1 hc
    obtain ⟨z, hz, hc⟩ := Option.bind_eq_some_iff.1 hc
    obtain ⟨zv, hzv, hc⟩ := Option.bind_eq_some_iff.1 hc
    obtain ⟨i, hi, hz⟩ := Option.bind_eq_some_iff.1 hz
    split at hc
    · cases hc
    · cases hc
    · rename_i hn1 hn2
      cases hc
      cases hu : P.underlying t with
      | none => exact absurd hu hn1
      | some d =>
        have key : ∃ v, tasV t ok zv (Opd.ev fr a) = some v ∧ r = (v, h) := by
          unfold tasV
          simp only [CO.run] at er
          split at er
          · rename_i hq
            try rw [hq]
            split at er
            · rename_i he; cases er; exact ⟨_, by simp [he], rfl⟩
            · rename_i he
              split at er
              · rename_i ho; cases er; exact ⟨_, by simp [he, ho], rfl⟩
              · cases er
          · rename_i hq
            try rw [hq]
            split at er
            · rename_i ho; cases er; exact ⟨_, by simp [ho], rfl⟩
            · cases er
          · cases er
        obtain ⟨v, hv, rfl⟩ := key
        exact (ans_tas tx t ok hu (fun ms e => hn2 ms (by rw [hu, e])) hi hz (absV_ok ρ hzv) (hev x a ha) hv).next hr
  | extract x i =>
    obtain ⟨a, ha, rfl⟩ := Option.map_eq_some_iff.1 hc
    simp only [CO.run] at er
    have va := hev x a ha
    split at er
    · rename_i l hl
      obtain ⟨v, hv, rfl⟩ := Option.map_eq_some_iff.1 er
      rw [hl] at va
      exact (ans_ext va i hv).next hr
    · cases er
  | call c => exact builtin_ok hr hev hc er
  | _ => cases hc
end
end Go.Proofs.Ytnnkfhlmkaobfaa
end
