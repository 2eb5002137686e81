/- The abstract machine's steps, and what they stand for. -/
import Derived.Test.YtbcpcjofkfgjoaaEvL
namespace Go.Proofs.Ytbcpcjofkfgjoaa
open Go.RowKit

/-- The places of the frame that an operation looks at. -/
def Opd.tmps : Opd → List Nat
  | .t n => [n]
  | .c _ => []
def optT : Option Opd → List Nat
  | some x => x.tmps
  | none => []
def CO.tmps : CO → List Nat
  | .mv a0 => a0.tmps
  | .pick a0 a1 a2 => a0.tmps ++ a1.tmps ++ a2.tmps
  | .bin _ a1 a2 => a1.tmps ++ a2.tmps
  | .eqb _ a1 a2 => a1.tmps ++ a2.tmps
  | .eqc _ _ a2 a3 => a2.tmps ++ a3.tmps
  | .eqn _ a1 a2 => a1.tmps ++ a2.tmps
  | .un _ a1 => a1.tmps
  | .cvi _ a1 => a1.tmps
  | .cvs a0 => a0.tmps
  | .fad _ a1 => a1.tmps
  | .fld _ _ a2 => a2.tmps
  | .iad _ a1 a2 => a1.tmps ++ a2.tmps
  | .iaa _ _ a2 a3 => a2.tmps ++ a3.tmps
  | .ixs a0 a1 => a0.tmps ++ a1.tmps
  | .ixa _ _ _ a3 a4 => a3.tmps ++ a4.tmps
  | .sls a0 a1 a2 => a0.tmps ++ optT a1 ++ optT a2
  | .sll _ a1 a2 a3 a4 => a1.tmps ++ optT a2 ++ optT a3 ++ optT a4
  | .sla _ _ a2 a3 a4 a5 => a2.tmps ++ optT a3 ++ optT a4 ++ optT a5
  | .ifc _ a1 => a1.tmps
  | .mkf _ a1 a2 => a1.flatMap Opd.tmps ++ a2.flatMap Opd.tmps
  | .ext a0 _ => a0.tmps
  | .len _ a1 => a1.tmps
  | .lnc _ => []
  | .mm _ a1 a2 => a1.tmps ++ a2.tmps
  | .nck a0 => a0.tmps
  | .tas a0 _ _ _ => a0.tmps
  | .ld _ a1 => a1.tmps
  | .st _ a1 a2 => a1.tmps ++ a2.tmps
  | .new _ _ => []
  | .box _ _ a2 => a2.tmps
  | .bld _ a1 => a1.flatMap (fun x => x.2.2.tmps)
  | .bls _ _ _ a3 => a3.flatMap (fun x => x.2.2.tmps)
  | .mks _ _ _ a3 a4 => a3.tmps ++ a4.tmps
  | .app _ _ _ _ a4 a5 => a4.tmps ++ a5.tmps
  | .cpy _ _ a2 a3 => a2.tmps ++ a3.tmps
  | .capo a0 => a0.tmps
  | .apz _ _ _ a3 a4 => a3.tmps ++ a4.tmps
  | .stop => []
  | .b2s a0 => a0.tmps
  | .clr _ a1 => a1.tmps
  | .bcmp a0 a1 => a0.tmps ++ a1.tmps
  | .s2b a0 => a0.tmps
  | .rng a0 => a0.tmps
  | .nxt a0 => a0.tmps
  | .s2s a0 => a0.tmps
  | .bix a0 a1 => a0.tmps ++ a1.tmps
  | .call a0 a1 => a0.tmps ++ a1.flatMap Opd.tmps
def COper.tmps (o : COper) : List Nat := (match o.guard with | some (t, _) => [t] | none => []) ++ o.op.tmps
def memN (n : Nat) : List Nat → Bool
  | [] => false
  | m :: l => if Nat.beq m n then true else memN n l
/-- Is k in the set m? -/
def bit (k m : Nat) : Bool := Nat.beq (Nat.land (Nat.shiftRight m k) 1) 1
def setOf (l : List Nat) : Nat := l.foldl (fun m k => Nat.lor m (Nat.shiftLeft 1 k)) 0
def clos : List Nat → List (COper × List Nat) → List DOp
  | _, [] => []
  | acc, (o, deps) :: l =>
    let anc := deps.foldl (fun m d => Nat.lor m (Nat.lor (Nat.shiftLeft 1 d) (acc.getD d 0))) 0
    ⟨o, anc, setOf o.tmps⟩ :: clos (acc ++ [anc]) l
def indepT (e d : DOp) : Bool :=
  (match e.o.dst with
   | none => true
   | some t => !bit t d.us && (match d.o.dst with | none => true | some u => !Nat.beq u t)) &&
  (match d.o.dst with
   | none => true
   | some t => !bit t e.us)
/-- Every earlier operation stands ahead of d, with all that stand ahead of it, or has nothing to do with d. -/
def tmpOk (d : DOp) : Nat → List DOp → Bool
  | _, [] => true
  | j, e :: es => (if bit j d.anc then Nat.beq (Nat.land e.anc d.anc) e.anc else indepT e d) && tmpOk d (j + 1) es
def drawOk : List DOp → List DOp → List (List Nat) → Bool
  | _, [], [] => true
  | pre, d :: ds, dp :: dps => (dp.all fun x => bit x d.anc) && Nat.blt d.anc (2 ^ pre.length) && tmpOk d 0 pre && drawOk (pre ++ [d]) ds dps
  | _, _, _ => false

/-- What is still to be done. -/
inductive CI where
  | code (c : CC)
  | blk (id : Nat)
  | lp (c : CC)
  | sc
  | ops (l : List COper)
  | br
inductive RC where
  | t (n : Nat)
  | cell (n : Nat) (sz : Option Nat)

def cOps (P : Program) (ops : Array Oper) : List Nat → Option (List COper)
  | [] => some []
  | i :: is => (ops[i]?).bind fun o => (compO P ops o).bind fun c => (cOps P ops is).map (c :: ·)
/-- The operations that one waits for. -/
def depsOf (o : Oper) : List Nat := (o.after.toList.filter (Region.binds .any)).map (·.on)
def cDraw (P : Program) (ops : Array Oper) : List Nat → Option (List (COper × List Nat))
  | [] => some []
  | i :: is => (ops[i]?).bind fun o => (compO P ops o).bind fun c => (cDraw P ops is).map ((c, depsOf o) :: ·)
def cCode (P : Program) : Code → Option CC
  | .skip | .label _ => some .skip
  | .region id ops d => if d then (cDraw P ops (List.range ops.size)).map (fun l => if drawOk [] (clos [] l) (l.map (·.2)) then .drw id (clos [] l) else .stop) else (cOps P ops (List.range ops.size)).map (.reg id)
  | .seq a b => (cCode P a).bind fun x => (cCode P b).map (.seq x)
  | .cond c a b => match cOpd c with
    | none => some .stop
    | some o => (cCode P a).bind fun x => (cCode P b).map (.cond o x)
  | .block id a => (cCode P a).map (.block id)
  | .loop a => (cCode P a).map .loop
  | .scope a => (cCode P a).map .scope
  | .exit id => some (.exit id)
  | .ret => some .ret
  | .rangeFunc g ps a b => match cOpd g with
    | none => some .stop
    | some o => (cCode P a).bind fun x => (cCode P b).map (.rf o ps.toList x)
  | _ => some .stop
def cRes (P : Program) : List ResultVar → Option (List RC)
  | [] => some []
  | .tmp t :: rs => (cRes P rs).map (.t t :: ·)
  | .cell a t :: rs => (agN P t).bind fun n => (cRes P rs).map (.cell a n :: ·)
/-- A function, made ready. -/
structure CF where
  ntmps : Nat
  res : List RC
  body : CC
def compF (P : Program) (f : Func) : Option CF :=
  if f.name = "runtime.NumGoroutine" then none else f.body.bind fun c => (cCode P c).bind fun b => (cRes P f.results.toList).map fun r => ⟨f.ntmps, r, b⟩

def resOne (fr : List AV) (h : List AB) : RC → Option AV
  | .t n => some (fr.getD n (.tu []))
  | .cell n sz => ldV h sz (fr.getD n (.tu []))
def resAll (fr : List AV) (h : List AB) : List RC → Option (List AV)
  | [] => some []
  | r :: rs => (resOne fr h r).bind fun a => (resAll fr h rs).map (a :: ·)
def resV (fr : List AV) (h : List AB) (rs : List RC) : Option AV :=
  (resAll fr h rs).map fun
    | [a] => a
    | l => .tu l

section
variable {P : Program}
def IR (P : Program) : CI → Item → Prop
  | .code c, .code c' => cCode P c' = some c
  | .blk id, .inBlock id' => id' = id
  | .lp c, .inLoop c' => cCode P c' = some c
  | .sc, .inScope _ => True
  | .ops l, .inRegion ops is => cOps P ops is = some l
  | .br, .beginRound => True
  | _, _ => False
def IRs (P : Program) : List CI → List Item → Prop
  | [], [] => True
  | c :: cs, i :: is => IR P c i ∧ IRs P cs is
  | _, _ => False

structure EffP (p : Nat) (ρ : Mp) (h : List AB) (w : World) (ρ' : Mp) (h' : List AB) (w' : World) : Prop where
  os : w'.os = w.os
  tape : w'.tape = w.tape
  output : w'.output = w.output ∧ dr w ≤ dr w'
  size : w.heap.size ≤ w'.heap.size
  keep : ∀ b, b < w.heap.size → ¬ Own ρ h b → w'.heap[b]? = w.heap[b]?
  own : ∀ b, Own ρ' h' b → Own ρ h b ∨ w.heap.size ≤ b
  acc : ∀ (i b : Nat), At ρ' h' i b → (∃ j, At ρ h j b ∧ (i < p → j = i) ∧ (p ≤ i → p ≤ j)) ∨ Own ρ h b ∨ w.heap.size ≤ b
  fix : ∀ i, i < p → ρ'[i]? = ρ[i]?
theorem EffP.trans {p : Nat} {ρ1 ρ2 ρ3 : Mp} {h1 h2 h3 : List AB} {w1 w2 w3 : World} (a : EffP p ρ1 h1 w1 ρ2 h2 w2) (c : EffP p ρ2 h2 w2 ρ3 h3 w3) : EffP p ρ1 h1 w1 ρ3 h3 w3 :=
  ⟨c.os.trans a.os, c.tape.trans a.tape, ⟨c.output.1.trans a.output.1, Nat.le_trans a.output.2 c.output.2⟩, Nat.le_trans a.size c.size,
   fun b hb hn => (c.keep b (Nat.lt_of_lt_of_le hb a.size) (fun ho => by
     rcases a.own b ho with h | h
     · exact hn h
     · omega)).trans (a.keep b hb hn),
   fun b hb => by
     rcases c.own b hb with h | h
     · exact a.own b h
     · exact .inr (Nat.le_trans a.size h),
   fun i b hb => by
     rcases c.acc i b hb with ⟨j, h, h1, h2⟩ | h | h
     · rcases a.acc j b h with ⟨j', h', h3, h4⟩ | h | h
       · exact .inl ⟨j', h', fun q => by have := h1 q; subst this; exact h3 q, fun q => h4 (h2 q)⟩
       · exact .inr (.inl h)
       · exact .inr (.inr h)
     · exact .inr (a.own b h)
     · exact .inr (.inr (Nat.le_trans a.size h)),
   fun i hi => (c.fix i hi).trans (a.fix i hi)⟩
theorem Ext.len {ρ ρ' : Mp} (h : Ext ρ ρ') : ρ.length ≤ ρ'.length := by
  rcases Nat.lt_or_ge ρ'.length ρ.length with q | q
  · have := h ρ'.length _ (List.getElem?_eq_getElem q)
    rw [List.getElem?_eq_none (Nat.le_refl _)] at this
    cases this
  · exact q
theorem Eff.p {p : Nat} {ρ ρ' : Mp} {h h' : List AB} {w w' : World} (e : Eff ρ h w ρ' h' w') (x : Ext ρ ρ') (hp : p ≤ ρ.length) : EffP p ρ h w ρ' h' w' :=
  ⟨e.os, e.tape, e.output, e.size, e.keep, e.own, fun i b ha => by
    rcases e.liv i b ha with q | q
    · exact .inl ⟨i, q, fun _ => rfl, fun hi => hi⟩
    · exact .inr q, fun i hi => by
    have := x i _ (List.getElem?_eq_getElem (Nat.lt_of_lt_of_le hi hp))
    rw [this]
    exact (List.getElem?_eq_getElem (Nat.lt_of_lt_of_le hi hp)).symm⟩
theorem EffP.refl (p : Nat) (ρ : Mp) (h : List AB) (w : World) : EffP p ρ h w ρ h w :=
  ⟨rfl, rfl, ⟨rfl, Nat.le_refl _⟩, Nat.le_refl _, fun _ _ _ => rfl, fun _ h => .inl h, fun i _ h => .inl ⟨i, h, fun _ => rfl, fun q => q⟩, fun _ _ => rfl⟩
theorem EffP.weak {p q : Nat} {ρ ρ' : Mp} {h h' : List AB} {w w' : World} (e : EffP q ρ h w ρ' h' w') (hp : p ≤ q) : EffP p ρ h w ρ' h' w' :=
  ⟨e.os, e.tape, e.output, e.size, e.keep, e.own, fun i b ha => by
    rcases e.acc i b ha with ⟨j, h1, h2, h3⟩ | k
    · refine .inl ⟨j, h1, fun hi => h2 (by omega), fun hi => ?_⟩
      by_cases hq : i < q
      · have := h2 hq; omega
      · have := h3 (by omega); omega
    · exact .inr k, fun i hi => e.fix i (by omega)⟩

/-- The compiled form of code. -/
def KC (P : Program) : Code → CC → Prop := fun c cc => cCode P c = some cc
/-- A run as EffP has it, but that the blocks of X may have been turned. -/
structure EffX (X : List Nat) (p : Nat) (ρ : Mp) (h : List AB) (w : World) (ρ' : Mp) (h' : List AB) (w' : World) : Prop where
  os : w'.os = w.os
  tape : w'.tape = w.tape
  output : w'.output = w.output ∧ dr w ≤ dr w'
  size : w.heap.size ≤ w'.heap.size
  keep : ∀ b, b < w.heap.size → ¬ Own ρ h b → b ∉ X → w'.heap[b]? = w.heap[b]?
  own : ∀ b, Own ρ' h' b → Own ρ h b ∨ w.heap.size ≤ b
  acc : ∀ (i b : Nat), At ρ' h' i b → (∃ j, At ρ h j b ∧ (i < p → j = i) ∧ (p ≤ i → p ≤ j)) ∨ Own ρ h b ∨ w.heap.size ≤ b
  fix : ∀ i, i < p → ρ'[i]? = ρ[i]?
theorem EffP.x {p : Nat} {ρ ρ' : Mp} {h h' : List AB} {w w' : World} (e : EffP p ρ h w ρ' h' w') (X : List Nat) : EffX X p ρ h w ρ' h' w' :=
  ⟨e.os, e.tape, e.output, e.size, fun b hb hn _ => e.keep b hb hn, e.own, e.acc, e.fix⟩
theorem EffX.p {p : Nat} {ρ ρ' : Mp} {h h' : List AB} {w w' : World} (e : EffX [] p ρ h w ρ' h' w') : EffP p ρ h w ρ' h' w' :=
  ⟨e.os, e.tape, e.output, e.size, fun b hb hn => e.keep b hb hn (by simp), e.own, e.acc, e.fix⟩
/-- Behind a run, another one; what that one may turn beside is new, or may be turned. -/
theorem EffP.then {p : Nat} {X Y : List Nat} {ρ1 ρ2 ρ3 : Mp} {h1 h2 h3 : List AB} {w1 w2 w3 : World} (a : EffP p ρ1 h1 w1 ρ2 h2 w2) (c : EffX Y p ρ2 h2 w2 ρ3 h3 w3) (hY : ∀ r ∈ Y, r ∈ X ∨ w1.heap.size ≤ r) : EffX X p ρ1 h1 w1 ρ3 h3 w3 :=
  ⟨c.os.trans a.os, c.tape.trans a.tape, ⟨c.output.1.trans a.output.1, Nat.le_trans a.output.2 c.output.2⟩, Nat.le_trans a.size c.size,
   fun b hb hn hx => (c.keep b (Nat.lt_of_lt_of_le hb a.size) (fun ho => by
     rcases a.own b ho with h | h
     · exact hn h
     · omega) (fun hy => by
     rcases hY b hy with h | h
     · exact hx h
     · omega)).trans (a.keep b hb hn),
   fun b hb => by
     rcases c.own b hb with h | h
     · exact a.own b h
     · exact .inr (Nat.le_trans a.size h),
   fun i b hb => by
     rcases c.acc i b hb with ⟨j, h, h1, h2⟩ | h | h
     · rcases a.acc j b h with ⟨j', h', h3, h4⟩ | h | h
       · exact .inl ⟨j', h', fun q => by have := h1 q; subst this; exact h3 q, fun q => h4 (h2 q)⟩
       · exact .inr (.inl h)
       · exact .inr (.inr h)
     · exact .inr (a.own b h)
     · exact .inr (.inr (Nat.le_trans a.size h)),
   fun i hi => (c.fix i hi).trans (a.fix i hi)⟩
theorem EffX.weak {X : List Nat} {p q : Nat} {ρ ρ' : Mp} {h h' : List AB} {w w' : World} (e : EffX X q ρ h w ρ' h' w') (hp : p ≤ q) : EffX X p ρ h w ρ' h' w' :=
  ⟨e.os, e.tape, e.output, e.size, e.keep, e.own, fun i b ha => by
    rcases e.acc i b ha with ⟨j, h1, h2, h3⟩ | k
    · refine .inl ⟨j, h1, fun hi => h2 (by omega), fun hi => ?_⟩
      by_cases hq : i < q
      · have := h2 hq; omega
      · have := h3 (by omega); omega
    · exact .inr k, fun i hi => e.fix i (by omega)⟩
/-- What holds behind a run: the answer and the heap stand in R. -/
def PostR (P : Program) (p : Nat) (X : List Nat) (ρ : Mp) (h : List AB) (w : World) (R : AV → List AB → Prop) (v : Value) (w' : World) : Prop :=
  ∃ a h' ρ', R a h' ∧ VR ρ' a v ∧ Rel (KC P) ρ' h' w' ∧ EffX X p ρ h w ρ' h' w'
theorem PostR.from {p : Nat} {X Y : List Nat} {ρ ρ1 : Mp} {h h1 : List AB} {w w1 : World} {R : AV → List AB → Prop} {v : Value} {w' : World} (e : EffP p ρ h w ρ1 h1 w1) (q : PostR P p Y ρ1 h1 w1 R v w') (hY : ∀ r ∈ Y, r ∈ X ∨ w.heap.size ≤ r) : PostR P p X ρ h w R v w' :=
  let ⟨a, h', ρ', q1, q2, q3, q4⟩ := q
  ⟨a, h', ρ', q1, q2, q3, e.then q4 hY⟩
/-- The function of frame b is left, with an answer in Rv (rd: it is a round of a loop: then its caller goes on). -/
def Ret (P : Program) (rd : Option Nat) (b : Frame) (cs : List Frame) (Rv : Value → World → Prop) (m : Machine) : Prop :=
  ∃ v w', Rv v w' ∧ match rd with
    | none => ∃ frm, Steps P m (lone frm cs w') ∧ frm.fn = b.fn ∧ frm.leaving P w' (.returned v)
    | some _ => ∀ c cs', cs = c :: cs' → Steps P m (lone (c.finish v) cs' w')
theorem Ret.steps {rd : Option Nat} {b : Frame} {cs : List Frame} {Rv : Value → World → Prop} {m m1 : Machine} (s : Steps P m m1) (h : Ret P rd b cs Rv m1) : Ret P rd b cs Rv m := by
  obtain ⟨v, w', q1, q2⟩ := h
  refine ⟨v, w', q1, ?_⟩
  cases rd with
  | none =>
    obtain ⟨frm, q3, q4⟩ := q2
    exact ⟨frm, s.trans q3, q4⟩
  | some l => exact fun c cs' e => s.trans (q2 c cs' e)
theorem Ret.mono {rd : Option Nat} {b : Frame} {cs : List Frame} {Rv Rv' : Value → World → Prop} {m : Machine} (h : Ret P rd b cs Rv m) (hr : ∀ v w, Rv v w → Rv' v w) : Ret P rd b cs Rv' m :=
  let ⟨v, w', q1, q2⟩ := h
  ⟨v, w', hr _ _ q1, q2⟩
/-- The mark of a loop's block for deferred calls. -/
def mkD (r : Nat) : Deferred := { target := .collected r, args := #[] }
/-- Blocks for deferred calls, empty, beside all that the abstract heap has. -/
def Marks (ρ : Mp) (h : List AB) (w : World) (rs : List Nat) : Prop := rs.Nodup ∧ ∀ r ∈ rs, w.heap[r]? = some (.deferred (some [])) ∧ ∀ i, ¬ At ρ h i r
theorem Own.at {ρ : Mp} {h : List AB} {b : Nat} (o : Own ρ h b) : ∃ i, At ρ h i b := by
  obtain ⟨i, B, x, h1, h2, h3⟩ := o
  exact ⟨i, B, x, h1, AB.live_of_mut h2, h3⟩
theorem Marks.eff {p : Nat} {ρ ρ' : Mp} {h h' : List AB} {w w' : World} {rs : List Nat} (m : Marks ρ h w rs) (e : EffP p ρ h w ρ' h' w') : Marks ρ' h' w' rs :=
  ⟨m.1, fun r hr => by
    obtain ⟨h1, h2⟩ := m.2 r hr
    have hlt : r < w.heap.size := (Array.getElem?_eq_some_iff.1 h1).1
    have hno : ¬ Own ρ h r := fun o => by
      obtain ⟨i, hi⟩ := o.at
      exact h2 i hi
    refine ⟨(e.keep r hlt hno).trans h1, fun i ha => ?_⟩
    rcases e.acc i r ha with ⟨j, hj, _⟩ | h | h
    · exact h2 j hj
    · exact hno h
    · omega⟩
/-- The loop of a round's frame. -/
def RdOk (ρ : Mp) (b : Frame) : Option Nat → Prop
  | none => b.roundOf = none
  | some id => ∃ l on, ρ[id]? = some (l, on) ∧ b.roundOf = some l
theorem RdOk.ext {ρ ρ' : Mp} {b : Frame} {rd : Option Nat} (h : RdOk ρ b rd) (e : Ext ρ ρ') : RdOk ρ' b rd := by
  cases rd with
  | none => exact h
  | some id =>
    obtain ⟨l, on, h1, h2⟩ := h
    exact ⟨l, on, e _ _ h1, h2⟩
/-- From here on, the function answers what stands in R. -/
def AM (P : Program) (p : Nat) (rd : Option Nat) (fn : FuncId) (todo : List CI) (fr : List AV) (h : List AB) (R : AV → List AB → Prop) : Prop :=
  ∀ (ρ : Mp) (w : World) (tmps : Array Value) (items : List Item) (b : Frame) (cs : List Frame) (rs : List Nat), b.fn = fn → b.kind = .normal → RdOk ρ b rd → p ≤ h.length → IRs P todo items → VL ρ fr tmps → Rel (KC P) ρ h w → Marks ρ h w rs →
    Ret P rd b cs (PostR P p rs ρ h w R) (lone (b.atR { tmps, defers := rs.map mkD } items) cs w)

end
end Go.Proofs.Ytbcpcjofkfgjoaa
