/- Part 5 of what the laws' proofs rest on. No condition. -/
import Derived.RangeFuncRecord
import Derived.Test.YtnnkfhlmkaobfaaCm4
set_option linter.all false
section
namespace Go.Proofs.Ytnnkfhlmkaobfaa
open Go.RowKit
/-- The places of the frame that an operation looks at. -/
def Opd.tmps : Opd → List Nat
  | .t n => [n]
  | .c _ => []
def optT : Option Opd → List Nat
  | some x => x.tmps
  | none => []
def CO.tmps : CO → List Nat
  | .mv a0 => a0.tmps
  | .pick a0 a1 a2 => a0.tmps ++ a1.tmps ++ a2.tmps
  | .bin _ a1 a2 => a1.tmps ++ a2.tmps
  | .eqb _ a1 a2 => a1.tmps ++ a2.tmps
  | .eqc _ _ a2 a3 => a2.tmps ++ a3.tmps
  | .eqn _ a1 a2 => a1.tmps ++ a2.tmps
  | .un _ a1 => a1.tmps
  | .cvi _ a1 => a1.tmps
  | .cvs a0 => a0.tmps
  | .fad _ a1 => a1.tmps
  | .fld _ _ a2 => a2.tmps
  | .iad _ a1 a2 => a1.tmps ++ a2.tmps
  | .iaa _ _ a2 a3 => a2.tmps ++ a3.tmps
  | .ixs a0 a1 => a0.tmps ++ a1.tmps
  | .ixa _ _ _ a3 a4 => a3.tmps ++ a4.tmps
  | .sls a0 a1 a2 => a0.tmps ++ optT a1 ++ optT a2
  | .sll _ a1 a2 a3 a4 => a1.tmps ++ optT a2 ++ optT a3 ++ optT a4
  | .sla _ _ a2 a3 a4 a5 => a2.tmps ++ optT a3 ++ optT a4 ++ optT a5
  | .ifc _ a1 => a1.tmps
  | .mkf _ a1 a2 => a1.flatMap Opd.tmps ++ a2.flatMap Opd.tmps
  | .ext a0 _ => a0.tmps
  | .len _ a1 => a1.tmps
  | .lnc _ => []
  | .mm _ a1 a2 => a1.tmps ++ a2.tmps
  | .nck a0 => a0.tmps
  | .tas a0 _ _ _ => a0.tmps
  | .ld _ a1 => a1.tmps
  | .st _ a1 a2 => a1.tmps ++ a2.tmps
  | .new _ _ => []
  | .box _ _ a2 => a2.tmps
  | .bld _ a1 => a1.flatMap (fun x => x.2.2.tmps)
  | .bls _ _ _ a3 => a3.flatMap (fun x => x.2.2.tmps)
  | .mks _ _ _ a3 a4 => a3.tmps ++ a4.tmps
  | .app _ _ _ _ a4 a5 => a4.tmps ++ a5.tmps
  | .cpy _ _ a2 a3 => a2.tmps ++ a3.tmps
  | .capo a0 => a0.tmps
  | .apz _ _ _ a3 a4 => a3.tmps ++ a4.tmps
  | .stop => []
  | .b2s a0 => a0.tmps
  | .clr _ a1 => a1.tmps
  | .bcmp a0 a1 => a0.tmps ++ a1.tmps
  | .call a0 a1 => a0.tmps ++ a1.flatMap Opd.tmps
def COper.tmps (o : COper) : List Nat := (match o.guard with | some (t, _) => [t] | none => []) ++ o.op.tmps
def memN (n : Nat) : List Nat → Bool
  | [] => false
  | m :: l => if Nat.beq m n then true else memN n l
/-- Is k in the set m? -/
def bit (k m : Nat) : Bool := Nat.beq (Nat.land (Nat.shiftRight m k) 1) 1
def setOf (l : List Nat) : Nat := l.foldl (fun m k => Nat.lor m (Nat.shiftLeft 1 k)) 0
def clos : List Nat → List (COper × List Nat) → List DOp
  | _, [] => []
  | acc, (o, deps) :: l =>
    let anc := deps.foldl (fun m d => Nat.lor m (Nat.lor (Nat.shiftLeft 1 d) (acc.getD d 0))) 0
    ⟨o, anc, setOf o.tmps⟩ :: clos (acc ++ [anc]) l
def indepT (e d : DOp) : Bool :=
  (match e.o.dst with
   | none => true
   | some t => !bit t d.us && (match d.o.dst with | none => true | some u => !Nat.beq u t)) &&
  (match d.o.dst with
   | none => true
   | some t => !bit t e.us)
/-- Every earlier operation stands ahead of d, with all that stand ahead of it, or has nothing to do with d. -/
def tmpOk (d : DOp) : Nat → List DOp → Bool
  | _, [] => true
  | j, e :: es => (if bit j d.anc then Nat.beq (Nat.land e.anc d.anc) e.anc else indepT e d) && tmpOk d (j + 1) es
def drawOk : List DOp → List DOp → List (List Nat) → Bool
  | _, [], [] => true
  | pre, d :: ds, dp :: dps => (dp.all fun x => bit x d.anc) && Nat.blt d.anc (2 ^ pre.length) && tmpOk d 0 pre && drawOk (pre ++ [d]) ds dps
  | _, _, _ => false
/-- What is still to be done. -/
inductive CI where
  | code (c : CC)
  | blk (id : Nat)
  | lp (c : CC)
  | sc
  | ops (l : List COper)
  | br
inductive RC where
  | t (n : Nat)
  | cell (n : Nat) (sz : Option Nat)
def cOps (P : Program) (ops : Array Oper) : List Nat → Option (List COper)
  | [] => some []
  | i :: is => (ops[i]?).bind fun o => (compO P ops o).bind fun c => (cOps P ops is).map (c :: ·)
/-- The operations that one waits for. -/
def depsOf (o : Oper) : List Nat := (o.after.toList.filter (Region.binds .any)).map (·.on)
def cDraw (P : Program) (ops : Array Oper) : List Nat → Option (List (COper × List Nat))
  | [] => some []
  | i :: is => (ops[i]?).bind fun o => (compO P ops o).bind fun c => (cDraw P ops is).map ((c, depsOf o) :: ·)
def cCode (P : Program) : Code → Option CC
  | .skip | .label _ => some .skip
  | .region id ops d => if d then (cDraw P ops (List.range ops.size)).map (fun l => if drawOk [] (clos [] l) (l.map (·.2)) then .drw id (clos [] l) else .stop) else (cOps P ops (List.range ops.size)).map (.reg id)
  | .seq a b => (cCode P a).bind fun x => (cCode P b).map (.seq x)
  | .cond c a b => match cOpd c with
    | none => some .stop
    | some o => (cCode P a).bind fun x => (cCode P b).map (.cond o x)
  | .block id a => (cCode P a).map (.block id)
  | .loop a => (cCode P a).map .loop
  | .scope a => (cCode P a).map .scope
  | .exit id => some (.exit id)
  | .ret => some .ret
  | .rangeFunc g ps a b => match cOpd g with
    | none => some .stop
    | some o => (cCode P a).bind fun x => (cCode P b).map (.rf o ps.toList x)
  | _ => some .stop
def cRes (P : Program) : List ResultVar → Option (List RC)
  | [] => some []
  | .tmp t :: rs => (cRes P rs).map (.t t :: ·)
  | .cell a t :: rs => (agN P t).bind fun n => (cRes P rs).map (.cell a n :: ·)
/-- A function, made ready. -/
structure CF where
  ntmps : Nat
  res : List RC
  body : CC
def compF (P : Program) (f : Func) : Option CF :=
  if f.name = "runtime.NumGoroutine" then none else f.body.bind fun c => (cCode P c).bind fun b => (cRes P f.results.toList).map fun r => ⟨f.ntmps, r, b⟩
def resOne (fr : List AV) (h : List AB) : RC → Option AV
  | .t n => some (fr.getD n (.tu []))
  | .cell n sz => ldV h sz (fr.getD n (.tu []))
def resAll (fr : List AV) (h : List AB) : List RC → Option (List AV)
  | [] => some []
  | r :: rs => (resOne fr h r).bind fun a => (resAll fr h rs).map (a :: ·)
def resV (fr : List AV) (h : List AB) (rs : List RC) : Option AV :=
  (resAll fr h rs).map fun
    | [a] => a
    | l => .tu l
section
variable {P : Program}
def IR (P : Program) : CI → Item → Prop
  | .code c, .code c' => cCode P c' = some c
  | .blk id, .inBlock id' => id' = id
  | .lp c, .inLoop c' => cCode P c' = some c
  | .sc, .inScope _ => True
  | .ops l, .inRegion ops is => cOps P ops is = some l
  | .br, .beginRound => True
  | _, _ => False
def IRs (P : Program) : List CI → List Item → Prop
  | [], [] => True
  | c :: cs, i :: is => IR P c i ∧ IRs P cs is
  | _, _ => False
structure EffP (p : Nat) (ρ : Mp) (h : List AB) (w : World) (ρ' : Mp) (h' : List AB) (w' : World) : Prop where
  os : w'.os = w.os
  tape : w'.tape = w.tape
  output : w'.output = w.output ∧ w.drawn ≤ w'.drawn
  size : w.heap.size ≤ w'.heap.size
  keep : ∀ b, b < w.heap.size → ¬ Own ρ h b → w'.heap[b]? = w.heap[b]?
  own : ∀ b, Own ρ' h' b → Own ρ h b ∨ w.heap.size ≤ b
  acc : ∀ (i b : Nat), At ρ' h' i b → (∃ j, At ρ h j b ∧ (i < p → j = i) ∧ (p ≤ i → p ≤ j)) ∨ Own ρ h b ∨ w.heap.size ≤ b
  fix : ∀ i, i < p → ρ'[i]? = ρ[i]?
theorem EffP.trans {p : Nat} {ρ1 ρ2 ρ3 : Mp} {h1 h2 h3 : List AB} {w1 w2 w3 : World} (a : EffP p ρ1 h1 w1 ρ2 h2 w2) (c : EffP p ρ2 h2 w2 ρ3 h3 w3) : EffP p ρ1 h1 w1 ρ3 h3 w3 :=
  ⟨c.os.trans a.os, c.tape.trans a.tape, ⟨c.output.1.trans a.output.1, Nat.le_trans a.output.2 c.output.2⟩, Nat.le_trans a.size c.size,
   fun b hb hn => (c.keep b (Nat.lt_of_lt_of_le hb a.size) (fun ho => by
     rcases a.own b ho with h | h
     · exact hn h
     · omega)).trans (a.keep b hb hn),
   fun b hb => by
     rcases c.own b hb with h | h
     · exact a.own b h
     · exact .inr (Nat.le_trans a.size h),
   fun i b hb => by
     rcases c.acc i b hb with ⟨j, h, h1, h2⟩ | h | h
     · rcases a.acc j b h with ⟨j', h', h3, h4⟩ | h | h
       · exact .inl ⟨j', h', fun q => by have := h1 q; subst this; exact h3 q, fun q => h4 (h2 q)⟩
       · exact .inr (.inl h)
       · exact .inr (.inr h)
     · exact .inr (a.own b h)
     · exact .inr (.inr (Nat.le_trans a.size h)),
   fun i hi => (c.fix i hi).trans (a.fix i hi)⟩
theorem Ext.len {ρ ρ' : Mp} (h : Ext ρ ρ') : ρ.length ≤ ρ'.length := by
  rcases Nat.lt_or_ge ρ'.length ρ.length with q | q
  · have := h ρ'.length _ (List.getElem?_eq_getElem q)
    rw [List.getElem?_eq_none (Nat.le_refl _)] at this
    cases this
  · exact q
theorem Eff.p {p : Nat} {ρ ρ' : Mp} {h h' : List AB} {w w' : World} (e : Eff ρ h w ρ' h' w') (x : Ext ρ ρ') (hp : p ≤ ρ.length) : EffP p ρ h w ρ' h' w' :=
  ⟨e.os, e.tape, e.output, e.size, e.keep, e.own, fun i b ha => by
    rcases e.liv i b ha with q | q
    · exact .inl ⟨i, q, fun _ => rfl, fun hi => hi⟩
    · exact .inr q, fun i hi => by
    have := x i _ (List.getElem?_eq_getElem (Nat.lt_of_lt_of_le hi hp))
    rw [this]
    exact (List.getElem?_eq_getElem (Nat.lt_of_lt_of_le hi hp)).symm⟩
theorem EffP.refl (p : Nat) (ρ : Mp) (h : List AB) (w : World) : EffP p ρ h w ρ h w :=
  ⟨rfl, rfl, ⟨rfl, Nat.le_refl _⟩, Nat.le_refl _, fun _ _ _ => rfl, fun _ h => .inl h, fun i _ h => .inl ⟨i, h, fun _ => rfl, fun q => q⟩, fun _ _ => rfl⟩
theorem EffP.weak {p q : Nat} {ρ ρ' : Mp} {h h' : List AB} {w w' : World} (e : EffP q ρ h w ρ' h' w') (hp : p ≤ q) : EffP p ρ h w ρ' h' w' :=
  ⟨e.os, e.tape, e.output, e.size, e.keep, e.own, fun i b ha => by
    rcases e.acc i b ha with ⟨j, h1, h2, h3⟩ | k
    · refine .inl ⟨j, h1, fun hi => h2 (by omega), fun hi => ?_⟩
      by_cases hq : i < q
      · have := h2 hq; omega
      · have := h3 (by omega); omega
    · exact .inr k, fun i hi => e.fix i (by omega)⟩
/-- The compiled form of code. -/
def KC (P : Program) : Code → CC → Prop := fun c cc => cCode P c = some cc
/-- A run az EffP has it, but that the blocks of X may have been turned. -/
structure EffX (X : List Nat) (p : Nat) (ρ : Mp) (h : List AB) (w : World) (ρ' : Mp) (h' : List AB) (w' : World) : Prop where
  os : w'.os = w.os
  tape : w'.tape = w.tape
  output : w'.output = w.output ∧ w.drawn ≤ w'.drawn
  size : w.heap.size ≤ w'.heap.size
  keep : ∀ b, b < w.heap.size → ¬ Own ρ h b → b ∉ X → w'.heap[b]? = w.heap[b]?
  own : ∀ b, Own ρ' h' b → Own ρ h b ∨ w.heap.size ≤ b
  acc : ∀ (i b : Nat), At ρ' h' i b → (∃ j, At ρ h j b ∧ (i < p → j = i) ∧ (p ≤ i → p ≤ j)) ∨ Own ρ h b ∨ w.heap.size ≤ b
  fix : ∀ i, i < p → ρ'[i]? = ρ[i]?
theorem EffP.x {p : Nat} {ρ ρ' : Mp} {h h' : List AB} {w w' : World} (e : EffP p ρ h w ρ' h' w') (X : List Nat) : EffX X p ρ h w ρ' h' w' :=
  ⟨e.os, e.tape, e.output, e.size, fun b hb hn _ => e.keep b hb hn, e.own, e.acc, e.fix⟩
theorem EffX.p {p : Nat} {ρ ρ' : Mp} {h h' : List AB} {w w' : World} (e : EffX [] p ρ h w ρ' h' w') : EffP p ρ h w ρ' h' w' :=
  ⟨e.os, e.tape, e.output, e.size, fun b hb hn => e.keep b hb hn (by simp), e.own, e.acc, e.fix⟩
/-- Behind a run, another one; what that one may turn beside is new, or may be turned. -/
theorem EffP.then {p : Nat} {X Y : List Nat} {ρ1 ρ2 ρ3 : Mp} {h1 h2 h3 : List AB} {w1 w2 w3 : World} (a : EffP p ρ1 h1 w1 ρ2 h2 w2) (c : EffX Y p ρ2 h2 w2 ρ3 h3 w3) (hY : ∀ r ∈ Y, r ∈ X ∨ w1.heap.size ≤ r) : EffX X p ρ1 h1 w1 ρ3 h3 w3 :=
  ⟨c.os.trans a.os, c.tape.trans a.tape, ⟨c.output.1.trans a.output.1, Nat.le_trans a.output.2 c.output.2⟩, Nat.le_trans a.size c.size,
   fun b hb hn hx => (c.keep b (Nat.lt_of_lt_of_le hb a.size) (fun ho => by
     rcases a.own b ho with h | h
     · exact hn h
     · omega) (fun hy => by
     rcases hY b hy with h | h
     · exact hx h
     · omega)).trans (a.keep b hb hn),
   fun b hb => by
     rcases c.own b hb with h | h
     · exact a.own b h
     · exact .inr (Nat.le_trans a.size h),
   fun i b hb => by
     rcases c.acc i b hb with ⟨j, h, h1, h2⟩ | h | h
     · rcases a.acc j b h with ⟨j', h', h3, h4⟩ | h | h
       · exact .inl ⟨j', h', fun q => by have := h1 q; subst this; exact h3 q, fun q => h4 (h2 q)⟩
       · exact .inr (.inl h)
       · exact .inr (.inr h)
     · exact .inr (a.own b h)
     · exact .inr (.inr (Nat.le_trans a.size h)),
   fun i hi => (c.fix i hi).trans (a.fix i hi)⟩
/-- What holds behind a run: the answer and the heap stand in R. -/
def PostR (P : Program) (p : Nat) (X : List Nat) (ρ : Mp) (h : List AB) (w : World) (R : AV → List AB → Prop) (v : Value) (w' : World) : Prop :=
  ∃ a h' ρ', R a h' ∧ VR ρ' a v ∧ Rel (KC P) ρ' h' w' ∧ EffX X p ρ h w ρ' h' w'
theorem PostR.from {p : Nat} {X Y : List Nat} {ρ ρ1 : Mp} {h h1 : List AB} {w w1 : World} {R : AV → List AB → Prop} {v : Value} {w' : World} (e : EffP p ρ h w ρ1 h1 w1) (q : PostR P p Y ρ1 h1 w1 R v w') (hY : ∀ r ∈ Y, r ∈ X ∨ w.heap.size ≤ r) : PostR P p X ρ h w R v w' :=
  let ⟨a, h', ρ', q1, q2, q3, q4⟩ := q
  ⟨a, h', ρ', q1, q2, q3, e.then q4 hY⟩
/-- The function of frame b is left, with an answer in Rv (rd: it is a round of a loop: then its caller goes on). -/
def Ret (P : Program) (rd : Option Nat) (b : Frame) (cs : List Frame) (Rv : Value → World → Prop) (m : Machine) : Prop :=
  ∃ v w', Rv v w' ∧ match rd with
    | none => ∃ frm, Steps P m (lone frm cs w') ∧ frm.fn = b.fn ∧ frm.leaving P w' (.returned v)
    | some _ => ∀ c cs', cs = c :: cs' → Steps P m (lone (c.finish v) cs' w')
theorem Ret.steps {rd : Option Nat} {b : Frame} {cs : List Frame} {Rv : Value → World → Prop} {m m1 : Machine} (s : Steps P m m1) (h : Ret P rd b cs Rv m1) : Ret P rd b cs Rv m := by
  obtain ⟨v, w', q1, q2⟩ := h
  refine ⟨v, w', q1, ?_⟩
  cases rd with
  | none =>
    obtain ⟨frm, q3, q4⟩ := q2
    exact ⟨frm, s.trans q3, q4⟩
  | some l => exact fun c cs' e => s.trans (q2 c cs' e)
theorem Ret.mono {rd : Option Nat} {b : Frame} {cs : List Frame} {Rv Rv' : Value → World → Prop} {m : Machine} (h : Ret P rd b cs Rv m) (hr : ∀ v w, Rv v w → Rv' v w) : Ret P rd b cs Rv' m :=
  let ⟨v, w', q1, q2⟩ := h
  ⟨v, w', hr _ _ q1, q2⟩
/-- The mark of a loop's block for deferred calls. -/
def mkD (r : Nat) : Deferred := { target := .collected r, args := #[] }
/-- Blocks for deferred calls, empty, beside all that the abstract heap has. -/
def Marks (ρ : Mp) (h : List AB) (w : World) (rs : List Nat) : Prop := rs.Nodup ∧ ∀ r ∈ rs, w.heap[r]? = some (.deferred (some [])) ∧ ∀ i, ¬ At ρ h i r
theorem Own.at {ρ : Mp} {h : List AB} {b : Nat} (o : Own ρ h b) : ∃ i, At ρ h i b := by
  obtain ⟨i, B, x, h1, h2, h3⟩ := o
  exact ⟨i, B, x, h1, AB.live_of_mut h2, h3⟩
theorem Marks.eff {p : Nat} {ρ ρ' : Mp} {h h' : List AB} {w w' : World} {rs : List Nat} (m : Marks ρ h w rs) (e : EffP p ρ h w ρ' h' w') : Marks ρ' h' w' rs :=
  ⟨m.1, fun r hr => by
    obtain ⟨h1, h2⟩ := m.2 r hr
    have hlt : r < w.heap.size := (Array.getElem?_eq_some_iff.1 h1).1
    have hno : ¬ Own ρ h r := fun o => by
      obtain ⟨i, hi⟩ := o.at
      exact h2 i hi
    refine ⟨(e.keep r hlt hno).trans h1, fun i ha => ?_⟩
    rcases e.acc i r ha with ⟨j, hj, _⟩ | h | h
    · exact h2 j hj
    · exact hno h
    · omega⟩
/-- The loop of a round's frame. -/
def RdOk (ρ : Mp) (b : Frame) : Option Nat → Prop
  | none => b.roundOf = none
  | some id => ∃ l on, ρ[id]? = some (l, on) ∧ b.roundOf = some l
theorem RdOk.ext {ρ ρ' : Mp} {b : Frame} {rd : Option Nat} (h : RdOk ρ b rd) (e : Ext ρ ρ') : RdOk ρ' b rd := by
  cases rd with
  | none => exact h
  | some id =>
    obtain ⟨l, on, h1, h2⟩ := h
    exact ⟨l, on, e _ _ h1, h2⟩
/-- From here on, the function answers what stands in R. -/
def AM (P : Program) (p : Nat) (rd : Option Nat) (fn : FuncId) (todo : List CI) (fr : List AV) (h : List AB) (R : AV → List AB → Prop) : Prop :=
  ∀ (ρ : Mp) (w : World) (tmps : Array Value) (items : List Item) (b : Frame) (cs : List Frame) (rs : List Nat), b.fn = fn → b.kind = .normal → RdOk ρ b rd → p ≤ h.length → IRs P todo items → VL ρ fr tmps → Rel (KC P) ρ h w → Marks ρ h w rs →
    Ret P rd b cs (PostR P p rs ρ h w R) (lone (b.atR { tmps, defers := rs.map mkD } items) cs w)
end
end Go.Proofs.Ytnnkfhlmkaobfaa
end
section
namespace Go.Proofs.Ytnnkfhlmkaobfaa
open Go.RowKit
section
variable {P : Program}
theorem cCode_inv {c' : Code} {c : CC} (h : cCode P c' = some c) : match c with
    | .skip => c' = .skip ∨ ∃ l, c' = .label l
    | .reg id ops => ∃ o, c' = .region id o false ∧ cOps P o (List.range o.size) = some ops
    | .drw id ds => ∃ o l, c' = .region id o true ∧ cDraw P o (List.range o.size) = some l ∧ ds = clos [] l ∧ drawOk [] ds (l.map (·.2)) = true
    | .seq a b => ∃ x y, c' = .seq x y ∧ cCode P x = some a ∧ cCode P y = some b
    | .cond q a b => ∃ o x y, c' = .cond o x y ∧ cOpd o = some q ∧ cCode P x = some a ∧ cCode P y = some b
    | .block id a => ∃ x, c' = .block id x ∧ cCode P x = some a
    | .loop a => ∃ x, c' = .loop x ∧ cCode P x = some a
    | .scope a => ∃ x, c' = .scope x ∧ cCode P x = some a
    | .exit id => c' = .exit id
    | .ret => c' = .ret
    | .stop => True
    | .rf g ps a b => ∃ o qs x y, c' = .rangeFunc o qs x y ∧ cOpd o = some g ∧ qs.toList = ps ∧ cCode P x = some a ∧ cCode P y = some b := by
  cases c' with
  | skip => cases h; exact .inl rfl
  | label l => cases h; exact .inr ⟨l, rfl⟩
  | region id ops d =>
    simp only [cCode] at h
    cases d with
    | true =>
      simp only [if_true] at h
      obtain ⟨l, hl, h⟩ := Option.map_eq_some_iff.1 h
      split at h
      · rename_i hok
        cases h
        exact ⟨ops, l, rfl, hl, rfl, hok⟩
      · cases h; trivial
    | false =>
      simp only [Bool.false_eq_true, if_false] at h
      obtain ⟨l, hl, rfl⟩ := Option.map_eq_some_iff.1 h
      exact ⟨ops, rfl, hl⟩
  | seq a b =>
    simp only [cCode] at h
    obtain ⟨x, hx, h⟩ := Option.bind_eq_some_iff.1 h
    obtain ⟨y, hy, rfl⟩ := Option.map_eq_some_iff.1 h
    exact ⟨a, b, rfl, hx, hy⟩
  | cond q a b =>
    simp only [cCode] at h
    split at h
    · cases h; trivial
    · rename_i o ho
      obtain ⟨x, hx, h⟩ := Option.bind_eq_some_iff.1 h
      obtain ⟨y, hy, rfl⟩ := Option.map_eq_some_iff.1 h
      exact ⟨q, a, b, rfl, ho, hx, hy⟩
  | rangeFunc g ps a b =>
    simp only [cCode] at h
    split at h
    · cases h; trivial
    · rename_i o ho
      obtain ⟨x, hx, h⟩ := Option.bind_eq_some_iff.1 h
      obtain ⟨y, hy, rfl⟩ := Option.map_eq_some_iff.1 h
      exact ⟨g, ps, a, b, rfl, ho, rfl, hx, hy⟩
  | block id a =>
    simp only [cCode] at h
    obtain ⟨x, hx, rfl⟩ := Option.map_eq_some_iff.1 h
    exact ⟨a, rfl, hx⟩
  | loop a =>
    simp only [cCode] at h
    obtain ⟨x, hx, rfl⟩ := Option.map_eq_some_iff.1 h
    exact ⟨a, rfl, hx⟩
  | scope a =>
    simp only [cCode] at h
    obtain ⟨x, hx, rfl⟩ := Option.map_eq_some_iff.1 h
    exact ⟨a, rfl, hx⟩
  | exit id => cases h; rfl
  | ret => cases h; rfl
  | _ => cases h; trivial
theorem IRs.code {c : CC} {k : List CI} {items : List Item} (h : IRs P (.code c :: k) items) : ∃ c' its, items = .code c' :: its ∧ cCode P c' = some c ∧ IRs P k its := by
  cases items with
  | nil => exact h.elim
  | cons i its =>
    obtain ⟨h1, h2⟩ := h
    cases i with
    | code c' => exact ⟨c', its, rfl, h1, h2⟩
    | _ => exact h1.elim
theorem IRs.blk {id : Nat} {k : List CI} {items : List Item} (h : IRs P (.blk id :: k) items) : ∃ its, items = .inBlock id :: its ∧ IRs P k its := by
  cases items with
  | nil => exact h.elim
  | cons i its =>
    obtain ⟨h1, h2⟩ := h
    cases i with
    | inBlock id' =>
      cases h1
      exact ⟨its, rfl, h2⟩
    | _ => exact h1.elim
theorem IRs.lp {c : CC} {k : List CI} {items : List Item} (h : IRs P (.lp c :: k) items) : ∃ c' its, items = .inLoop c' :: its ∧ cCode P c' = some c ∧ IRs P k its := by
  cases items with
  | nil => exact h.elim
  | cons i its =>
    obtain ⟨h1, h2⟩ := h
    cases i with
    | inLoop c' => exact ⟨c', its, rfl, h1, h2⟩
    | _ => exact h1.elim
theorem IRs.sc {k : List CI} {items : List Item} (h : IRs P (.sc :: k) items) : ∃ c' its, items = .inScope c' :: its ∧ IRs P k its := by
  cases items with
  | nil => exact h.elim
  | cons i its =>
    obtain ⟨h1, h2⟩ := h
    cases i with
    | inScope c' => exact ⟨c', its, rfl, h2⟩
    | _ => exact h1.elim
theorem IRs.ops {l : List COper} {k : List CI} {items : List Item} (h : IRs P (.ops l :: k) items) : ∃ ops is its, items = .inRegion ops is :: its ∧ cOps P ops is = some l ∧ IRs P k its := by
  cases items with
  | nil => exact h.elim
  | cons i its =>
    obtain ⟨h1, h2⟩ := h
    cases i with
    | inRegion ops is => exact ⟨ops, is, its, rfl, h1, h2⟩
    | _ => exact h1.elim
theorem IRs.br {k : List CI} {items : List Item} (h : IRs P (.br :: k) items) : ∃ its, items = .beginRound :: its ∧ IRs P k its := by
  cases items with
  | nil => exact h.elim
  | cons i its =>
    obtain ⟨h1, h2⟩ := h
    cases i with
    | beginRound => exact ⟨its, rfl, h2⟩
    | _ => exact h1.elim
theorem IRs.mbr {k : List CI} {its : List Item} (g : IRs P k its) : IRs P (.br :: k) (.beginRound :: its) := ⟨trivial, g⟩
theorem IRs.mcode {a : CC} {x : Code} {k : List CI} {its : List Item} (h : cCode P x = some a) (g : IRs P k its) : IRs P (.code a :: k) (.code x :: its) := ⟨h, g⟩
theorem IRs.mlp {a : CC} {x : Code} {k : List CI} {its : List Item} (h : cCode P x = some a) (g : IRs P k its) : IRs P (.lp a :: k) (.inLoop x :: its) := ⟨h, g⟩
theorem IRs.mblk (id : Nat) {k : List CI} {its : List Item} (g : IRs P k its) : IRs P (.blk id :: k) (.inBlock id :: its) := ⟨rfl, g⟩
theorem IRs.msc (x : Code) {k : List CI} {its : List Item} (g : IRs P k its) : IRs P (.sc :: k) (.inScope x :: its) := ⟨trivial, g⟩
theorem IRs.mops {l : List COper} {ops : Array Oper} {is : List Nat} {k : List CI} {its : List Item} (h : cOps P ops is = some l) (g : IRs P k its) : IRs P (.ops l :: k) (.inRegion ops is :: its) := ⟨h, g⟩
def cexit (id : Nat) : List CI → Option (List CI)
  | .blk id' :: k => if id' = id then some k else cexit id k
  | _ :: k => cexit id k
  | [] => none
theorem cexit_ok (id : Nat) : ∀ (k k' : List CI) (items : List Item), IRs P k items → cexit id k = some k' → ∃ its, exitTo id items = some its ∧ IRs P k' its
  | [], k', items, _, e => by cases e
  | .blk id' :: k, k', items, h, e => by
    obtain ⟨its, rfl, h'⟩ := h.blk
    simp only [cexit] at e
    by_cases hid : id' = id
    · rw [if_pos hid] at e
      cases e
      exact ⟨its, by simp [exitTo, hid], h'⟩
    · rw [if_neg hid] at e
      obtain ⟨its', h1, h2⟩ := cexit_ok id k k' its h' e
      exact ⟨its', by simp [exitTo, hid, h1], h2⟩
  | .code c :: k, k', items, h, e => by
    obtain ⟨c', its, rfl, _, h'⟩ := h.code
    obtain ⟨its', h1, h2⟩ := cexit_ok id k k' its h' e
    exact ⟨its', by simp [exitTo, h1], h2⟩
  | .lp c :: k, k', items, h, e => by
    obtain ⟨c', its, rfl, _, h'⟩ := h.lp
    obtain ⟨its', h1, h2⟩ := cexit_ok id k k' its h' e
    exact ⟨its', by simp [exitTo, h1], h2⟩
  | .sc :: k, k', items, h, e => by
    obtain ⟨c', its, rfl, h'⟩ := h.sc
    obtain ⟨its', h1, h2⟩ := cexit_ok id k k' its h' e
    exact ⟨its', by simp [exitTo, h1], h2⟩
  | .ops l :: k, k', items, h, e => by
    obtain ⟨ops, is, its, rfl, _, h'⟩ := h.ops
    obtain ⟨its', h1, h2⟩ := cexit_ok id k k' its h' e
    exact ⟨its', by simp [exitTo, h1], h2⟩
  | .br :: k, k', items, h, e => by
    obtain ⟨its, rfl, h'⟩ := h.br
    obtain ⟨its', h1, h2⟩ := cexit_ok id k k' its h' e
    exact ⟨its', by simp [exitTo, h1], h2⟩
theorem cexit_none (id : Nat) : ∀ (k : List CI) (items : List Item), IRs P k items → cexit id k = none → exitTo id items = none
  | [], items, h, _ => by
    match items, h with
    | [], _ => rfl
  | .blk id' :: k, items, h, e => by
    obtain ⟨its, rfl, h'⟩ := h.blk
    simp only [cexit] at e
    by_cases hid : id' = id
    · rw [if_pos hid] at e
      cases e
    · rw [if_neg hid] at e
      simp [exitTo, hid, cexit_none id k its h' e]
  | .code c :: k, items, h, e => by
    obtain ⟨c', its, rfl, _, h'⟩ := h.code
    simp [exitTo, cexit_none id k its h' e]
  | .lp c :: k, items, h, e => by
    obtain ⟨c', its, rfl, _, h'⟩ := h.lp
    simp [exitTo, cexit_none id k its h' e]
  | .sc :: k, items, h, e => by
    obtain ⟨c', its, rfl, h'⟩ := h.sc
    simp [exitTo, cexit_none id k its h' e]
  | .ops l :: k, items, h, e => by
    obtain ⟨ops, is, its, rfl, _, h'⟩ := h.ops
    simp [exitTo, cexit_none id k its h' e]
  | .br :: k, items, h, e => by
    obtain ⟨its, rfl, h'⟩ := h.br
    simp [exitTo, cexit_none id k its h' e]
/-- One step of the abstract machine; none: it is no step of hers (a call, a loop, the end). -/
def astep : List CI → List AV → List AB → Option (List CI × List AV × List AB)
  | .code c :: k, fr, h => match c with
    | .skip => some (k, fr, h)
    | .seq a b => some (.code a :: .code b :: k, fr, h)
    | .cond c a b => match c.ev fr with
      | .b true => some (.code a :: k, fr, h)
      | .b false => some (.code b :: k, fr, h)
      | _ => none
    | .block id a => some (.code a :: .blk id :: k, fr, h)
    | .scope a => some (.code a :: .sc :: k, fr, h)
    | .exit id => (cexit id k).map (·, fr, h)
    | .reg _ ops => some (.ops ops :: k, fr, h)
    | _ => none
  | .blk _ :: k, fr, h => some (k, fr, h)
  | .sc :: k, fr, h => some (k, fr, h)
  | .ops [] :: k, fr, h => some (k, fr, h)
  | .ops (o :: l) :: k, fr, h =>
    if gknown fr o.guard then
      match wants fr o.guard with
      | true => (o.op.run (Opd.ev fr) h).map fun (v, h') => (.ops l :: k, put fr o.dst v, h')
      | false => some (.ops l :: k, put fr o.dst (.tu []), h)
    else none
  | _, _, _ => none
theorem compOpS_defer {o : Op} {c : CO} (h : compOpS P o = some c) : ∀ q, o ≠ .defer q := fun q e => by
  subst e
  cases h
theorem compOpS_run {o : Op} {c : CO} (h : compOpS P o = some c) (hc : c ≠ .stop) : compOp P o = some c := by
  unfold compOpS at h
  split at h
  · cases h
  · cases hq : compOp P o with
    | none => rw [hq] at h; cases h; exact absurd rfl hc
    | some d => rw [hq] at h; cases h; rfl
theorem run_stop {ev : Opd → AV} {h : List AB} {c : CO} {r : AV × List AB} (e : c.run ev h = some r) : c ≠ .stop := fun q => by
  subst q
  cases e
theorem compO_some {ops : Array Oper} {o : Oper} {c : COper} (h : compO P ops o = some c) : compOpS P o.op = some c.op ∧ c.dst = o.dst ∧ (match o.guard with | none => c.guard = none | some (j, want) => ∃ t, (ops[j]?).bind (·.dst) = some t ∧ c.guard = some (t, want)) := by
  unfold compO at h
  obtain ⟨op, hop, h⟩ := Option.bind_eq_some_iff.1 h
  split at h
  · rename_i hg
    cases h
    exact ⟨hop, rfl, by first | rw [hg] | rfl⟩
  · rename_i j want hg
    obtain ⟨t, ht, rfl⟩ := Option.map_eq_some_iff.1 h
    refine ⟨hop, rfl, ?_⟩
    try rw [hg]
    exact ⟨t, ht, rfl⟩
theorem wants_ok {ρ : Mp} {fr : List AV} {tmps : Array Value} (hv : VL ρ fr tmps) {ops : Array Oper} {o : Oper} {c : COper} (h : compO P ops o = some c) (hk : gknown fr c.guard = true) : Region.wanted o (yielded ops tmps) = wants fr c.guard := by
  obtain ⟨_, _, hg⟩ := compO_some h
  unfold Region.wanted
  split at hg
  · rename_i hn
    rw [hn, hg]
    rfl
  · rename_i j want hs
    obtain ⟨t, ht, hc⟩ := hg
    rw [hs, hc]
    rw [hc] at hk
    simp only [wants, gknown] at hk ⊢
    unfold yielded
    rw [ht]
    simp only [Option.bind_some]
    cases hf : fr[t]? with
    | none =>
      have : tmps[t]? = none := Array.getElem?_eq_none (by rw [← hv.1]; exact (List.getElem?_eq_none_iff.1 hf))
      rw [this]
      cases want <;> rfl
    | some a =>
      rw [hf] at hk
      obtain ⟨v, hv1, hv2⟩ := hv.get hf
      rw [hv1]
      cases hv2 with
      | top v => simp [AV.known] at hk
      | b x => cases x <;> cases want <;> rfl
      | _ => simp
theorem put_ok {ρ : Mp} {fr : List AV} {a : Act} (hv : VL ρ fr a.tmps) (d : Option Nat) {x : AV} {v : Value} (hx : VR ρ x v) : VL ρ (put fr d x) (a.put d v).tmps ∧ (a.put d v).defers = a.defers := by
  cases d with
  | none => exact ⟨hv, rfl⟩
  | some d => exact ⟨hv.set d hx, rfl⟩
theorem AM.go {p : Nat} {rd : Option Nat} {fn : FuncId} {todo todo' : List CI} {fr fr' : List AV} {h h' : List AB} {R : AV → List AB → Prop} (e : astep todo fr h = some (todo', fr', h')) (g : AM P p rd fn todo' fr' h' R) : AM P p rd fn todo fr h R := by
  intro ρ w tmps items bf cs rs hf hk hro hp hi hv hr hmk
  have same : ∀ {items' : List Item}, h' = h → fr' = fr → IRs P todo' items' → step P (lone (bf.atR { tmps, defers := rs.map mkD } items) cs w) = .next (lone (bf.atR { tmps, defers := rs.map mkD } items') cs w) → Ret P rd bf cs (PostR P p rs ρ h w R) (lone (bf.atR { tmps, defers := rs.map mkD } items) cs w) := by
    rintro items' rfl rfl hi' hs
    exact (g ρ w tmps items' bf cs rs hf hk hro hp hi' hv hr hmk).steps (.one hs)
  cases todo with
  | nil => cases e
  | cons c k =>
    cases c with
    | blk id =>
      obtain ⟨its, rfl, hi2⟩ := hi.blk
      cases e
      exact same rfl rfl hi2 stepR_inBlock
    | sc =>
      obtain ⟨c', its, rfl, hi2⟩ := hi.sc
      cases e
      exact same rfl rfl hi2 (step_lone_go (by simp [stepG, stepG.exec, Frame.atR]))
    | lp c => cases e
    | br => cases e
    | code c =>
      obtain ⟨c', its, rfl, hc, hi2⟩ := hi.code
      have inv := cCode_inv hc
      cases c with
      | skip =>
        cases e
        rcases inv with rfl | ⟨l, rfl⟩
        · exact same rfl rfl hi2 stepR_skip
        · exact same rfl rfl hi2 stepR_label
      | seq a b =>
        obtain ⟨x, y, rfl, h1, h2⟩ := inv
        cases e
        exact same rfl rfl (.mcode h1 (.mcode h2 hi2)) stepR_seq
      | cond q a b =>
        obtain ⟨o, x, y, rfl, h0, h1, h2⟩ := inv
        have hev := EV.of (a := { tmps, defers := rs.map mkD }) hv o q h0
        simp only [astep] at e
        split at e
        · rename_i hq
          cases e
          rw [hq] at hev
          generalize hvc : Act.eval { tmps, defers := rs.map mkD } o = vc at hev
          cases hev
          exact same rfl rfl (items' := .code x :: its) (.mcode h1 hi2) (stepR_cond hvc)
        · rename_i hq
          cases e
          rw [hq] at hev
          generalize hvc : Act.eval { tmps, defers := rs.map mkD } o = vc at hev
          cases hev
          exact same rfl rfl (items' := .code y :: its) (.mcode h2 hi2) (stepR_cond hvc)
        · cases e
      | block id a =>
        obtain ⟨x, rfl, h1⟩ := inv
        cases e
        exact same rfl rfl (.mcode h1 (.mblk id hi2)) stepR_block
      | scope a =>
        obtain ⟨x, rfl, h1⟩ := inv
        cases e
        exact same rfl rfl (items' := .code x :: .inScope x :: its) (.mcode h1 (.msc x hi2)) (step_lone_go (by simp [stepG, stepG.exec, Frame.atR]))
      | exit id =>
        cases inv
        obtain ⟨k', hk', e⟩ := Option.map_eq_some_iff.1 e
        cases e
        obtain ⟨its', h1, h2⟩ := cexit_ok id _ _ _ hi2 hk'
        exact same rfl rfl h2 (stepR_exit h1)
      | reg id l =>
        obtain ⟨o, rfl, h1⟩ := inv
        cases e
        exact same rfl rfl (.mops h1 hi2) stepR_region
      | drw id l => cases e
      | loop a => cases e
      | ret => cases e
      | stop => cases e
      | rf g ps a b => cases e
    | ops l =>
      obtain ⟨ops, is, its, rfl, hc, hi2⟩ := hi.ops
      cases l with
      | nil =>
        cases e
        cases is with
        | nil => exact same rfl rfl hi2 stepR_region_end
        | cons i is =>
          simp only [cOps] at hc
          obtain ⟨_, _, hc⟩ := Option.bind_eq_some_iff.1 hc
          obtain ⟨_, _, hc⟩ := Option.bind_eq_some_iff.1 hc
          obtain ⟨_, _, hc⟩ := Option.map_eq_some_iff.1 hc
          cases hc
      | cons c l =>
        cases is with
        | nil => cases hc
        | cons i is =>
          simp only [cOps] at hc
          obtain ⟨o, ho, hc⟩ := Option.bind_eq_some_iff.1 hc
          obtain ⟨c', hc', hc⟩ := Option.bind_eq_some_iff.1 hc
          obtain ⟨l', hl', hc⟩ := Option.map_eq_some_iff.1 hc
          cases hc
          obtain ⟨hop, hdst, _⟩ := compO_some hc'
          simp only [astep] at e
          split at e
          case isFalse => cases e
          rename_i hkn
          have hw := wants_ok hv hc' hkn
          have hfin : ∀ (u : Value) (w' : World), (bf.atR { tmps, defers := rs.map mkD } (.inRegion ops (i :: is) :: its)).finish u = bf.atR (Act.put { tmps, defers := rs.map mkD } o.dst u) (.inRegion ops is :: its) := fun u _ => by
            rw [Frame.finish_atR, ho]
            rfl
          split at e
          · rename_i hwt
            rw [hwt] at hw
            obtain ⟨⟨v, h1⟩, hrun, e⟩ := Option.map_eq_some_iff.1 e
            cases e
            obtain ⟨v', w', ρ', hor, hext, hrel, hvr, heff⟩ := exec_ok hr (EV.of (a := { tmps, defers := rs.map mkD }) hv) (compOpS_run hop (run_stop hrun)) hrun
            have hput := put_ok (a := { tmps, defers := rs.map mkD }) (hv.ext hext) c.dst hvr
            have hlen := hext.len
            rw [hr.len] at hlen
            have g' := g ρ' w' (Act.put { tmps, defers := rs.map mkD } c.dst v').tmps (.inRegion ops is :: its) bf cs rs hf hk (hro.ext hext) (by rw [← hrel.len]; omega) (.mops hl' hi2) hput.1 hrel (hmk.eff (heff.p hext (by rw [hr.len]; exact hp)))
            have hact : (⟨(Act.put { tmps, defers := rs.map mkD } c.dst v').tmps, rs.map mkD⟩ : Act) = Act.put { tmps, defers := rs.map mkD } c.dst v' := by
              cases c.dst <;> rfl
            rw [hact] at g'
            have hstep : step P (lone (bf.atR { tmps, defers := rs.map mkD } (.inRegion ops (i :: is) :: its)) cs w) = .next (lone (bf.atR (Act.put { tmps, defers := rs.map mkD } c.dst v') (.inRegion ops is :: its)) cs w') := by
              refine step_lone_go ?_
              rw [stepGR_op ho hw, Oper.semAt_eq _ _ _ (compOpS_defer hop), hdst]
              rcases hor with hok | ⟨hok, rfl⟩
              · rw [← hfin v' w']; simp [stepG.apply, Sem.runT_eq, hok, GStep.bare_after]
              · rw [← hfin undef w']; simp [stepG.apply, Sem.runT_eq, hok, GStep.bare_after]
            exact (g'.mono fun v w'' q => q.from (heff.p hext (by rw [hr.len]; exact hp)) (fun r hr => .inl hr)).steps (.one hstep)
          · rename_i hwt
            rw [hwt] at hw
            cases e
            have hput := put_ok (a := { tmps, defers := rs.map mkD }) hv c.dst (x := .tu []) (v := undef) (.tu [] #[] rfl (fun j a c h => by simp at h))
            have g' := g ρ w (Act.put { tmps, defers := rs.map mkD } c.dst undef).tmps (.inRegion ops is :: its) bf cs rs hf hk hro hp (.mops hl' hi2) hput.1 hr hmk
            have hact : (⟨(Act.put { tmps, defers := rs.map mkD } c.dst undef).tmps, rs.map mkD⟩ : Act) = Act.put { tmps, defers := rs.map mkD } c.dst undef := by
              cases c.dst <;> rfl
            rw [hact] at g'
            refine g'.steps (.one ?_)
            have := stepR_op_skip (P := P) (b := bf) (a := { tmps, defers := rs.map mkD }) (k := its) (cs := cs) (w := w) (ops := ops) (i := i) (rest := is) (by simp [ho, hw])
            rw [ho] at this
            rw [hdst]
            exact this
end
end Go.Proofs.Ytnnkfhlmkaobfaa
end
section
namespace Go.Proofs.Ytnnkfhlmkaobfaa
open Go.RowKit
mutual
/-- The numbers of the blocks that a value names. -/
def AV.ids : AV → List Nat
  | .p id _ => [id]
  | .sl id _ _ _ _ => [id]
  | .f _ fst cap => idsL fst ++ idsL cap
  | .ifc _ v => v.ids
  | .ag l => idsL l
  | .tu l => idsL l
  | .y id => [id]
  | _ => []
def idsL : List AV → List Nat
  | [] => []
  | a :: l => a.ids ++ idsL l
end
def blkIds (h : List AB) (id : Nat) : List Nat :=
  match h[id]? with
  | some (.blk false _ xs) => idsL xs
  | some (.lp _ _ fr _ _ _) => idsL fr
  | _ => []
/-- All blocks that are reached from these. -/
def reach (h : List AB) : Nat → List Nat → List Nat → List Nat
  | 0, _, seen => seen
  | _, [], seen => seen
  | n + 1, id :: todo, seen => if memN id seen then reach h n todo seen else reach h n (blkIds h id ++ todo) (id :: seen)
end Go.Proofs.Ytnnkfhlmkaobfaa
end
section
namespace Go.Proofs.Ytnnkfhlmkaobfaa
open Go.RowKit
section
variable {P : Program}
/-- Operation i is done: the value and the heap are those that the abstract machine says. -/
def OpOk (P : Program) (ops : Array Oper) (i : Nat) (dst : Option Nat) (fr : List AV) (h : List AB) (v : AV) (h' : List AB) : Prop :=
  ∀ (ρ : Mp) (w : World) (tmps : Array Value) (is : List Nat) (its : List Item) (b : Frame) (cs : List Frame) (ds : List Deferred), b.kind = .normal → VL ρ fr tmps → Rel (KC P) ρ h w →
    ∃ v' w' ρ', Steps P (lone (b.atR { tmps, defers := ds } (.inRegion ops (i :: is) :: its)) cs w) (lone (b.atR (Act.put { tmps, defers := ds } dst v') (.inRegion ops is :: its)) cs w') ∧ VR ρ' v v' ∧ Rel (KC P) ρ' h' w' ∧ EffP h.length ρ h w ρ' h' w'
theorem op_plain {ops : Array Oper} {i : Nat} {o : Oper} {c : COper} (ho : ops[i]? = some o) (hc : compO P ops o = some c) {fr : List AV} {h h' : List AB} {v : AV} (hk : gknown fr c.guard = true) (hwt : wants fr c.guard = true)
    (hrun : c.op.run (Opd.ev fr) h = some (v, h')) : OpOk P ops i c.dst fr h v h' := by
  intro ρ w tmps is its bf cs ds hkn hv hr
  obtain ⟨hop, hdst, _⟩ := compO_some hc
  have hw := wants_ok hv hc hk
  rw [hwt] at hw
  have hfin : ∀ (u : Value), (bf.atR { tmps, defers := ds } (.inRegion ops (i :: is) :: its)).finish u = bf.atR (Act.put { tmps, defers := ds } o.dst u) (.inRegion ops is :: its) := fun u => by
    rw [Frame.finish_atR, ho]
    rfl
  obtain ⟨v', w', ρ', hor, hext, hrel, hvr, heff⟩ := exec_ok hr (EV.of (a := { tmps, defers := ds }) hv) (compOpS_run hop (run_stop hrun)) hrun
  refine ⟨v', w', ρ', .one (step_lone_go ?_), hvr, hrel, heff.p hext (by rw [hr.len]; exact Nat.le_refl _)⟩
  rw [stepGR_op ho hw, Oper.semAt_eq _ _ _ (compOpS_defer hop), hdst]
  rcases hor with hok | ⟨hok, rfl⟩
  · rw [← hfin v']; simp [stepG.apply, Sem.runT_eq, hok, GStep.bare_after]
  · rw [← hfin undef]; simp [stepG.apply, Sem.runT_eq, hok, GStep.bare_after]
theorem op_skip {ops : Array Oper} {i : Nat} {o : Oper} {c : COper} (ho : ops[i]? = some o) (hc : compO P ops o = some c) {fr : List AV} {h : List AB} (hk : gknown fr c.guard = true) (hwt : wants fr c.guard = false) : OpOk P ops i c.dst fr h (.tu []) h := by
  intro ρ w tmps is its bf cs ds hkn hv hr
  obtain ⟨hop, hdst, _⟩ := compO_some hc
  have hw := wants_ok hv hc hk
  rw [hwt] at hw
  refine ⟨undef, w, ρ, .one ?_, .tu [] #[] rfl (fun j a c h => by simp at h), hr, EffP.refl _ _ _ _⟩
  have := stepR_op_skip (P := P) (b := bf) (a := { tmps, defers := ds }) (k := its) (cs := cs) (w := w) (ops := ops) (i := i) (rest := is) (by simp [ho, hw])
  rw [ho] at this
  rw [hdst]
  exact this
theorem r_blk {ρ : Mp} {h : List AB} {w : World} (hr : Rel (KC P) ρ h w) {id : Nat} {st : LoopState} {pd : XE} {fr0 : List AV} {ps : List Nat} {asg bd : CC} (hlp : h[id]? = some (.lp st pd fr0 ps asg bd)) {b o n : Nat} (hρ : ρ[id]? = some (b, o, n)) :
    ∃ r : Loop, w.heap[b]? = some (.loop r) ∧ r.state = st ∧ r.pending = pd.jump ∧ VL ρ fr0 r.tmps ∧ r.params.toList = ps ∧ cCode P r.assign = some asg ∧ cCode P r.body = some bd := hr.blk id _ b o n hlp hρ
/-- No call comes of this. -/
def NC (x : Option CO) : Prop := ∀ f a, x ≠ some (.call f a)
theorem nc_none : NC none := fun _ _ h => nomatch h
theorem nc_bind {α : Type} {x : Option α} {g : α → Option CO} (h : ∀ y, NC (g y)) : NC (x.bind g) := by
  cases x with
  | none => exact nc_none
  | some y => exact h y
theorem nc_map {α : Type} {x : Option α} {g : α → CO} (h : ∀ y f a, g y ≠ .call f a) : NC (x.map g) := by
  cases x with
  | none => exact nc_none
  | some y => exact fun f a e => h y f a (Option.some.inj e)
theorem nc_some {c : CO} (h : ∀ f a, c ≠ .call f a) : NC (some c) := fun f a e => h f a (Option.some.inj e)
theorem nc_b (b : Builtin) (az : List Operand) (ts : List TypeId) : NC (compB P b az ts) := by
  unfold compB
  split <;> (repeat' (first | exact nc_none | exact nc_some (fun _ _ h => nomatch h) | exact nc_map (fun _ _ _ h => nomatch h) | refine nc_bind (fun _ => ?_) | split))
theorem nc_bin (op : BinOp) (t : TypeId) (x y : Operand) : NC (cBin P op t x y) := by
  unfold cBin
  repeat' (first | exact nc_none | exact nc_some (fun _ _ h => nomatch h) | exact nc_map (fun _ _ _ h => nomatch h) | refine nc_bind (fun _ => ?_) | split)
theorem nc_conv (s d : TypeId) (x : Operand) : NC (cConv P s d x) := by
  unfold cConv
  repeat' (first | exact nc_none | exact nc_some (fun _ _ h => nomatch h) | exact nc_map (fun _ _ _ h => nomatch h) | refine nc_bind (fun _ => ?_) | split)
theorem compOp_call {o : Op} {f : Opd} {args : List Opd} (h : compOp P o = some (.call f args)) : ∃ c fo, o = .call c ∧ c.callee = .value fo ∧ cOpd fo = some f ∧ cOpds c.args.toList = some args := by
  cases o with
  | call c =>
    simp only [compOp, compCall] at h
    split at h
    · exact absurd h (nc_b _ _ _ _ _)
    · rename_i fo hcal
      split at h
      · obtain ⟨a, ha, h⟩ := Option.bind_eq_some_iff.1 h
        obtain ⟨l, hl, h⟩ := Option.map_eq_some_iff.1 h
        cases h
      · obtain ⟨a, ha, h⟩ := Option.bind_eq_some_iff.1 h
        obtain ⟨l, hl, h⟩ := Option.map_eq_some_iff.1 h
        cases h
        exact ⟨c, fo, rfl, hcal, ha, hl⟩
    · cases h
  | binOp => exact absurd h (nc_bin _ _ _ _ _ _)
  | convert => exact absurd h (nc_conv _ _ _ _ _)
  | _ =>
    have key : ∀ {x : Option CO}, x = some (.call f args) → NC x → False := fun e n => n _ _ e
    refine (key h ?_).elim
    simp only [compOp]
    repeat' (first | exact nc_none | exact nc_some (fun _ _ h => nomatch h) | exact nc_map (fun _ _ _ h => nomatch h) | refine nc_bind (fun _ => ?_) | split)
theorem compF_some {f : Func} {cf : CF} (h : compF P f = some cf) : (f.name == "runtime.NumGoroutine") = false ∧ ∃ c, f.body = some c ∧ cCode P c = some cf.body ∧ cRes P f.results.toList = some cf.res ∧ cf.ntmps = f.ntmps := by
  unfold compF at h
  split at h
  · cases h
  · rename_i hn
    obtain ⟨c, hc, h⟩ := Option.bind_eq_some_iff.1 h
    obtain ⟨b, hb, h⟩ := Option.bind_eq_some_iff.1 h
    obtain ⟨r, hr, rfl⟩ := Option.map_eq_some_iff.1 h
    exact ⟨by simpa using hn, c, hc, hb, hr, rfl⟩
theorem vl_repl (ρ : Mp) (n : Nat) : VL ρ (List.replicate n (.tu [])) (Array.replicate n undef) :=
  ⟨by simp, fun j a c h1 h2 => by
    rw [List.getElem?_replicate] at h1
    rw [Array.getElem?_replicate] at h2
    split at h1
    · rw [if_pos (by assumption)] at h2
      cases h1; cases h2
      exact .tu [] #[] rfl (fun j a c h => by simp at h)
    · cases h1⟩
theorem op_call {ops : Array Oper} {i : Nat} {o : Oper} {c : COper} (ho : ops[i]? = some o) (hc : compO P ops o = some c) {fr : List AV} {h h' : List AB} {v : AV} (hk : gknown fr c.guard = true) (hwt : wants fr c.guard = true)
    {f : Opd} {args : List Opd} (hcc : c.op = .call f args) {g : FuncId} {fst cap : List AV} (hfv : f.ev fr = .f (.func g) fst cap) {fn : Func} {cf : CF} (hfn : P.funcs[g]? = some fn) (hcf : compF P fn = some cf)
    (hcall : AM P h.length none g [.code cf.body] (fst ++ args.map (Opd.ev fr) ++ cap ++ List.replicate (cf.ntmps - (fst ++ args.map (Opd.ev fr) ++ cap).length) (.tu [])) h (fun a h'' => a = v ∧ h'' = h')) : OpOk P ops i c.dst fr h v h' := by
  intro ρ w tmps is its bf cs ds hkn hv hr
  obtain ⟨hop, hdst, _⟩ := compO_some hc
  have hw := wants_ok hv hc hk
  rw [hwt] at hw
  have hfin : ∀ (u : Value), (bf.atR { tmps, defers := ds } (.inRegion ops (i :: is) :: its)).finish u = bf.atR (Act.put { tmps, defers := ds } o.dst u) (.inRegion ops is :: its) := fun u => by
    rw [Frame.finish_atR, ho]
    rfl
  have hopS := hop
  rw [hcc] at hop
  obtain ⟨cl, fo, hoc, hcal, hcf1, hcargs⟩ := compOp_call (compOpS_run hop (fun q => nomatch q))
  have hev := EV.of (a := { tmps, defers := ds }) hv
  have h1 := hev fo f hcf1
  rw [hfv] at h1
  have h2 := hev.vl hcargs
  generalize hfoe : Act.eval { tmps, defers := ds } fo = vf at h1
  cases h1 with
  | f _ _ _ fst' cap' hl0 hl hvc0 hvc =>
  obtain ⟨hname, body, hbody, hcb, hres, hnt⟩ := compF_some hcf
  have hargs : VL ρ (fst ++ args.map (Opd.ev fr) ++ cap) (fst' ++ cl.args.map (Act.eval { tmps, defers := ds }) ++ cap') := by
    have h3 : (cl.args.toList.map (Act.eval { tmps, defers := ds })).toArray = cl.args.map (Act.eval { tmps, defers := ds }) := by simp [← Array.toList_map]
    rw [← h3]
    exact VL.append (VL.append ⟨hl0, hvc0⟩ h2) ⟨hl, hvc⟩
  have hrun : (execOp (Act.eval { tmps, defers := ds }) o).run P w = .ok (.enter g (fst' ++ cl.args.map (Act.eval { tmps, defers := ds }) ++ cap')) w := by
    simp [execOp, hoc, resolve, hcal, hfoe, Deferred.ofValue, invoke, callFunc, hfn, show fn.name ≠ "runtime.NumGoroutine" by simpa using hname, hbody]
  let bf' : Frame := { (default : Frame) with fn := g, kind := .normal, roundOf := none }
  have henter : Frame.enter P g (fst' ++ cl.args.map (Act.eval { tmps, defers := ds }) ++ cap') .normal =
      bf'.atR { tmps := (fst' ++ cl.args.map (Act.eval { tmps, defers := ds }) ++ cap') ++ Array.replicate (fn.ntmps - (fst' ++ cl.args.map (Act.eval { tmps, defers := ds }) ++ cap').size) undef, defers := [] } [.code body] := by
    simp [Frame.enter, Frame.atR, hfn, hbody, bf']
  have hsz : (fst ++ args.map (Opd.ev fr) ++ cap).length = (fst' ++ cl.args.map (Act.eval { tmps, defers := ds }) ++ cap').size := hargs.1
  obtain ⟨v', w', ⟨a, h'', ρ', ⟨rfl, rfl⟩, hva, hrel, heff⟩, frm, hsteps, hfrm, hleave⟩ := hcall ρ w _ [.code body] bf' (bf.atR { tmps, defers := ds } (.inRegion ops (i :: is) :: its) :: cs) [] rfl rfl rfl (Nat.le_refl _) (.mcode hcb trivial) (hargs.append (by rw [hsz, hnt]; exact vl_repl ρ _)) hr ⟨List.nodup_nil, fun r h => by simp at h⟩
  refine ⟨v', w', ρ', Steps.head (m₁ := lone (Frame.enter P g (fst' ++ cl.args.map (Act.eval { tmps, defers := ds }) ++ cap') .normal) (bf.atR { tmps, defers := ds } (.inRegion ops (i :: is) :: its) :: cs) w) (step_lone_go ?_) ?_, hva, hrel, heff.p⟩
  · rw [stepGR_op ho hw, Oper.semAt_eq _ _ _ (compOpS_defer hopS)]
    simp [stepG.apply, Sem.runT_eq, hrun, GStep.bare_after, Frame.atR]
  · rw [henter, hdst, ← hfin v']
    exact hsteps.trans (.one (step_leave_returned hleave))
/-- The frame of a round: the loop's frame, the parameters filled. -/
def setPs : List Nat → List AV → List AV → List AV
  | p :: ps, a :: az, fr => setPs ps az (fr.set p a)
  | _, _, fr => fr
theorem setPs_ok {ρ : Mp} : ∀ (ps : List Nat) (az : List AV) (vs : List Value) (fr : List AV) (tmps : Array Value), ps.length = az.length → VL ρ az vs.toArray → VL ρ fr tmps → VL ρ (setPs ps az fr) (((ps.zip vs)).foldl (fun tmps x => tmps.setIfInBounds x.1 x.2) tmps)
  | [], [], vs, fr, tmps, _, _, h => by simpa [setPs] using h
  | p :: ps, a :: az, vs, fr, tmps, hl, ha, h => by
    cases vs with
    | nil => have := ha.1; simp at this
    | cons v vs =>
      simp only [setPs, List.zip_cons_cons, List.foldl_cons]
      refine setPs_ok ps az vs _ _ (by simpa using hl) ⟨by have := ha.1; simpa using this, fun j x y h1 h2 => ha.2 (j + 1) x y (by simpa using h1) (by simpa using h2)⟩ (h.set p (ha.2 0 a v rfl rfl))
  | [], _ :: _, _, _, _, hl, _, _ => by simp at hl
  | _ :: _, [], _, _, _, hl, _, _ => by simp at hl
theorem op_yield {ops : Array Oper} {i : Nat} {o : Oper} {c : COper} (ho : ops[i]? = some o) (hc : compO P ops o = some c) {fr : List AV} {h h' : List AB} {v : AV} (hk : gknown fr c.guard = true) (hwt : wants fr c.guard = true)
    {f : Opd} {args : List Opd} (hcc : c.op = .call f args) {id : Nat} (hfv : f.ev fr = .y id) {st : LoopState} {pd : XE} {fr0 : List AV} {ps : List Nat} {asg bd : CC} (hlp : h[id]? = some (.lp st pd fr0 ps asg bd)) (hps : ps.length = args.length)
    (hcall : ∀ g, AM P h.length (some id) g [.code asg, .br, .code bd] (setPs ps (args.map (Opd.ev fr)) fr0) h (fun a h'' => a = v ∧ h'' = h')) : OpOk P ops i c.dst fr h v h' := by
  intro ρ w tmps is its bf cs ds hkn hv hr
  obtain ⟨hop, hdst, _⟩ := compO_some hc
  have hw := wants_ok hv hc hk
  rw [hwt] at hw
  have hfin : ∀ (u : Value), (bf.atR { tmps, defers := ds } (.inRegion ops (i :: is) :: its)).finish u = bf.atR (Act.put { tmps, defers := ds } o.dst u) (.inRegion ops is :: its) := fun u => by
    rw [Frame.finish_atR, ho]
    rfl
  have hopS := hop
  rw [hcc] at hop
  obtain ⟨cl, fo, hoc, hcal, hcf1, hcargs⟩ := compOp_call (compOpS_run hop (fun q => nomatch q))
  have hev := EV.of (a := { tmps, defers := ds }) hv
  have h1 := hev fo f hcf1
  rw [hfv] at h1
  have h2 := hev.vl hcargs
  generalize hfoe : Act.eval { tmps, defers := ds } fo = vf at h1
  cases h1 with
  | y _ l on n hρ =>
  obtain ⟨r, hr1, hr2, hr3, hr4, hr5, hr6, hr7⟩ := r_blk hr hlp hρ
  have hargsz : (cl.args.map (Act.eval { tmps, defers := ds })).size = r.params.size := by
    have := h2.1
    simp at this
    rw [Array.size_map, ← Array.length_toList (xs := r.params), hr5, hps]
    exact this.symm
  have hrun : (execOp (Act.eval { tmps, defers := ds }) o).run P w = .ok (.round l r.fn ((r.params.zip (cl.args.map (Act.eval { tmps, defers := ds }))).foldl (fun tmps x => tmps.setIfInBounds x.1 x.2) r.tmps) r.assign r.body) w := by
    have hy := run_yield (P := P) (args := cl.args.map (Act.eval { tmps, defers := ds })) hr1 hargsz
    have hinv : invoke (.fn (.yield l) #[]) (cl.args.map (Act.eval { tmps, defers := ds })) = Instr.yield l (cl.args.map (Act.eval { tmps, defers := ds })) := by simp [invoke]
    simp [execOp, hoc, resolve, hcal, hfoe, Deferred.ofValue, hinv]
    first | exact hy | (simp at hy; exact hy)
  let bf' : Frame := { (default : Frame) with fn := r.fn, kind := .normal, roundOf := some l }
  have henter : Frame.round l r.fn ((r.params.zip (cl.args.map (Act.eval { tmps, defers := ds }))).foldl (fun tmps x => tmps.setIfInBounds x.1 x.2) r.tmps) r.assign r.body .normal =
      bf'.atR { tmps := (r.params.zip (cl.args.map (Act.eval { tmps, defers := ds }))).foldl (fun tmps x => tmps.setIfInBounds x.1 x.2) r.tmps, defers := [] } [.code r.assign, .beginRound, .code r.body] := by
    simp [Frame.round, Frame.atR, bf']
  have hvl : VL ρ (setPs ps (args.map (Opd.ev fr)) fr0) ((r.params.zip (cl.args.map (Act.eval { tmps, defers := ds }))).foldl (fun tmps x => tmps.setIfInBounds x.1 x.2) r.tmps) := by
    have := setPs_ok ps (args.map (Opd.ev fr)) _ fr0 r.tmps (by simpa using hps) h2 hr4
    rw [← hr5] at this ⊢
    rw [← Array.foldl_toList, Array.toList_zip, Array.toList_map]
    exact this
  obtain ⟨v', w', ⟨a, h'', ρ', ⟨rfl, rfl⟩, hva, hrel, heff⟩, hsteps⟩ := hcall r.fn ρ w _ [.code r.assign, .beginRound, .code r.body] bf' (bf.atR { tmps, defers := ds } (.inRegion ops (i :: is) :: its) :: cs) [] rfl rfl ⟨l, (on, n), hρ, rfl⟩ (Nat.le_refl _) (.mcode hr6 (.mbr (.mcode hr7 trivial))) hvl hr ⟨List.nodup_nil, fun r h => by simp at h⟩
  refine ⟨v', w', ρ', Steps.head (m₁ := lone (Frame.round l r.fn ((r.params.zip (cl.args.map (Act.eval { tmps, defers := ds }))).foldl (fun tmps x => tmps.setIfInBounds x.1 x.2) r.tmps) r.assign r.body .normal) (bf.atR { tmps, defers := ds } (.inRegion ops (i :: is) :: its) :: cs) w) (step_lone_go ?_) ?_, hva, hrel, heff.p⟩
  · rw [stepGR_op ho hw, Oper.semAt_eq _ _ _ (compOpS_defer hopS)]
    simp [stepG.apply, Sem.runT_eq, hrun, GStep.bare_after, Frame.atR]
  · rw [henter, hdst, ← hfin v']
    exact hsteps _ _ rfl
end
end Go.Proofs.Ytnnkfhlmkaobfaa
end
