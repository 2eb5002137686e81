/- One operation of a region, a call among them: it is done, and the next one's turn comes. Loops, and how a function is left. -/
import Derived.Test.YtpoojfnmhnedpaaEvO
namespace Go.Proofs.Ytpoojfnmhnedpaa
open Go.RowKit

section
variable {P : Program}
/-- Operation i is done: the value and the heap are those that the abstract machine says. -/
def OpOk (P : Program) (ops : Array Oper) (i : Nat) (dst : Option Nat) (fr : List AV) (h : List AB) (v : AV) (h' : List AB) : Prop :=
  ∀ (ρ : Mp) (w : World) (tmps : Array Value) (is : List Nat) (its : List Item) (b : Frame) (cs : List Frame), b.kind = .normal → b.roundOf = none → VL ρ fr tmps → Rel ρ h w →
    ∃ v' w' ρ', Steps P (lone (b.atR { tmps, defers := [] } (.inRegion ops (i :: is) :: its)) cs w) (lone (b.atR (Act.put { tmps, defers := [] } dst v') (.inRegion ops is :: its)) cs w') ∧ VR ρ' v v' ∧ Rel ρ' h' w' ∧ EffP h.length ρ h w ρ' h' w'

theorem op_plain {ops : Array Oper} {i : Nat} {o : Oper} {c : COper} (ho : ops[i]? = some o) (hc : compO P ops o = some c) {fr : List AV} {h h' : List AB} {v : AV} (hk : gknown fr c.guard = true) (hwt : wants fr c.guard = true)
    (hrun : c.op.run (Opd.ev fr) h = some (v, h')) : OpOk P ops i c.dst fr h v h' := by
  intro ρ w tmps is its bf cs hkn hro hv hr
  obtain ⟨hop, hdst, _⟩ := compO_some hc
  have hw := wants_ok hv hc hk
  rw [hwt] at hw
  have hfin : ∀ (u : Value), (bf.atR { tmps, defers := [] } (.inRegion ops (i :: is) :: its)).finish u = bf.atR (Act.put { tmps, defers := [] } o.dst u) (.inRegion ops is :: its) := fun u => by
    rw [Frame.finish_atR, ho]
    rfl
  obtain ⟨v', w', ρ', hor, hext, hrel, hvr, heff⟩ := exec_ok hr (EV.of (a := { tmps, defers := [] }) hv) (compOpS_run hop (run_stop hrun)) hrun
  refine ⟨v', w', ρ', .one (step_lone_go ?_), hvr, hrel, heff.p hext (by rw [hr.len]; exact Nat.le_refl _)⟩
  rw [stepGR_op ho hw, Oper.semAt_eq _ _ _ (compOpS_defer hop), hdst]
  rcases hor with hok | ⟨hok, rfl⟩
  · rw [← hfin v']; simp [stepG.apply, Sem.runT_eq, hok, GStep.bare_after]
  · rw [← hfin undef]; simp [stepG.apply, Sem.runT_eq, hok, GStep.bare_after]
theorem op_skip {ops : Array Oper} {i : Nat} {o : Oper} {c : COper} (ho : ops[i]? = some o) (hc : compO P ops o = some c) {fr : List AV} {h : List AB} (hk : gknown fr c.guard = true) (hwt : wants fr c.guard = false) : OpOk P ops i c.dst fr h (.tu []) h := by
  intro ρ w tmps is its bf cs hkn hro hv hr
  obtain ⟨hop, hdst, _⟩ := compO_some hc
  have hw := wants_ok hv hc hk
  rw [hwt] at hw
  refine ⟨undef, w, ρ, .one ?_, .tu [] #[] rfl (fun j a c h => by simp at h), hr, EffP.refl _ _ _ _⟩
  have := stepR_op_skip (P := P) (b := bf) (a := { tmps, defers := [] }) (k := its) (cs := cs) (w := w) (ops := ops) (i := i) (rest := is) (by simp [ho, hw])
  rw [ho] at this
  rw [hdst]
  exact this
/-- No call comes of this. -/
def NC (x : Option CO) : Prop := ∀ f a, x ≠ some (.call f a)
theorem nc_none : NC none := fun _ _ h => nomatch h
theorem nc_bind {α : Type} {x : Option α} {g : α → Option CO} (h : ∀ y, NC (g y)) : NC (x.bind g) := by
  cases x with
  | none => exact nc_none
  | some y => exact h y
theorem nc_map {α : Type} {x : Option α} {g : α → CO} (h : ∀ y f a, g y ≠ .call f a) : NC (x.map g) := by
  cases x with
  | none => exact nc_none
  | some y => exact fun f a e => h y f a (Option.some.inj e)
theorem nc_some {c : CO} (h : ∀ f a, c ≠ .call f a) : NC (some c) := fun f a e => h f a (Option.some.inj e)
theorem nc_b (b : Builtin) (as : List Operand) (ts : List TypeId) : NC (compB P b as ts) := by
  unfold compB
  split <;> (repeat' (first | exact nc_none | exact nc_some (fun _ _ h => nomatch h) | exact nc_map (fun _ _ _ h => nomatch h) | refine nc_bind (fun _ => ?_) | split))
theorem nc_bin (op : BinOp) (t : TypeId) (x y : Operand) : NC (cBin P op t x y) := by
  unfold cBin
  repeat' (first | exact nc_none | exact nc_some (fun _ _ h => nomatch h) | exact nc_map (fun _ _ _ h => nomatch h) | refine nc_bind (fun _ => ?_) | split)
theorem nc_conv (s d : TypeId) (x : Operand) : NC (cConv P s d x) := by
  unfold cConv
  repeat' (first | exact nc_none | exact nc_some (fun _ _ h => nomatch h) | exact nc_map (fun _ _ _ h => nomatch h) | refine nc_bind (fun _ => ?_) | split)
theorem compOp_call {o : Op} {f : Opd} {args : List Opd} (h : compOp P o = some (.call f args)) : ∃ c fo, o = .call c ∧ c.callee = .value fo ∧ cOpd fo = some f ∧ cOpds c.args.toList = some args := by
  cases o with
  | call c =>
    simp only [compOp, compCall] at h
    split at h
    · exact absurd h (nc_b _ _ _ _ _)
    · rename_i fo hcal
      obtain ⟨a, ha, h⟩ := Option.bind_eq_some_iff.1 h
      obtain ⟨l, hl, h⟩ := Option.map_eq_some_iff.1 h
      cases h
      exact ⟨c, fo, rfl, hcal, ha, hl⟩
    · cases h
  | binOp => exact absurd h (nc_bin _ _ _ _ _ _)
  | convert => exact absurd h (nc_conv _ _ _ _ _)
  | _ =>
    have key : ∀ {x : Option CO}, x = some (.call f args) → NC x → False := fun e n => n _ _ e
    refine (key h ?_).elim
    simp only [compOp]
    repeat' (first | exact nc_none | exact nc_some (fun _ _ h => nomatch h) | exact nc_map (fun _ _ _ h => nomatch h) | refine nc_bind (fun _ => ?_) | split)
theorem compF_some {f : Func} {cf : CF} (h : compF P f = some cf) : (f.name == "runtime.NumGoroutine") = false ∧ ∃ c, f.body = some c ∧ cCode P c = some cf.body ∧ cRes P f.results.toList = some cf.res ∧ cf.ntmps = f.ntmps := by
  unfold compF at h
  split at h
  · cases h
  · rename_i hn
    obtain ⟨c, hc, h⟩ := Option.bind_eq_some_iff.1 h
    obtain ⟨b, hb, h⟩ := Option.bind_eq_some_iff.1 h
    obtain ⟨r, hr, rfl⟩ := Option.map_eq_some_iff.1 h
    exact ⟨by simpa using hn, c, hc, hb, hr, rfl⟩
theorem vl_repl (ρ : Mp) (n : Nat) : VL ρ (List.replicate n (.tu [])) (Array.replicate n undef) :=
  ⟨by simp, fun j a c h1 h2 => by
    rw [List.getElem?_replicate] at h1
    rw [Array.getElem?_replicate] at h2
    split at h1
    · rw [if_pos (by assumption)] at h2
      cases h1; cases h2
      exact .tu [] #[] rfl (fun j a c h => by simp at h)
    · cases h1⟩
theorem op_call {ops : Array Oper} {i : Nat} {o : Oper} {c : COper} (ho : ops[i]? = some o) (hc : compO P ops o = some c) {fr : List AV} {h h' : List AB} {v : AV} (hk : gknown fr c.guard = true) (hwt : wants fr c.guard = true)
    {f : Opd} {args : List Opd} (hcc : c.op = .call f args) {g : FuncId} {fst cap : List AV} (hfv : f.ev fr = .f (.func g) fst cap) {fn : Func} {cf : CF} (hfn : P.funcs[g]? = some fn) (hcf : compF P fn = some cf)
    (hcall : AM P h.length g [.code cf.body] (fst ++ args.map (Opd.ev fr) ++ cap ++ List.replicate (cf.ntmps - (fst ++ args.map (Opd.ev fr) ++ cap).length) (.tu [])) h (fun a h'' => a = v ∧ h'' = h')) : OpOk P ops i c.dst fr h v h' := by
  intro ρ w tmps is its bf cs hkn hro hv hr
  obtain ⟨hop, hdst, _⟩ := compO_some hc
  have hw := wants_ok hv hc hk
  rw [hwt] at hw
  have hfin : ∀ (u : Value), (bf.atR { tmps, defers := [] } (.inRegion ops (i :: is) :: its)).finish u = bf.atR (Act.put { tmps, defers := [] } o.dst u) (.inRegion ops is :: its) := fun u => by
    rw [Frame.finish_atR, ho]
    rfl
  have hopS := hop
  rw [hcc] at hop
  obtain ⟨cl, fo, hoc, hcal, hcf1, hcargs⟩ := compOp_call (compOpS_run hop (fun q => nomatch q))
  have hev := EV.of (a := { tmps, defers := [] }) hv
  have h1 := hev fo f hcf1
  rw [hfv] at h1
  have h2 := hev.vl hcargs
  generalize hfoe : Act.eval { tmps, defers := [] } fo = vf at h1
  cases h1 with
  | f _ _ _ fst' cap' hl0 hl hvc0 hvc =>
  obtain ⟨hname, body, hbody, hcb, hres, hnt⟩ := compF_some hcf
  have hargs : VL ρ (fst ++ args.map (Opd.ev fr) ++ cap) (fst' ++ cl.args.map (Act.eval { tmps, defers := [] }) ++ cap') := by
    have h3 : (cl.args.toList.map (Act.eval { tmps, defers := [] })).toArray = cl.args.map (Act.eval { tmps, defers := [] }) := by simp [← Array.toList_map]
    rw [← h3]
    exact VL.append (VL.append ⟨hl0, hvc0⟩ h2) ⟨hl, hvc⟩
  have hrun : (execOp (Act.eval { tmps, defers := [] }) o).run P w = .ok (.enter g (fst' ++ cl.args.map (Act.eval { tmps, defers := [] }) ++ cap')) w := by
    simp [execOp, hoc, resolve, hcal, hfoe, Deferred.ofValue, invoke, callFunc, hfn, show fn.name ≠ "runtime.NumGoroutine" by simpa using hname, hbody]
  let bf' : Frame := { (default : Frame) with fn := g, kind := .normal, roundOf := none }
  have henter : Frame.enter P g (fst' ++ cl.args.map (Act.eval { tmps, defers := [] }) ++ cap') .normal =
      bf'.atR { tmps := (fst' ++ cl.args.map (Act.eval { tmps, defers := [] }) ++ cap') ++ Array.replicate (fn.ntmps - (fst' ++ cl.args.map (Act.eval { tmps, defers := [] }) ++ cap').size) undef, defers := [] } [.code body] := by
    simp [Frame.enter, Frame.atR, hfn, hbody, bf']
  have hsz : (fst ++ args.map (Opd.ev fr) ++ cap).length = (fst' ++ cl.args.map (Act.eval { tmps, defers := [] }) ++ cap').size := hargs.1
  obtain ⟨v', w', frm, ⟨a, h'', ρ', ⟨rfl, rfl⟩, hva, hrel, heff⟩, hsteps, hfrm, hleave⟩ := hcall ρ w _ [.code body] bf' (bf.atR { tmps, defers := [] } (.inRegion ops (i :: is) :: its) :: cs) rfl rfl rfl (Nat.le_refl _) (.mcode hcb trivial) (hargs.append (by rw [hsz, hnt]; exact vl_repl ρ _)) hr
  refine ⟨v', w', ρ', Steps.head (m₁ := lone (Frame.enter P g (fst' ++ cl.args.map (Act.eval { tmps, defers := [] }) ++ cap') .normal) (bf.atR { tmps, defers := [] } (.inRegion ops (i :: is) :: its) :: cs) w) (step_lone_go ?_) ?_, hva, hrel, heff⟩
  · rw [stepGR_op ho hw, Oper.semAt_eq _ _ _ (compOpS_defer hopS)]
    simp [stepG.apply, Sem.runT_eq, hrun, GStep.bare_after, Frame.atR]
  · rw [henter, hdst, ← hfin v']
    exact hsteps.trans (.one (step_leave_returned hleave))
end
end Go.Proofs.Ytpoojfnmhnedpaa
