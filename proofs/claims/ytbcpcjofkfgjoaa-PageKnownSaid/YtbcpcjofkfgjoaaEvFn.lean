/- What a call of a function comes to, told by its calls (FnC): such a call is an operation of the abstract machine. -/
import Derived.Test.YtbcpcjofkfgjoaaEvY
namespace Go.Proofs.Ytbcpcjofkfgjoaa
open Go.RowKit

section
variable {P : Program}
/-- A function, called with these values on heap h, answers a and leaves h': told by its calls. -/
def FnC (P : Program) (g : Nat) (args : List AV) (h : List AB) (a : AV) (h' : List AB) : Prop :=
  (∃ fn body, P.funcs[g]? = some fn ∧ fn.name ≠ "runtime.NumGoroutine" ∧ fn.body = some body) ∧
  ∀ (ρ : Mp) (w : World) (vals : Array Value), Rel (KC P) ρ h w → VL ρ args vals → Calls P g vals w fun e w' => ∃ v' ρ', e = .returned v' ∧ VR ρ' a v' ∧ Rel (KC P) ρ' h' w' ∧ EffP h.length ρ h w ρ' h' w'
theorem op_callC {ops : Array Oper} {i : Nat} {o : Oper} {c : COper} (ho : ops[i]? = some o) (hc : compO P ops o = some c) {fr : List AV} {h h' : List AB} {v : AV} (hk : gknown fr c.guard = true) (hwt : wants fr c.guard = true)
    {f : Opd} {args : List Opd} (hcc : c.op = .call f args) {g : FuncId} {fst cap : List AV} (hfv : f.ev fr = .f (.func g) fst cap) (hcall : FnC P g (fst ++ args.map (Opd.ev fr) ++ cap) h v h') : OpOk P ops i c.dst fr h v h' := by
  intro ρ w tmps is its bf cs ds hkn hv hr
  obtain ⟨hop, hdst, _⟩ := compO_some hc
  have hw := wants_ok hv hc hk
  rw [hwt] at hw
  have hfin : ∀ (u : Value), (bf.atR { tmps, defers := ds } (.inRegion ops (i :: is) :: its)).finish u = bf.atR (Act.put { tmps, defers := ds } o.dst u) (.inRegion ops is :: its) := fun u => by
    rw [Frame.finish_atR, ho]
    rfl
  have hopS := hop
  rw [hcc] at hop
  obtain ⟨cl, fo, hoc, hcal, hcf1, hcargs⟩ := compOp_call (compOpS_run hop (fun q => nomatch q))
  have hev := EV.of (a := { tmps, defers := ds }) hv
  have h1 := hev fo f hcf1
  rw [hfv] at h1
  have h2 := hev.vl hcargs
  generalize hfoe : Act.eval { tmps, defers := ds } fo = vf at h1
  cases h1 with
  | f _ _ _ fst' cap' hl0 hl hvc0 hvc =>
  obtain ⟨⟨fn, body, hfn, hname, hbody⟩, hcall⟩ := hcall
  have hargs : VL ρ (fst ++ args.map (Opd.ev fr) ++ cap) (fst' ++ cl.args.map (Act.eval { tmps, defers := ds }) ++ cap') := by
    have h3 : (cl.args.toList.map (Act.eval { tmps, defers := ds })).toArray = cl.args.map (Act.eval { tmps, defers := ds }) := by simp [← Array.toList_map]
    rw [← h3]
    exact VL.append (VL.append ⟨hl0, hvc0⟩ h2) ⟨hl, hvc⟩
  have hrun : (execOp (Act.eval { tmps, defers := ds }) o).run P w = .ok (.enter g (fst' ++ cl.args.map (Act.eval { tmps, defers := ds }) ++ cap')) w := by
    simp [execOp, hoc, resolve, hcal, hfoe, Deferred.ofValue, invoke, callFunc, hfn, hname, hbody]
  obtain ⟨e, w', frm, ⟨v', ρ', rfl, hva, hrel, heff⟩, hsteps, hfrm, hleave⟩ := hcall ρ w _ hr hargs (bf.atR { tmps, defers := ds } (.inRegion ops (i :: is) :: its) :: cs)
  refine ⟨v', w', ρ', Steps.head (m₁ := lone (Frame.enter P g (fst' ++ cl.args.map (Act.eval { tmps, defers := ds }) ++ cap') .normal) (bf.atR { tmps, defers := ds } (.inRegion ops (i :: is) :: its) :: cs) w) (step_lone_go ?_) ?_, hva, hrel, heff⟩
  · rw [stepGR_op ho hw, Oper.semAt_eq _ _ _ (compOpS_defer hopS)]
    simp [stepG.apply, Sem.runT_eq, hrun, GStep.bare_after, Frame.atR]
  · rw [hdst, ← hfin v']
    exact Steps.trans hsteps (.one (step_leave_returned hleave))
end
end Go.Proofs.Ytbcpcjofkfgjoaa
