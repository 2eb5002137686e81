/- Loops, calls and returns of the abstract machine. -/
import Derived.Test.YtpoojfnmhnedpaaEvP
namespace Go.Proofs.Ytpoojfnmhnedpaa
open Go.RowKit

section
variable {P : Program}
theorem EffP.ext {ρ ρ' : Mp} {h h' : List AB} {w w' : World} (e : EffP h.length ρ h w ρ' h' w') (hr : Rel ρ h w) : Ext ρ ρ' := fun i x hx => by
  rw [e.fix i (by rw [← hr.len]; exact (List.getElem?_eq_some_iff.1 hx).1)]
  exact hx
theorem EffP.len {ρ ρ' : Mp} {h h' : List AB} {w w' : World} (e : EffP h.length ρ h w ρ' h' w') (hr : Rel ρ h w) (hr' : Rel ρ' h' w') : h.length ≤ h'.length := by
  rw [← hr.len, ← hr'.len]
  exact (e.ext hr).len
theorem act_eta (tmps : Array Value) (dst : Option Nat) (v : Value) : (⟨(Act.put { tmps, defers := [] } dst v).tmps, []⟩ : Act) = Act.put { tmps, defers := [] } dst v := by
  cases dst <;> rfl
theorem AM.op {p : Nat} {fn : FuncId} {c : COper} {l : List COper} {k : List CI} {fr : List AV} {h h' : List AB} {v : AV} {R : AV → List AB → Prop}
    (hop : ∀ (ops : Array Oper) (i : Nat) (o : Oper), ops[i]? = some o → compO P ops o = some c → OpOk P ops i c.dst fr h v h')
    (g : AM P p fn (.ops l :: k) (put fr c.dst v) h' R) : AM P p fn (.ops (c :: l) :: k) fr h R := by
  intro ρ w tmps items bf cs hf hk hro hp hi hv hr
  obtain ⟨ops, is, its, rfl, hc, hi2⟩ := hi.ops
  cases is with
  | nil => cases hc
  | cons i is =>
    simp only [cOps] at hc
    obtain ⟨o, ho, hc⟩ := Option.bind_eq_some_iff.1 hc
    obtain ⟨c', hc', hc⟩ := Option.bind_eq_some_iff.1 hc
    obtain ⟨l', hl', hc⟩ := Option.map_eq_some_iff.1 hc
    cases hc
    obtain ⟨v', w', ρ', hsteps, hvr, hrel, heff⟩ := hop ops i o ho hc' ρ w tmps is its bf cs hk hro hv hr
    have hput := put_ok (a := { tmps, defers := [] }) (hv.ext (heff.ext hr)) c.dst hvr
    have g' := g ρ' w' (Act.put { tmps, defers := [] } c.dst v').tmps (.inRegion ops is :: its) bf cs hf hk hro (Nat.le_trans hp (heff.len hr hrel)) (.mops hl' hi2) hput.1 hrel
    rw [act_eta] at g'
    exact (g'.mono fun v w'' q => q.from (heff.weak hp)).steps hsteps
theorem AM.loop {p : Nat} {fn : FuncId} {c : CC} {k : List CI} {fr : List AV} {h : List AB} {R : AV → List AB → Prop}
    (g : AM P p fn (.code c :: .lp c :: k) fr h R) : AM P p fn (.code (.loop c) :: k) fr h R := by
  intro ρ w tmps items bf cs hf hk hro hp hi hv hr
  obtain ⟨c', its, rfl, hc, hi2⟩ := hi.code
  obtain ⟨x, rfl, h1⟩ := cCode_inv hc
  exact (g ρ w tmps _ bf cs hf hk hro hp (.mcode h1 (.mlp h1 hi2)) hv hr).steps (.one stepR_loop)
theorem AM.lp {p : Nat} {fn : FuncId} {c : CC} {k : List CI} {fr : List AV} {h : List AB} {R : AV → List AB → Prop}
    (g : AM P p fn (.code c :: .lp c :: k) fr h R) : AM P p fn (.lp c :: k) fr h R := by
  intro ρ w tmps items bf cs hf hk hro hp hi hv hr
  obtain ⟨x, its, rfl, h1, hi2⟩ := hi.lp
  exact (g ρ w tmps _ bf cs hf hk hro hp (.mcode h1 (.mlp h1 hi2)) hv hr).steps (.one stepR_inLoop)

theorem ld_ok {ρ : Mp} {h : List AB} {w : World} (hr : Rel ρ h w) (t : TypeId) {d : TypeDesc} {i : TypeInfo} (hd : P.underlying t = some d) (hi : P.info? t = some i) {x a : AV} {vx : Value} (hx : VR ρ x vx) (e : ldV h (if isAg d then some i.size else none) x = some a) :
    ∃ v, (do loadVar t (← asAddr vx) : Sem Value).run P w = .ok v w ∧ VR ρ a v := by
  cases hx with
  | p id off b o n hρ =>
    by_cases ha : isAg d = true
    · rw [if_pos ha] at e
      simp only [ldV] at e
      obtain ⟨xs, hxs, e⟩ := Option.bind_eq_some_iff.1 e
      split at e
      · rename_i hle
        cases e
        obtain ⟨vs, hl, hc, hv⟩ := hr.win hxs hρ off i.size hle
        refine ⟨.agg vs.toArray, ?_, vl_agg hv⟩
        have hload := run_loadCells_list (P := P) w ⟨b, o + off, none⟩ vs hc
        rw [hl] at hload
        simp [asAddr, loadVar, run_isAgg hd, ha, sizeOf, typeInfo, hi, hload]
      · cases e
    · rw [if_neg ha] at e
      simp only [ldV] at e
      obtain ⟨xs, hxs, e⟩ := Option.bind_eq_some_iff.1 e
      obtain ⟨cs, ty, fz, h1, h3, h4⟩ := hr.row hxs hρ
      obtain ⟨c, hc, hv⟩ := h4 off a e
      refine ⟨c, ?_, hv⟩
      simp [asAddr, loadVar, run_isAgg hd, ha, World.cell?, h1, hc]
  | _ => by_cases ha : isAg d = true <;> simp [ha, ldV] at e
/-- What a result is read from. -/
def resF (tmps : Array Value) : ResultVar → Sem Value
  | .tmp t => pure (tmps.getD t undef)
  | .cell c t => do loadVar t (← asAddr (tmps.getD c undef))
theorem res_one {ρ : Mp} {h : List AB} {w : World} (hr : Rel ρ h w) {fr : List AV} {tmps : Array Value} (hv : VL ρ fr tmps) {a : AV} : ∀ (rv : ResultVar) (r : RC), cRes P [rv] = some [r] → resOne fr h r = some a →
    ∃ v, (resF tmps rv).run P w = .ok v w ∧ VR ρ a v := by
  have get : ∀ (n : Nat), VR ρ (fr.getD n (.tu [])) (tmps.getD n undef) := fun n => by
    rw [List.getD_eq_getElem?_getD, Array.getD_eq_getD_getElem?]
    cases hf : fr[n]? with
    | none =>
      rw [Array.getElem?_eq_none (by rw [← hv.1]; exact List.getElem?_eq_none_iff.1 hf)]
      exact .tu [] #[] rfl (fun j a c h => by simp at h)
    | some x =>
      obtain ⟨c, hc, hx⟩ := hv.get hf
      rw [hc]
      exact hx
  intro rv r hc e
  cases rv with
  | tmp t =>
    cases hc
    cases e
    exact ⟨_, rfl, get t⟩
  | cell c t =>
    simp only [cRes] at hc
    obtain ⟨n, hn, hc⟩ := Option.bind_eq_some_iff.1 hc
    obtain ⟨l, hl, hc⟩ := Option.map_eq_some_iff.1 hc
    cases hl
    cases hc
    obtain ⟨d, i, hd, hi, rfl⟩ := agN_some hn
    have hx := get c
    exact ld_ok hr t hd hi hx e
theorem run_res_list {ρ : Mp} {h : List AB} {w : World} (hr : Rel ρ h w) {fr : List AV} {tmps : Array Value} (hv : VL ρ fr tmps) : ∀ (rvs : List ResultVar) (rs : List RC) (as : List AV), cRes P rvs = some rs → resAll fr h rs = some as →
    ∃ vs, (rvs.mapM (resF tmps)).run P w = .ok vs w ∧ VL ρ as vs.toArray
  | [], rs, as, hc, e => by
    cases hc
    cases e
    exact ⟨[], rfl, VL.nil ρ⟩
  | rv :: rvs, rs, as, hc, e => by
    have hsplit : ∃ r rs', rs = r :: rs' ∧ cRes P [rv] = some [r] ∧ cRes P rvs = some rs' := by
      cases rv with
      | tmp t =>
        simp only [cRes] at hc
        obtain ⟨l, hl, hc⟩ := Option.map_eq_some_iff.1 hc
        exact ⟨_, l, hc.symm, rfl, hl⟩
      | cell c t =>
        simp only [cRes] at hc
        obtain ⟨n, hn, hc⟩ := Option.bind_eq_some_iff.1 hc
        obtain ⟨l, hl, hc⟩ := Option.map_eq_some_iff.1 hc
        exact ⟨_, l, hc.symm, by simp [cRes, hn], hl⟩
    obtain ⟨r, rs', rfl, hc1, hc2⟩ := hsplit
    simp only [resAll] at e
    obtain ⟨a, ha, e⟩ := Option.bind_eq_some_iff.1 e
    obtain ⟨as', has, e⟩ := Option.map_eq_some_iff.1 e
    cases e
    obtain ⟨v, h1, h2⟩ := res_one hr hv rv r hc1 ha
    obtain ⟨vs, h3, h4⟩ := run_res_list hr hv rvs rs' as' hc2 has
    refine ⟨v :: vs, ?_, VL.cons h2 h4⟩
    rw [List.mapM_cons]
    simp [h1, h3]
theorem run_res {ρ : Mp} {h : List AB} {w : World} (hr : Rel ρ h w) {fr : List AV} {tmps : Array Value} (hv : VL ρ fr tmps) {f : Func} {rs : List RC} {a : AV} (hc : cRes P f.results.toList = some rs) (e : resV fr h rs = some a) :
    ∃ v, (results f tmps).run P w = .ok v w ∧ VR ρ a v := by
  unfold resV at e
  obtain ⟨as, has, e⟩ := Option.map_eq_some_iff.1 e
  obtain ⟨vs, h1, h2⟩ := run_res_list hr hv _ _ _ hc has
  have h3 : (f.results.mapM (resF tmps)).run P w = .ok vs.toArray w := by
    rw [Array.mapM_eq_mapM_toList]
    simp [h1]
  have h4 : results f tmps = (do let vs ← f.results.mapM (resF tmps); pure (if h : vs.size = 1 then vs[0] else .tuple vs)) := by
    unfold results
    congr 1
  rw [h4]
  cases vs with
  | nil =>
    have : as = [] := List.eq_nil_of_length_eq_zero (by rw [h2.1]; rfl)
    subst this
    cases e
    exact ⟨.tuple #[], by simp [h3], .tu [] #[] rfl (fun j a c h => by simp at h)⟩
  | cons v vs =>
    cases as with
    | nil => have := h2.1; simp at this
    | cons x xs =>
      cases vs with
      | nil =>
        cases xs with
        | nil =>
          cases e
          exact ⟨v, by simp [h3], h2.2 0 x v rfl rfl⟩
        | cons y ys => have := h2.1; simp at this
      | cons u us =>
        cases xs with
        | nil => have := h2.1; simp at this
        | cons y ys =>
          cases e
          exact ⟨.tuple (v :: u :: us).toArray, by simp [h3], .tu _ _ h2.1 h2.2⟩
theorem AM.ret {p : Nat} {fn : FuncId} {f : Func} {rs : List RC} {k : List CI} {fr : List AV} {h : List AB} {a : AV} {R : AV → List AB → Prop} (hf : P.funcs[fn]? = some f) (hc : cRes P f.results.toList = some rs) (e : resV fr h rs = some a) (g : R a h) : AM P p fn (.code .ret :: k) fr h R := by
  intro ρ w tmps items bf cs hfn hk hro hp hi hv hr
  obtain ⟨c', its, rfl, hcc, hi2⟩ := hi.code
  obtain rfl : c' = .ret := cCode_inv hcc
  obtain ⟨v, h1, h2⟩ := run_res hr hv hc e
  exact ⟨v, w, _, ⟨a, h, ρ, g, h2, hr, EffP.refl _ _ _ _⟩, .one (stepR_ret hro), rfl, rfl, rfl, hk, f, by rw [← hf]; exact congrArg _ hfn, h1⟩
theorem AM.fin {p : Nat} {fn : FuncId} {f : Func} {rs : List RC} {fr : List AV} {h : List AB} {a : AV} {R : AV → List AB → Prop} (hf : P.funcs[fn]? = some f) (hc : cRes P f.results.toList = some rs) (e : resV fr h rs = some a) (g : R a h) : AM P p fn [] fr h R := by
  intro ρ w tmps items bf cs hfn hk hro hp hi hv hr
  obtain rfl : items = [] := by
    match items, hi with
    | [], _ => rfl
  obtain ⟨v, h1, h2⟩ := run_res hr hv hc e
  exact ⟨v, w, _, ⟨a, h, ρ, g, h2, hr, EffP.refl _ _ _ _⟩, .one (stepR_end hro), rfl, rfl, rfl, hk, f, by rw [← hf]; exact congrArg _ hfn, h1⟩
end
end Go.Proofs.Ytpoojfnmhnedpaa
