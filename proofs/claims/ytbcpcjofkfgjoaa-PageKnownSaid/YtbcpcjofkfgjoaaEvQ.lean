/- Loops, calls and returns of the abstract machine. -/
import Derived.Test.YtbcpcjofkfgjoaaEvP
import Derived.RangeFuncLeaves
namespace Go.Proofs.Ytbcpcjofkfgjoaa
open Go.RowKit

section
variable {P : Program}
theorem EffP.ext {ρ ρ' : Mp} {h h' : List AB} {w w' : World} (e : EffP h.length ρ h w ρ' h' w') (hr : Rel (KC P) ρ h w) : Ext ρ ρ' := fun i x hx => by
  rw [e.fix i (by rw [← hr.len]; exact (List.getElem?_eq_some_iff.1 hx).1)]
  exact hx
theorem EffP.len {ρ ρ' : Mp} {h h' : List AB} {w w' : World} (e : EffP h.length ρ h w ρ' h' w') (hr : Rel (KC P) ρ h w) (hr' : Rel (KC P) ρ' h' w') : h.length ≤ h'.length := by
  rw [← hr.len, ← hr'.len]
  exact (e.ext hr).len
theorem act_eta (tmps : Array Value) (ds : List Deferred) (dst : Option Nat) (v : Value) : (⟨(Act.put { tmps, defers := ds } dst v).tmps, ds⟩ : Act) = Act.put { tmps, defers := ds } dst v := by
  cases dst <;> rfl
theorem AM.op {p : Nat} {rd : Option Nat} {fn : FuncId} {c : COper} {l : List COper} {k : List CI} {fr : List AV} {h h' : List AB} {v : AV} {R : AV → List AB → Prop}
    (hop : ∀ (ops : Array Oper) (i : Nat) (o : Oper), ops[i]? = some o → compO P ops o = some c → OpOk P ops i c.dst fr h v h')
    (g : AM P p rd fn (.ops l :: k) (put fr c.dst v) h' R) : AM P p rd fn (.ops (c :: l) :: k) fr h R := by
  intro ρ w tmps items bf cs rs hf hk hro hp hi hv hr hmk
  obtain ⟨ops, is, its, rfl, hc, hi2⟩ := hi.ops
  cases is with
  | nil => cases hc
  | cons i is =>
    simp only [cOps] at hc
    obtain ⟨o, ho, hc⟩ := Option.bind_eq_some_iff.1 hc
    obtain ⟨c', hc', hc⟩ := Option.bind_eq_some_iff.1 hc
    obtain ⟨l', hl', hc⟩ := Option.map_eq_some_iff.1 hc
    cases hc
    obtain ⟨v', w', ρ', hsteps, hvr, hrel, heff⟩ := hop ops i o ho hc' ρ w tmps is its bf cs (rs.map mkD) hk hv hr
    have hput := put_ok (a := { tmps, defers := rs.map mkD }) (hv.ext (heff.ext hr)) c.dst hvr
    have g' := g ρ' w' (Act.put { tmps, defers := rs.map mkD } c.dst v').tmps (.inRegion ops is :: its) bf cs rs hf hk (hro.ext (heff.ext hr)) (Nat.le_trans hp (heff.len hr hrel)) (.mops hl' hi2) hput.1 hrel (hmk.eff heff)
    rw [act_eta] at g'
    exact (g'.mono fun v w'' q => q.from (heff.weak hp) (fun r hr => .inl hr)).steps hsteps
theorem AM.loop {p : Nat} {rd : Option Nat} {fn : FuncId} {c : CC} {k : List CI} {fr : List AV} {h : List AB} {R : AV → List AB → Prop}
    (g : AM P p rd fn (.code c :: .lp c :: k) fr h R) : AM P p rd fn (.code (.loop c) :: k) fr h R := by
  intro ρ w tmps items bf cs rs hf hk hro hp hi hv hr hmk
  obtain ⟨c', its, rfl, hc, hi2⟩ := hi.code
  obtain ⟨x, rfl, h1⟩ := cCode_inv hc
  exact (g ρ w tmps _ bf cs rs hf hk hro hp (.mcode h1 (.mlp h1 hi2)) hv hr hmk).steps (.one stepR_loop)
theorem AM.lp {p : Nat} {rd : Option Nat} {fn : FuncId} {c : CC} {k : List CI} {fr : List AV} {h : List AB} {R : AV → List AB → Prop}
    (g : AM P p rd fn (.code c :: .lp c :: k) fr h R) : AM P p rd fn (.lp c :: k) fr h R := by
  intro ρ w tmps items bf cs rs hf hk hro hp hi hv hr hmk
  obtain ⟨x, its, rfl, h1, hi2⟩ := hi.lp
  exact (g ρ w tmps _ bf cs rs hf hk hro hp (.mcode h1 (.mlp h1 hi2)) hv hr hmk).steps (.one stepR_inLoop)

theorem ld_ok {ρ : Mp} {h : List AB} {w : World} (hr : Rel (KC P) ρ h w) (t : TypeId) {d : TypeDesc} {i : TypeInfo} (hd : P.underlying t = some d) (hi : P.info? t = some i) {x a : AV} {vx : Value} (hx : VR ρ x vx) (e : ldV h (if isAg d then some i.size else none) x = some a) :
    ∃ v, (do loadVar t (← asAddr vx) : Sem Value).run P w = .ok v w ∧ VR ρ a v := by
  cases hx with
  | p id off b o n hρ =>
    by_cases ha : isAg d = true
    · rw [if_pos ha] at e
      simp only [ldV] at e
      obtain ⟨xs, hxs, e⟩ := Option.bind_eq_some_iff.1 e
      split at e
      · rename_i hle
        cases e
        obtain ⟨vs, hl, hc, hv⟩ := hr.win hxs hρ off i.size hle
        refine ⟨.agg vs.toArray, ?_, vl_agg hv⟩
        have hload := run_loadCells_list (P := P) w ⟨b, o + off, none⟩ vs hc
        rw [hl] at hload
        simp [asAddr, loadVar, run_isAgg hd, ha, sizeOf, typeInfo, hi, hload]
      · cases e
    · rw [if_neg ha] at e
      simp only [ldV] at e
      obtain ⟨xs, hxs, e⟩ := Option.bind_eq_some_iff.1 e
      obtain ⟨cs, ty, fz, h1, h3, h4⟩ := hr.row hxs hρ
      obtain ⟨c, hc, hv⟩ := h4 off a e
      refine ⟨c, ?_, hv⟩
      simp [asAddr, loadVar, run_isAgg hd, ha, World.cell?, h1, hc]
  | _ => by_cases ha : isAg d = true <;> simp [ha, ldV] at e
/-- What a result is read from. -/
def resF (tmps : Array Value) : ResultVar → Sem Value
  | .tmp t => pure (tmps.getD t undef)
  | .cell c t => do loadVar t (← asAddr (tmps.getD c undef))
theorem res_one {ρ : Mp} {h : List AB} {w : World} (hr : Rel (KC P) ρ h w) {fr : List AV} {tmps : Array Value} (hv : VL ρ fr tmps) {a : AV} : ∀ (rv : ResultVar) (r : RC), cRes P [rv] = some [r] → resOne fr h r = some a →
    ∃ v, (resF tmps rv).run P w = .ok v w ∧ VR ρ a v := by
  have get : ∀ (n : Nat), VR ρ (fr.getD n (.tu [])) (tmps.getD n undef) := fun n => by
    rw [List.getD_eq_getElem?_getD, Array.getD_eq_getD_getElem?]
    cases hf : fr[n]? with
    | none =>
      rw [Array.getElem?_eq_none (by rw [← hv.1]; exact List.getElem?_eq_none_iff.1 hf)]
      exact .tu [] #[] rfl (fun j a c h => by simp at h)
    | some x =>
      obtain ⟨c, hc, hx⟩ := hv.get hf
      rw [hc]
      exact hx
  intro rv r hc e
  cases rv with
  | tmp t =>
    cases hc
    cases e
    exact ⟨_, rfl, get t⟩
  | cell c t =>
    simp only [cRes] at hc
    obtain ⟨n, hn, hc⟩ := Option.bind_eq_some_iff.1 hc
    obtain ⟨l, hl, hc⟩ := Option.map_eq_some_iff.1 hc
    cases hl
    cases hc
    obtain ⟨d, i, hd, hi, rfl⟩ := agN_some hn
    have hx := get c
    exact ld_ok hr t hd hi hx e
theorem run_res_list {ρ : Mp} {h : List AB} {w : World} (hr : Rel (KC P) ρ h w) {fr : List AV} {tmps : Array Value} (hv : VL ρ fr tmps) : ∀ (rvs : List ResultVar) (rs : List RC) (as : List AV), cRes P rvs = some rs → resAll fr h rs = some as →
    ∃ vs, (rvs.mapM (resF tmps)).run P w = .ok vs w ∧ VL ρ as vs.toArray
  | [], rs, as, hc, e => by
    cases hc
    cases e
    exact ⟨[], rfl, VL.nil ρ⟩
  | rv :: rvs, rs, as, hc, e => by
    have hsplit : ∃ r rs', rs = r :: rs' ∧ cRes P [rv] = some [r] ∧ cRes P rvs = some rs' := by
      cases rv with
      | tmp t =>
        simp only [cRes] at hc
        obtain ⟨l, hl, hc⟩ := Option.map_eq_some_iff.1 hc
        exact ⟨_, l, hc.symm, rfl, hl⟩
      | cell c t =>
        simp only [cRes] at hc
        obtain ⟨n, hn, hc⟩ := Option.bind_eq_some_iff.1 hc
        obtain ⟨l, hl, hc⟩ := Option.map_eq_some_iff.1 hc
        exact ⟨_, l, hc.symm, by simp [cRes, hn], hl⟩
    obtain ⟨r, rs', rfl, hc1, hc2⟩ := hsplit
    simp only [resAll] at e
    obtain ⟨a, ha, e⟩ := Option.bind_eq_some_iff.1 e
    obtain ⟨as', has, e⟩ := Option.map_eq_some_iff.1 e
    cases e
    obtain ⟨v, h1, h2⟩ := res_one hr hv rv r hc1 ha
    obtain ⟨vs, h3, h4⟩ := run_res_list hr hv rvs rs' as' hc2 has
    refine ⟨v :: vs, ?_, VL.cons h2 h4⟩
    rw [List.mapM_cons]
    simp [h1, h3]
theorem run_res {ρ : Mp} {h : List AB} {w : World} (hr : Rel (KC P) ρ h w) {fr : List AV} {tmps : Array Value} (hv : VL ρ fr tmps) {f : Func} {rs : List RC} {a : AV} (hc : cRes P f.results.toList = some rs) (e : resV fr h rs = some a) :
    ∃ v, (results f tmps).run P w = .ok v w ∧ VR ρ a v := by
  unfold resV at e
  obtain ⟨as, has, e⟩ := Option.map_eq_some_iff.1 e
  obtain ⟨vs, h1, h2⟩ := run_res_list hr hv _ _ _ hc has
  have h3 : (f.results.mapM (resF tmps)).run P w = .ok vs.toArray w := by
    rw [Array.mapM_eq_mapM_toList]
    simp [h1]
  have h4 : results f tmps = (do let vs ← f.results.mapM (resF tmps); pure (if h : vs.size = 1 then vs[0] else .tuple vs)) := by
    unfold results
    congr 1
  rw [h4]
  cases vs with
  | nil =>
    have : as = [] := List.eq_nil_of_length_eq_zero (by rw [h2.1]; rfl)
    subst this
    cases e
    exact ⟨.tuple #[], by simp [h3], .tu [] #[] rfl (fun j a c h => by simp at h)⟩
  | cons v vs =>
    cases as with
    | nil => have := h2.1; simp at this
    | cons x xs =>
      cases vs with
      | nil =>
        cases xs with
        | nil =>
          cases e
          exact ⟨v, by simp [h3], h2.2 0 x v rfl rfl⟩
        | cons y ys => have := h2.1; simp at this
      | cons u us =>
        cases xs with
        | nil => have := h2.1; simp at this
        | cons y ys =>
          cases e
          exact ⟨.tuple (v :: u :: us).toArray, by simp [h3], .tu _ _ h2.1 h2.2⟩
/-- On its way out a frame comes to its marks: the blocks are shut. -/
theorem unwind_marks : ∀ (rs : List Nat) (fr : Frame) (cs : List Frame) (w : World), fr.mode ≠ .run → fr.defers = rs.map mkD → rs.Nodup → (∀ r ∈ rs, w.heap[r]? = some (.deferred (some []))) →
    ∃ w', Steps P (lone fr cs w) (lone { fr with defers := [] } cs w') ∧ w'.os = w.os ∧ w'.tape = w.tape ∧ (w'.output = w.output ∧ dr w ≤ dr w') ∧ w'.heap.size = w.heap.size ∧ ∀ k, k ∉ rs → w'.heap[k]? = w.heap[k]?
  | [], fr, cs, w, _, hd, _, _ => by
    refine ⟨w, ?_, rfl, rfl, ⟨rfl, Nat.le_refl _⟩, rfl, fun _ _ => rfl⟩
    have : ({ fr with defers := [] } : Frame) = fr := by
      cases fr
      simp_all
    rw [this]
    exact .refl _ _
  | r :: rs, fr, cs, w, hm, hd, hn, hb => by
    have hb1 := hb r (List.mem_cons_self ..)
    have hn' := List.nodup_cons.1 hn
    have htake : (Instr.takeDeferred r).run P w = .ok [] { w with heap := w.heap.setIfInBounds r (.deferred none) } := run_takeDeferred hb1
    have h1 := step_collected (P := P) (cs := cs) hm hd rfl htake
    obtain ⟨w', s, e1, e2, e3, e4, e5⟩ := unwind_marks rs { fr with defers := [] ++ rs.map mkD } cs { w with heap := w.heap.setIfInBounds r (.deferred none) } hm (by simp) hn'.2 (fun q hq => by
      have hne : r ≠ q := fun e => hn'.1 (e ▸ hq)
      simp only [Array.getElem?_setIfInBounds_ne hne]
      exact hb q (List.mem_cons_of_mem _ hq))
    refine ⟨w', Steps.head h1 s, e1, e2, e3, by rw [e4]; simp, fun k hk => ?_⟩
    rw [e5 k (fun h => hk (List.mem_cons_of_mem _ h))]
    simp only [Array.getElem?_setIfInBounds_ne (fun e => hk (e ▸ List.mem_cons_self ..) : r ≠ k)]
/-- A frame of a function, on its way out. -/
theorem leave_ok {p : Nat} {fn : FuncId} {f : Func} {rs : List Nat} {rcs : List RC} {fr : List AV} {h : List AB} {a : AV} {R : AV → List AB → Prop} (hf : P.funcs[fn]? = some f) (hc : cRes P f.results.toList = some rcs) (e : resV fr h rcs = some a) (g : R a h)
    {ρ : Mp} {w : World} {tmps : Array Value} {items : List Item} {bf : Frame} {cs : List Frame} (hfn : bf.fn = fn) (hk : bf.kind = .normal) (hv : VL ρ fr tmps) (hr : Rel (KC P) ρ h w) (hmk : Marks ρ h w rs) :
    Ret P none bf cs (PostR P p rs ρ h w R) (lone { bf.atR { tmps, defers := rs.map mkD } items with mode := .returning } cs w) := by
  obtain ⟨w', s, e1, e2, e3, e4, e5⟩ := unwind_marks (P := P) rs { bf.atR { tmps, defers := rs.map mkD } items with mode := .returning } cs w (by simp) rfl hmk.1 (fun r hr => (hmk.2 r hr).1)
  have hr' : Rel (KC P) ρ h w' := ⟨hr.len, fun i B b o n h1 h2 => (hr.blk i B b o n h1 h2).same (Ext.refl _) (fun hl => e5 b fun hb => (hmk.2 b hb).2 i ⟨B, (o, n), h1, hl, h2⟩), hr.sep⟩
  obtain ⟨v, h1, h2⟩ := run_res hr' hv hc e
  exact ⟨v, w', ⟨a, h, ρ, g, h2, hr', ⟨e1, e2, e3, by omega, fun b _ _ hb => e5 b hb, fun b hb => .inl hb, fun i b hb => .inl ⟨i, hb, fun _ => rfl, fun q => q⟩, fun _ _ => rfl⟩⟩, _, s, rfl, rfl, rfl, hk, f, by rw [← hf]; exact congrArg _ hfn, h1⟩
theorem AM.ret {p : Nat} {fn : FuncId} {f : Func} {rs : List RC} {k : List CI} {fr : List AV} {h : List AB} {a : AV} {R : AV → List AB → Prop} (hf : P.funcs[fn]? = some f) (hc : cRes P f.results.toList = some rs) (e : resV fr h rs = some a) (g : R a h) : AM P p none fn (.code .ret :: k) fr h R := by
  intro ρ w tmps items bf cs ms hfn hk hro hp hi hv hr hmk
  obtain ⟨c', its, rfl, hcc, hi2⟩ := hi.code
  obtain rfl : c' = .ret := cCode_inv hcc
  exact (leave_ok hf hc e g hfn hk hv hr hmk).steps (.one (stepR_ret hro))
theorem AM.fin {p : Nat} {fn : FuncId} {f : Func} {rs : List RC} {fr : List AV} {h : List AB} {a : AV} {R : AV → List AB → Prop} (hf : P.funcs[fn]? = some f) (hc : cRes P f.results.toList = some rs) (e : resV fr h rs = some a) (g : R a h) : AM P p none fn [] fr h R := by
  intro ρ w tmps items bf cs ms hfn hk hro hp hi hv hr hmk
  obtain rfl : items = [] := by
    match items, hi with
    | [], _ => rfl
  exact (leave_ok hf hc e g hfn hk hv hr hmk).steps (.one (stepR_end hro))
/-- A loop's record is turned. -/
theorem lp_put {ρ : Mp} {h : List AB} {w : World} (hr : Rel (KC P) ρ h w) {id : Nat} {st st' : LoopState} {pd pd' : XE} {fr0 : List AV} {ps : List Nat} {asg bd : CC} (hlp : h[id]? = some (.lp st pd fr0 ps asg bd)) {l o n : Nat} (hρ : ρ[id]? = some (l, o, n)) {r : Loop} (hl : w.heap[l]? = some (.loop r)) :
    Rel (KC P) ρ (h.set id (.lp st' pd' fr0 ps asg bd)) { w with heap := w.heap.setIfInBounds l (.loop { r with state := st', pending := pd'.jump }) } ∧ Eff ρ h w ρ (h.set id (.lp st' pd' fr0 ps asg bd)) { w with heap := w.heap.setIfInBounds l (.loop { r with state := st', pending := pd'.jump }) } := by
  obtain ⟨r', h1, h2, h3, h4, h5, h6, h7⟩ := r_blk hr hlp hρ
  rw [hl] at h1
  cases h1
  have hlt : l < w.heap.size := (Array.getElem?_eq_some_iff.1 hl).1
  refine hr.put hlp rfl hρ ⟨{ r with state := st', pending := pd'.jump }, by simp [hlt], rfl, rfl, h4, h5, h6, h7⟩ rfl rfl ⟨rfl, Nat.le_refl _⟩ (by simp) (fun k hk => ?_) (fun _ => rfl)
  simp only [Array.getElem?_setIfInBounds_ne (Ne.symm hk)]
theorem lp_dead {ρ : Mp} {h : List AB} {w : World} (hr : Rel (KC P) ρ h w) {id : Nat} {st : LoopState} {pd : XE} {fr0 : List AV} {ps : List Nat} {asg bd : CC} (hlp : h[id]? = some (.lp st pd fr0 ps asg bd)) {l o n : Nat} (hρ : ρ[id]? = some (l, o, n)) (x : Obj) :
    Rel (KC P) ρ (h.set id .dead) { w with heap := w.heap.setIfInBounds l x } ∧ Eff ρ h w ρ (h.set id .dead) { w with heap := w.heap.setIfInBounds l x } := by
  refine hr.put hlp rfl hρ trivial rfl rfl ⟨rfl, Nat.le_refl _⟩ (by simp) (fun k hk => ?_) (fun hl => by cases hl)
  simp only [Array.getElem?_setIfInBounds_ne (Ne.symm hk)]
/-- The state of a loop whose round ended so. -/
def rdSt : XE → LoopState
  | .n => .ready
  | _ => .done
/-- How a round ends. -/
def rdEnd (id : Nat) (x : XE) (fr0 : List AV) (ps : List Nat) (asg bd : CC) (h : List AB) : AV × List AB :=
  (.b (match x with | .n => true | _ => false), h.set id (.lp (rdSt x) x fr0 ps asg bd))
theorem round_ok {p id : Nat} {x : XE} {st : LoopState} {pd : XE} {fr0 : List AV} {ps : List Nat} {asg bd : CC} {h : List AB} {R : AV → List AB → Prop} (hp : p ≤ h.length) (hlp : h[id]? = some (.lp st pd fr0 ps asg bd)) (g : R (rdEnd id x fr0 ps asg bd h).1 (rdEnd id x fr0 ps asg bd h).2)
    {ρ : Mp} {w : World} {bf : Frame} {cs : List Frame} {rs : List Nat} {m : Machine} (hr : Rel (KC P) ρ h w) {l : Nat} {on : Nat × Nat} (hρ : ρ[id]? = some (l, on))
    (hst : ∀ (v : Value) (w' : World), (Instr.endRound l x.jump).run P w = .ok v w' → ∀ c cs', cs = c :: cs' → step P m = .next (lone (c.finish v) cs' w')) : Ret P (some id) bf cs (PostR P p rs ρ h w R) m := by
  obtain ⟨o, n⟩ := on
  obtain ⟨r, h1, h2, h3, h4⟩ := r_blk hr hlp hρ
  have hrun : (Instr.endRound l x.jump).run P w = .ok (.bool x.jump.isNone) { w with heap := w.heap.setIfInBounds l (.loop { r with state := if x.jump.isNone then .ready else .done, pending := x.jump }) } := run_endRound x.jump h1
  obtain ⟨q1, q2⟩ := lp_put (st' := rdSt x) (pd' := x) hr hlp hρ h1
  have hst' : (if x.jump.isNone then LoopState.ready else .done) = rdSt x := by cases x <;> rfl
  rw [hst'] at hrun
  refine ⟨_, _, ⟨_, _, ρ, g, ?_, q1, (q2.p (Ext.refl _) (by rw [hr.len]; exact hp)).x rs⟩, fun c cs' e => .one (hst _ _ hrun c cs' e)⟩
  cases x <;> exact .b _
theorem AM.rend {p id : Nat} {fn : FuncId} {st : LoopState} {pd : XE} {fr0 : List AV} {ps : List Nat} {asg bd : CC} {fr : List AV} {h : List AB} {R : AV → List AB → Prop} (hlp : h[id]? = some (.lp st pd fr0 ps asg bd)) (g : R (rdEnd id .n fr0 ps asg bd h).1 (rdEnd id .n fr0 ps asg bd h).2) : AM P p (some id) fn [] fr h R := by
  intro ρ w tmps items bf cs ms hfn hk hro hp hi hv hr hmk
  obtain rfl : items = [] := by
    match items, hi with
    | [], _ => rfl
  obtain ⟨l, on, h1, h2⟩ := hro
  exact round_ok (x := .n) hp hlp g hr h1 (fun v w' e c cs' hcs => by subst hcs; exact stepR_round_end h2 hk e)
theorem AM.rret {p id : Nat} {fn : FuncId} {st : LoopState} {pd : XE} {fr0 : List AV} {ps : List Nat} {asg bd : CC} {fr : List AV} {h : List AB} {k : List CI} {R : AV → List AB → Prop} (hlp : h[id]? = some (.lp st pd fr0 ps asg bd)) (g : R (rdEnd id .r fr0 ps asg bd h).1 (rdEnd id .r fr0 ps asg bd h).2) : AM P p (some id) fn (.code .ret :: k) fr h R := by
  intro ρ w tmps items bf cs ms hfn hk hro hp hi hv hr hmk
  obtain ⟨c', its, rfl, hcc, hi2⟩ := hi.code
  obtain rfl : c' = .ret := cCode_inv hcc
  obtain ⟨l, on, h1, h2⟩ := hro
  exact round_ok (x := .r) hp hlp g hr h1 (fun v w' e c cs' hcs => by subst hcs; exact stepR_round_ret h2 hk e)
theorem AM.rexit {p id : Nat} {fn : FuncId} {st : LoopState} {pd : XE} {fr0 : List AV} {ps : List Nat} {asg bd : CC} {fr : List AV} {h : List AB} {k : List CI} {x : Nat} {R : AV → List AB → Prop} (hx : cexit x k = none) (hlp : h[id]? = some (.lp st pd fr0 ps asg bd)) (g : R (rdEnd id (.x x) fr0 ps asg bd h).1 (rdEnd id (.x x) fr0 ps asg bd h).2) : AM P p (some id) fn (.code (.exit x) :: k) fr h R := by
  intro ρ w tmps items bf cs ms hfn hk hro hp hi hv hr hmk
  obtain ⟨c', its, rfl, hcc, hi2⟩ := hi.code
  obtain rfl : c' = .exit x := cCode_inv hcc
  obtain ⟨l, on, h1, h2⟩ := hro
  exact round_ok (x := .x x) hp hlp g hr h1 (fun v w' e c cs' hcs => by subst hcs; exact stepR_round_exit h2 hk (cexit_none x k its hi2 hx) e)
/-- A round begins. -/
theorem AM.br {p id : Nat} {fn : FuncId} {pd : XE} {fr0 : List AV} {ps : List Nat} {asg bd : CC} {fr : List AV} {h : List AB} {k : List CI} {R : AV → List AB → Prop} (hlp : h[id]? = some (.lp .ready pd fr0 ps asg bd)) (g : AM P p (some id) fn k fr (h.set id (.lp .busy pd fr0 ps asg bd)) R) : AM P p (some id) fn (.br :: k) fr h R := by
  intro ρ w tmps items bf cs ms hfn hk hro hp hi hv hr hmk
  obtain ⟨its, rfl, hi2⟩ := hi.br
  have hro' := hro
  obtain ⟨l, ⟨o, n⟩, h1, h2⟩ := hro
  obtain ⟨r, q1, q2, q3, _⟩ := r_blk hr hlp h1
  obtain ⟨r1, r2⟩ := lp_put (st' := .busy) (pd' := pd) hr hlp h1 q1
  have e2 : EffP p ρ h w ρ _ _ := r2.p (Ext.refl _) (by rw [hr.len]; exact hp)
  have hrun : (Instr.beginRound l).run P w = .ok () { w with heap := w.heap.setIfInBounds l (.loop { r with state := .busy, pending := pd.jump }) } := by
    rw [← q3]
    exact run_beginRound q1 q2
  have := g ρ _ tmps its bf cs ms hfn hk hro' (by simpa using hp) hi2 hv r1 (hmk.eff e2)
  exact (this.mono fun v w' q => q.from e2 (fun r hr => .inl hr)).steps (.one (stepR_beginRound h2 hrun))
/-- A new block of the world that nothing speaks of. -/
theorem Rel.beside {ρ : Mp} {h : List AB} {w : World} (r : Rel (KC P) ρ h w) (o : Obj) : Rel (KC P) ρ h (w.alloc o) ∧ Eff ρ h w ρ h (w.alloc o) :=
  ⟨⟨r.len, fun i B b o' n h1 h2 => (r.blk i B b o' n h1 h2).same (Ext.refl _) (fun hl => Below.heap_alloc _ _ _ ((r.blk i B b o' n h1 h2).lt hl)), r.sep⟩,
   ⟨rfl, rfl, ⟨rfl, Nat.le_refl _⟩, by simp, fun b hb _ => Below.heap_alloc _ _ _ hb, fun b hb => .inl hb, fun i b hb => .inl hb⟩⟩
/-- What a loop's pending jump leaves to be done. -/
def jumpI : XE → List CI
  | .n => []
  | .x id => [.code (.exit id)]
  | .r => [.code .ret]
theorem jump_irs {x : XE} {k : List CI} {its : List Item} (g : IRs P k its) : IRs P (jumpI x ++ k) ((x.jump.map Item.code).toList ++ its) := by
  cases x with
  | n => exact g
  | x id => exact .mcode rfl g
  | r => exact .mcode rfl g
/-- A range over a function. -/
theorem AM.rf {p : Nat} {fn : FuncId} {q : Opd} {ps : List Nat} {asg bd : CC} {k : List CI} {fr : List AV} {h h2 : List AB} {R : AV → List AB → Prop} {gid : FuncId} {fst cap : List AV} {f : Func} {cf : CF} {v : AV} (hq : q.ev fr = .f (.func gid) fst cap) (hf : P.funcs[gid]? = some f) (hcf : compF P f = some cf)
    (hcall : AM P (h ++ [AB.lp .ready .n fr ps asg bd]).length none gid [.code cf.body] (fst ++ [AV.y h.length] ++ cap ++ List.replicate (cf.ntmps - (fst ++ [AV.y h.length] ++ cap).length) (.tu [])) (h ++ [.lp .ready .n fr ps asg bd]) (fun a h'' => a = v ∧ h'' = h2))
    {st : LoopState} {pd : XE} {fr1 : List AV} {ps1 : List Nat} {a1 b1 : CC} (hlp : h2[h.length]? = some (.lp st pd fr1 ps1 a1 b1)) (hst : st ≠ .busy) (g : AM P p none fn (jumpI pd ++ k) fr (h2.set h.length .dead) R) : AM P p none fn (.code (.rf q ps asg bd) :: k) fr h R := by
  intro ρ w tmps items bf cs ms hfn hk hro hp hi hv hr hmk
  obtain ⟨c', its, rfl, hc, hi2⟩ := hi.code
  obtain ⟨o, qs, x, y, rfl, ho, hqs, hx, hy⟩ := cCode_inv hc
  have hev := EV.of (a := { tmps, defers := ms.map mkD }) hv o q ho
  rw [hq] at hev
  generalize hoe : Act.eval { tmps, defers := ms.map mkD } o = vf at hev
  cases hev with
  | f _ _ _ fst' cap' hl0 hl hvc0 hvc =>
  obtain ⟨hname, body, hbody, hcb, hres, hnt⟩ := compF_some hcf
  have hro0 : bf.roundOf = none := hro
  let W1 : World := w.alloc (.deferred (some []))
  let rec_ : Loop := { state := .ready, pending := none, fn := bf.fn, tmps, params := qs, assign := x, body := y, defers := w.heap.size }
  let W : World := W1.alloc (.loop rec_)
  have hs1 : W1.heap.size = w.heap.size + 1 := by simp [W1]
  obtain ⟨b1r, b2⟩ := hr.beside (.deferred (some []))
  obtain ⟨n1, n2⟩ := b1r.new (.loop rec_) (.lp .ready .n fr ps asg bd) 0 ⟨rec_, World.alloc_heap_new W1 _, rfl, rfl, hv.ext (Ext.push _ _), hqs, hx, hy⟩
  have e0 : EffP p ρ h w (ρ ++ [(W1.heap.size, 0, 0)]) (h ++ [.lp .ready .n fr ps asg bd]) W := ((b2.trans n2).p (Ext.push _ _) (by rw [hr.len]; exact hp))
  have hatW : ∀ i, ¬ At (ρ ++ [(W1.heap.size, 0, 0)]) (h ++ [AB.lp .ready .n fr ps asg bd]) i w.heap.size := fun i ha => by
    rcases (n2.liv i _ ha) with q | q | q
    · obtain ⟨B, on, q1, q2, q3⟩ := q
      have := (hr.blk i B _ on.1 on.2 q1 q3).lt q2
      omega
    · obtain ⟨i', B, on, q1, q2, q3⟩ := q
      have := (hr.blk i' B _ on.1 on.2 q1 q3).lt (AB.live_of_mut q2)
      omega
    · rw [hs1] at q; omega
  have hmk1 : Marks (ρ ++ [(W1.heap.size, 0, 0)]) (h ++ [AB.lp .ready .n fr ps asg bd]) W (w.heap.size :: ms) := by
    have hm0 := hmk.eff e0
    refine ⟨List.nodup_cons.2 ⟨fun hmem => ?_, hmk.1⟩, fun r hr' => ?_⟩
    · have := (Array.getElem?_eq_some_iff.1 (hmk.2 _ hmem).1).1
      omega
    · rcases List.mem_cons.1 hr' with rfl | hr'
      · refine ⟨?_, hatW⟩
        rw [Below.heap_alloc _ _ _ (by rw [hs1]; omega)]
        exact World.alloc_heap_new w _
      · exact hm0.2 r hr'
  have henterL : (Instr.enterLoop bf.fn tmps qs x y bf.roundOf).run P w = .ok (w.heap.size + 1, [mkD w.heap.size]) W := by
    rw [hro0]
    exact run_enterLoop_outer _ _ _ _ _
  have hresv : (resolve (Act.eval { tmps, defers := ms.map mkD }) (rangeCall o (w.heap.size + 1)) 0).run P W = .ok { target := .fn (.func gid) cap', args := fst' ++ #[Value.func (.yield (w.heap.size + 1)) #[] #[]] } W := by
    have : resolve (Act.eval { tmps, defers := ms.map mkD }) (rangeCall o (w.heap.size + 1)) 0 = Deferred.ofValue (Act.eval { tmps, defers := ms.map mkD } o) #[Value.func (.yield (w.heap.size + 1)) #[] #[]] := by
      simp [resolve]
      rfl
    rw [this, hoe]
    rfl
  have hinv : (invoke (.fn (.func gid) cap') (fst' ++ #[Value.func (.yield (w.heap.size + 1)) #[] #[]])).run P W = .ok (.enter gid (fst' ++ #[Value.func (.yield (w.heap.size + 1)) #[] #[]] ++ cap')) W := by
    simp [invoke, callFunc, hf, show f.name ≠ "runtime.NumGoroutine" by simpa using hname, hbody]
  have hstep := stepR_rangeFunc (P := P) (b := bf) (a := { tmps, defers := ms.map mkD }) (k := its) (cs := cs) (w := w) henterL hresv hinv
  let bf' : Frame := { (default : Frame) with fn := gid, kind := .normal, roundOf := none }
  have henter : Frame.enter P gid (fst' ++ #[Value.func (.yield (w.heap.size + 1)) #[] #[]] ++ cap') .normal =
      bf'.atR { tmps := (fst' ++ #[Value.func (.yield (w.heap.size + 1)) #[] #[]] ++ cap') ++ Array.replicate (f.ntmps - (fst' ++ #[Value.func (.yield (w.heap.size + 1)) #[] #[]] ++ cap').size) undef, defers := [] } [.code body] := by
    simp [Frame.enter, Frame.atR, hf, hbody, bf']
  have hyv : VR (ρ ++ [(W1.heap.size, 0, 0)]) (.y h.length) (.func (.yield (w.heap.size + 1)) #[] #[]) := .y h.length (w.heap.size + 1) 0 0 (by rw [← hr.len, List.getElem?_append_right (Nat.le_refl _), hs1]; simp)
  have hargs : VL (ρ ++ [(W1.heap.size, 0, 0)]) (fst ++ [AV.y h.length] ++ cap) (fst' ++ #[Value.func (.yield (w.heap.size + 1)) #[] #[]] ++ cap') := by
    have f1 : VL ρ fst fst' := ⟨hl0, hvc0⟩
    have f2 : VL ρ cap cap' := ⟨hl, hvc⟩
    exact VL.append (VL.append (f1.ext (Ext.push _ _)) (VL.one hyv)) (f2.ext (Ext.push _ _))
  have hsz := hargs.1
  obtain ⟨v', w', ⟨a, h'', ρ', ⟨_, hh2⟩, hva, hrel, heff⟩, frm, hsteps, hfrm, hleave⟩ := hcall (ρ ++ [(W1.heap.size, 0, 0)]) W _ [.code body] bf' (bf.atR { tmps, defers := [mkD w.heap.size] ++ ms.map mkD } (.inRangeFunc (w.heap.size + 1) :: its) :: cs) [] rfl rfl rfl (Nat.le_refl _) (.mcode hcb trivial) (hargs.append (by rw [hsz, hnt]; exact vl_repl _ _)) n1 ⟨List.nodup_nil, fun r h => by simp at h⟩
  have hlen1 : p ≤ (h ++ [AB.lp .ready .n fr ps asg bd]).length := by simp; omega
  rw [hh2] at hrel heff
  have heP := heff.p
  have hext1 := heP.ext n1
  have hρl : ρ'[h.length]? = some (w.heap.size + 1, 0, 0) := hext1 _ _ (by rw [← hr.len, List.getElem?_append_right (Nat.le_refl _), hs1]; simp)
  obtain ⟨r, q1, q2, q3, _⟩ := r_blk hrel hlp hρl
  obtain ⟨d1, d2⟩ := lp_dead hrel hlp hρl (.loop { r with state := .exhausted })
  have hend : (Instr.endLoop (w.heap.size + 1)).run P w' = .ok pd.jump { w' with heap := w'.heap.setIfInBounds (w.heap.size + 1) (.loop { r with state := .exhausted }) } := by
    rw [← q3]
    exact run_endLoop q1 (by rw [q2]; exact hst)
  have e1 : EffP p (ρ ++ [(W1.heap.size, 0, 0)]) (h ++ [.lp .ready .n fr ps asg bd]) W ρ' h2 w' := heP.weak hlen1
  have hlen2 : p ≤ h2.length := by have := heP.len n1 hrel; omega
  have e2 : EffP p ρ' h2 w' ρ' (h2.set h.length .dead) _ := d2.p (Ext.refl _) (by rw [hrel.len]; exact hlen2)
  have hvr : VL ρ' fr tmps := (hv.ext (Ext.push _ _)).ext hext1
  have gg := g ρ' _ tmps ((pd.jump.map Item.code).toList ++ its) bf cs (w.heap.size :: ms) hfn hk hro (by simpa using hlen2) (jump_irs hi2) hvr d1 ((hmk1.eff e1).eff e2)
  refine (gg.mono fun u w'' z => z.from ((e0.trans e1).trans e2) (fun r hr => ?_)).steps (Steps.head hstep ?_)
  · rcases List.mem_cons.1 hr with rfl | hr
    · exact .inr (Nat.le_refl _)
    · exact .inl hr
  · rw [henter]
    refine hsteps.trans (Steps.head (step_leave_returned hleave) ?_)
    rw [finish_atR_inRangeFunc]
    exact .one (stepR_endRangeFunc hend)
end
end Go.Proofs.Ytbcpcjofkfgjoaa
