/- One operation of a region, a call among them: it is done, and the next one's turn comes. Loops, and how a function is left. -/
import Derived.Test.YtbcpcjofkfgjoaaEvO
import Derived.RangeFuncRecord
namespace Go.Proofs.Ytbcpcjofkfgjoaa
open Go.RowKit

section
variable {P : Program}
/-- Operation i is done: the value and the heap are those that the abstract machine says. -/
def OpOk (P : Program) (ops : Array Oper) (i : Nat) (dst : Option Nat) (fr : List AV) (h : List AB) (v : AV) (h' : List AB) : Prop :=
  ∀ (ρ : Mp) (w : World) (tmps : Array Value) (is : List Nat) (its : List Item) (b : Frame) (cs : List Frame) (ds : List Deferred), b.kind = .normal → VL ρ fr tmps → Rel (KC P) ρ h w →
    ∃ v' w' ρ', Steps P (lone (b.atR { tmps, defers := ds } (.inRegion ops (i :: is) :: its)) cs w) (lone (b.atR (Act.put { tmps, defers := ds } dst v') (.inRegion ops is :: its)) cs w') ∧ VR ρ' v v' ∧ Rel (KC P) ρ' h' w' ∧ EffP h.length ρ h w ρ' h' w'

theorem op_plain {ops : Array Oper} {i : Nat} {o : Oper} {c : COper} (ho : ops[i]? = some o) (hc : compO P ops o = some c) {fr : List AV} {h h' : List AB} {v : AV} (hk : gknown fr c.guard = true) (hwt : wants fr c.guard = true)
    (hrun : c.op.run (Opd.ev fr) h = some (v, h')) : OpOk P ops i c.dst fr h v h' := by
  intro ρ w tmps is its bf cs ds hkn hv hr
  obtain ⟨hop, hdst, _⟩ := compO_some hc
  have hw := wants_ok hv hc hk
  rw [hwt] at hw
  have hfin : ∀ (u : Value), (bf.atR { tmps, defers := ds } (.inRegion ops (i :: is) :: its)).finish u = bf.atR (Act.put { tmps, defers := ds } o.dst u) (.inRegion ops is :: its) := fun u => by
    rw [Frame.finish_atR, ho]
    rfl
  obtain ⟨v', w', ρ', hor, hext, hrel, hvr, heff⟩ := exec_ok hr (EV.of (a := { tmps, defers := ds }) hv) (compOpS_run hop (run_stop hrun)) hrun
  refine ⟨v', w', ρ', .one (step_lone_go ?_), hvr, hrel, heff.p hext (by rw [hr.len]; exact Nat.le_refl _)⟩
  rw [stepGR_op ho hw, Oper.semAt_eq _ _ _ (compOpS_defer hop), hdst]
  rcases hor with hok | ⟨hok, rfl⟩
  · rw [← hfin v']; simp [stepG.apply, Sem.runT_eq, hok, GStep.bare_after]
  · rw [← hfin undef]; simp [stepG.apply, Sem.runT_eq, hok, GStep.bare_after]
theorem op_skip {ops : Array Oper} {i : Nat} {o : Oper} {c : COper} (ho : ops[i]? = some o) (hc : compO P ops o = some c) {fr : List AV} {h : List AB} (hk : gknown fr c.guard = true) (hwt : wants fr c.guard = false) : OpOk P ops i c.dst fr h (.tu []) h := by
  intro ρ w tmps is its bf cs ds hkn hv hr
  obtain ⟨hop, hdst, _⟩ := compO_some hc
  have hw := wants_ok hv hc hk
  rw [hwt] at hw
  refine ⟨undef, w, ρ, .one ?_, .tu [] #[] rfl (fun j a c h => by simp at h), hr, EffP.refl _ _ _ _⟩
  have := stepR_op_skip (P := P) (b := bf) (a := { tmps, defers := ds }) (k := its) (cs := cs) (w := w) (ops := ops) (i := i) (rest := is) (by simp [ho, hw])
  rw [ho] at this
  rw [hdst]
  exact this
theorem r_blk {ρ : Mp} {h : List AB} {w : World} (hr : Rel (KC P) ρ h w) {id : Nat} {st : LoopState} {pd : XE} {fr0 : List AV} {ps : List Nat} {asg bd : CC} (hlp : h[id]? = some (.lp st pd fr0 ps asg bd)) {b o n : Nat} (hρ : ρ[id]? = some (b, o, n)) :
    ∃ r : Loop, w.heap[b]? = some (.loop r) ∧ r.state = st ∧ r.pending = pd.jump ∧ VL ρ fr0 r.tmps ∧ r.params.toList = ps ∧ cCode P r.assign = some asg ∧ cCode P r.body = some bd := hr.blk id _ b o n hlp hρ
/-- No call comes of this. -/
def NC (x : Option CO) : Prop := ∀ f a, x ≠ some (.call f a)
theorem nc_none : NC none := fun _ _ h => nomatch h
theorem nc_bind {α : Type} {x : Option α} {g : α → Option CO} (h : ∀ y, NC (g y)) : NC (x.bind g) := by
  cases x with
  | none => exact nc_none
  | some y => exact h y
theorem nc_map {α : Type} {x : Option α} {g : α → CO} (h : ∀ y f a, g y ≠ .call f a) : NC (x.map g) := by
  cases x with
  | none => exact nc_none
  | some y => exact fun f a e => h y f a (Option.some.inj e)
theorem nc_some {c : CO} (h : ∀ f a, c ≠ .call f a) : NC (some c) := fun f a e => h f a (Option.some.inj e)
theorem nc_b (b : Builtin) (as : List Operand) (ts : List TypeId) : NC (compB P b as ts) := by
  unfold compB
  split <;> (repeat' (first | exact nc_none | exact nc_some (fun _ _ h => nomatch h) | exact nc_map (fun _ _ _ h => nomatch h) | refine nc_bind (fun _ => ?_) | split))
theorem nc_bin (op : BinOp) (t : TypeId) (x y : Operand) : NC (cBin P op t x y) := by
  unfold cBin
  repeat' (first | exact nc_none | exact nc_some (fun _ _ h => nomatch h) | exact nc_map (fun _ _ _ h => nomatch h) | refine nc_bind (fun _ => ?_) | split)
theorem nc_conv (s d : TypeId) (x : Operand) : NC (cConv P s d x) := by
  unfold cConv
  repeat' (first | exact nc_none | exact nc_some (fun _ _ h => nomatch h) | exact nc_map (fun _ _ _ h => nomatch h) | refine nc_bind (fun _ => ?_) | split)
theorem compOp_call {o : Op} {f : Opd} {args : List Opd} (h : compOp P o = some (.call f args)) : ∃ c fo, o = .call c ∧ c.callee = .value fo ∧ cOpd fo = some f ∧ cOpds c.args.toList = some args := by
  cases o with
  | call c =>
    simp only [compOp, compCall] at h
    split at h
    · exact absurd h (nc_b _ _ _ _ _)
    · rename_i fo hcal
      split at h
      · obtain ⟨a, ha, h⟩ := Option.bind_eq_some_iff.1 h
        obtain ⟨l, hl, h⟩ := Option.map_eq_some_iff.1 h
        cases h
      · split at h
        · unfold compBix at h
          split at h
          · obtain ⟨a, ha, h⟩ := Option.bind_eq_some_iff.1 h
            obtain ⟨l, hl, h⟩ := Option.map_eq_some_iff.1 h
            cases h
          · cases h
        · obtain ⟨a, ha, h⟩ := Option.bind_eq_some_iff.1 h
          obtain ⟨l, hl, h⟩ := Option.map_eq_some_iff.1 h
          cases h
          exact ⟨c, fo, rfl, hcal, ha, hl⟩
    · cases h
  | binOp => exact absurd h (nc_bin _ _ _ _ _ _)
  | convert => exact absurd h (nc_conv _ _ _ _ _)
  | _ =>
    have key : ∀ {x : Option CO}, x = some (.call f args) → NC x → False := fun e n => n _ _ e
    refine (key h ?_).elim
    simp only [compOp]
    repeat' (first | exact nc_none | exact nc_some (fun _ _ h => nomatch h) | exact nc_map (fun _ _ _ h => nomatch h) | refine nc_bind (fun _ => ?_) | split)
theorem compF_some {f : Func} {cf : CF} (h : compF P f = some cf) : (f.name == "runtime.NumGoroutine") = false ∧ ∃ c, f.body = some c ∧ cCode P c = some cf.body ∧ cRes P f.results.toList = some cf.res ∧ cf.ntmps = f.ntmps := by
  unfold compF at h
  split at h
  · cases h
  · rename_i hn
    obtain ⟨c, hc, h⟩ := Option.bind_eq_some_iff.1 h
    obtain ⟨b, hb, h⟩ := Option.bind_eq_some_iff.1 h
    obtain ⟨r, hr, rfl⟩ := Option.map_eq_some_iff.1 h
    exact ⟨by simpa using hn, c, hc, hb, hr, rfl⟩
theorem vl_repl (ρ : Mp) (n : Nat) : VL ρ (List.replicate n (.tu [])) (Array.replicate n undef) :=
  ⟨by simp, fun j a c h1 h2 => by
    rw [List.getElem?_replicate] at h1
    rw [Array.getElem?_replicate] at h2
    split at h1
    · rw [if_pos (by assumption)] at h2
      cases h1; cases h2
      exact .tu [] #[] rfl (fun j a c h => by simp at h)
    · cases h1⟩
theorem op_call {ops : Array Oper} {i : Nat} {o : Oper} {c : COper} (ho : ops[i]? = some o) (hc : compO P ops o = some c) {fr : List AV} {h h' : List AB} {v : AV} (hk : gknown fr c.guard = true) (hwt : wants fr c.guard = true)
    {f : Opd} {args : List Opd} (hcc : c.op = .call f args) {g : FuncId} {fst cap : List AV} (hfv : f.ev fr = .f (.func g) fst cap) {fn : Func} {cf : CF} (hfn : P.funcs[g]? = some fn) (hcf : compF P fn = some cf)
    (hcall : AM P h.length none g [.code cf.body] (fst ++ args.map (Opd.ev fr) ++ cap ++ List.replicate (cf.ntmps - (fst ++ args.map (Opd.ev fr) ++ cap).length) (.tu [])) h (fun a h'' => a = v ∧ h'' = h')) : OpOk P ops i c.dst fr h v h' := by
  intro ρ w tmps is its bf cs ds hkn hv hr
  obtain ⟨hop, hdst, _⟩ := compO_some hc
  have hw := wants_ok hv hc hk
  rw [hwt] at hw
  have hfin : ∀ (u : Value), (bf.atR { tmps, defers := ds } (.inRegion ops (i :: is) :: its)).finish u = bf.atR (Act.put { tmps, defers := ds } o.dst u) (.inRegion ops is :: its) := fun u => by
    rw [Frame.finish_atR, ho]
    rfl
  have hopS := hop
  rw [hcc] at hop
  obtain ⟨cl, fo, hoc, hcal, hcf1, hcargs⟩ := compOp_call (compOpS_run hop (fun q => nomatch q))
  have hev := EV.of (a := { tmps, defers := ds }) hv
  have h1 := hev fo f hcf1
  rw [hfv] at h1
  have h2 := hev.vl hcargs
  generalize hfoe : Act.eval { tmps, defers := ds } fo = vf at h1
  cases h1 with
  | f _ _ _ fst' cap' hl0 hl hvc0 hvc =>
  obtain ⟨hname, body, hbody, hcb, hres, hnt⟩ := compF_some hcf
  have hargs : VL ρ (fst ++ args.map (Opd.ev fr) ++ cap) (fst' ++ cl.args.map (Act.eval { tmps, defers := ds }) ++ cap') := by
    have h3 : (cl.args.toList.map (Act.eval { tmps, defers := ds })).toArray = cl.args.map (Act.eval { tmps, defers := ds }) := by simp [← Array.toList_map]
    rw [← h3]
    exact VL.append (VL.append ⟨hl0, hvc0⟩ h2) ⟨hl, hvc⟩
  have hrun : (execOp (Act.eval { tmps, defers := ds }) o).run P w = .ok (.enter g (fst' ++ cl.args.map (Act.eval { tmps, defers := ds }) ++ cap')) w := by
    simp [execOp, hoc, resolve, hcal, hfoe, Deferred.ofValue, invoke, callFunc, hfn, show fn.name ≠ "runtime.NumGoroutine" by simpa using hname, hbody]
  let bf' : Frame := { (default : Frame) with fn := g, kind := .normal, roundOf := none }
  have henter : Frame.enter P g (fst' ++ cl.args.map (Act.eval { tmps, defers := ds }) ++ cap') .normal =
      bf'.atR { tmps := (fst' ++ cl.args.map (Act.eval { tmps, defers := ds }) ++ cap') ++ Array.replicate (fn.ntmps - (fst' ++ cl.args.map (Act.eval { tmps, defers := ds }) ++ cap').size) undef, defers := [] } [.code body] := by
    simp [Frame.enter, Frame.atR, hfn, hbody, bf']
  have hsz : (fst ++ args.map (Opd.ev fr) ++ cap).length = (fst' ++ cl.args.map (Act.eval { tmps, defers := ds }) ++ cap').size := hargs.1
  obtain ⟨v', w', ⟨a, h'', ρ', ⟨rfl, rfl⟩, hva, hrel, heff⟩, frm, hsteps, hfrm, hleave⟩ := hcall ρ w _ [.code body] bf' (bf.atR { tmps, defers := ds } (.inRegion ops (i :: is) :: its) :: cs) [] rfl rfl rfl (Nat.le_refl _) (.mcode hcb trivial) (hargs.append (by rw [hsz, hnt]; exact vl_repl ρ _)) hr ⟨List.nodup_nil, fun r h => by simp at h⟩
  refine ⟨v', w', ρ', Steps.head (m₁ := lone (Frame.enter P g (fst' ++ cl.args.map (Act.eval { tmps, defers := ds }) ++ cap') .normal) (bf.atR { tmps, defers := ds } (.inRegion ops (i :: is) :: its) :: cs) w) (step_lone_go ?_) ?_, hva, hrel, heff.p⟩
  · rw [stepGR_op ho hw, Oper.semAt_eq _ _ _ (compOpS_defer hopS)]
    simp [stepG.apply, Sem.runT_eq, hrun, GStep.bare_after, Frame.atR]
  · rw [henter, hdst, ← hfin v']
    exact hsteps.trans (.one (step_leave_returned hleave))

/-- The frame of a round: the loop's frame, the parameters filled. -/
def setPs : List Nat → List AV → List AV → List AV
  | p :: ps, a :: as, fr => setPs ps as (fr.set p a)
  | _, _, fr => fr
theorem setPs_ok {ρ : Mp} : ∀ (ps : List Nat) (as : List AV) (vs : List Value) (fr : List AV) (tmps : Array Value), ps.length = as.length → VL ρ as vs.toArray → VL ρ fr tmps → VL ρ (setPs ps as fr) (((ps.zip vs)).foldl (fun tmps x => tmps.setIfInBounds x.1 x.2) tmps)
  | [], [], vs, fr, tmps, _, _, h => by simpa [setPs] using h
  | p :: ps, a :: as, vs, fr, tmps, hl, ha, h => by
    cases vs with
    | nil => have := ha.1; simp at this
    | cons v vs =>
      simp only [setPs, List.zip_cons_cons, List.foldl_cons]
      refine setPs_ok ps as vs _ _ (by simpa using hl) ⟨by have := ha.1; simpa using this, fun j x y h1 h2 => ha.2 (j + 1) x y (by simpa using h1) (by simpa using h2)⟩ (h.set p (ha.2 0 a v rfl rfl))
  | [], _ :: _, _, _, _, hl, _, _ => by simp at hl
  | _ :: _, [], _, _, _, hl, _, _ => by simp at hl
theorem op_yield {ops : Array Oper} {i : Nat} {o : Oper} {c : COper} (ho : ops[i]? = some o) (hc : compO P ops o = some c) {fr : List AV} {h h' : List AB} {v : AV} (hk : gknown fr c.guard = true) (hwt : wants fr c.guard = true)
    {f : Opd} {args : List Opd} (hcc : c.op = .call f args) {id : Nat} (hfv : f.ev fr = .y id) {st : LoopState} {pd : XE} {fr0 : List AV} {ps : List Nat} {asg bd : CC} (hlp : h[id]? = some (.lp st pd fr0 ps asg bd)) (hps : ps.length = args.length)
    (hcall : ∀ g, AM P h.length (some id) g [.code asg, .br, .code bd] (setPs ps (args.map (Opd.ev fr)) fr0) h (fun a h'' => a = v ∧ h'' = h')) : OpOk P ops i c.dst fr h v h' := by
  intro ρ w tmps is its bf cs ds hkn hv hr
  obtain ⟨hop, hdst, _⟩ := compO_some hc
  have hw := wants_ok hv hc hk
  rw [hwt] at hw
  have hfin : ∀ (u : Value), (bf.atR { tmps, defers := ds } (.inRegion ops (i :: is) :: its)).finish u = bf.atR (Act.put { tmps, defers := ds } o.dst u) (.inRegion ops is :: its) := fun u => by
    rw [Frame.finish_atR, ho]
    rfl
  have hopS := hop
  rw [hcc] at hop
  obtain ⟨cl, fo, hoc, hcal, hcf1, hcargs⟩ := compOp_call (compOpS_run hop (fun q => nomatch q))
  have hev := EV.of (a := { tmps, defers := ds }) hv
  have h1 := hev fo f hcf1
  rw [hfv] at h1
  have h2 := hev.vl hcargs
  generalize hfoe : Act.eval { tmps, defers := ds } fo = vf at h1
  cases h1 with
  | y _ l on n hρ =>
  obtain ⟨r, hr1, hr2, hr3, hr4, hr5, hr6, hr7⟩ := r_blk hr hlp hρ
  have hargsz : (cl.args.map (Act.eval { tmps, defers := ds })).size = r.params.size := by
    have := h2.1
    simp at this
    rw [Array.size_map, ← Array.length_toList (xs := r.params), hr5, hps]
    exact this.symm
  have hrun : (execOp (Act.eval { tmps, defers := ds }) o).run P w = .ok (.round l r.fn ((r.params.zip (cl.args.map (Act.eval { tmps, defers := ds }))).foldl (fun tmps x => tmps.setIfInBounds x.1 x.2) r.tmps) r.assign r.body) w := by
    have hy := run_yield (P := P) (args := cl.args.map (Act.eval { tmps, defers := ds })) hr1 hargsz
    have hinv : invoke (.fn (.yield l) #[]) (cl.args.map (Act.eval { tmps, defers := ds })) = Instr.yield l (cl.args.map (Act.eval { tmps, defers := ds })) := by simp [invoke]
    simp [execOp, hoc, resolve, hcal, hfoe, Deferred.ofValue, hinv]
    first | exact hy | (simp at hy; exact hy)
  let bf' : Frame := { (default : Frame) with fn := r.fn, kind := .normal, roundOf := some l }
  have henter : Frame.round l r.fn ((r.params.zip (cl.args.map (Act.eval { tmps, defers := ds }))).foldl (fun tmps x => tmps.setIfInBounds x.1 x.2) r.tmps) r.assign r.body .normal =
      bf'.atR { tmps := (r.params.zip (cl.args.map (Act.eval { tmps, defers := ds }))).foldl (fun tmps x => tmps.setIfInBounds x.1 x.2) r.tmps, defers := [] } [.code r.assign, .beginRound, .code r.body] := by
    simp [Frame.round, Frame.atR, bf']
  have hvl : VL ρ (setPs ps (args.map (Opd.ev fr)) fr0) ((r.params.zip (cl.args.map (Act.eval { tmps, defers := ds }))).foldl (fun tmps x => tmps.setIfInBounds x.1 x.2) r.tmps) := by
    have := setPs_ok ps (args.map (Opd.ev fr)) _ fr0 r.tmps (by simpa using hps) h2 hr4
    rw [← hr5] at this ⊢
    rw [← Array.foldl_toList, Array.toList_zip, Array.toList_map]
    exact this
  obtain ⟨v', w', ⟨a, h'', ρ', ⟨rfl, rfl⟩, hva, hrel, heff⟩, hsteps⟩ := hcall r.fn ρ w _ [.code r.assign, .beginRound, .code r.body] bf' (bf.atR { tmps, defers := ds } (.inRegion ops (i :: is) :: its) :: cs) [] rfl rfl ⟨l, (on, n), hρ, rfl⟩ (Nat.le_refl _) (.mcode hr6 (.mbr (.mcode hr7 trivial))) hvl hr ⟨List.nodup_nil, fun r h => by simp at h⟩
  refine ⟨v', w', ρ', Steps.head (m₁ := lone (Frame.round l r.fn ((r.params.zip (cl.args.map (Act.eval { tmps, defers := ds }))).foldl (fun tmps x => tmps.setIfInBounds x.1 x.2) r.tmps) r.assign r.body .normal) (bf.atR { tmps, defers := ds } (.inRegion ops (i :: is) :: its) :: cs) w) (step_lone_go ?_) ?_, hva, hrel, heff.p⟩
  · rw [stepGR_op ho hw, Oper.semAt_eq _ _ _ (compOpS_defer hopS)]
    simp [stepG.apply, Sem.runT_eq, hrun, GStep.bare_after, Frame.atR]
  · rw [henter, hdst, ← hfin v']
    exact hsteps _ _ rfl
end
end Go.Proofs.Ytbcpcjofkfgjoaa
