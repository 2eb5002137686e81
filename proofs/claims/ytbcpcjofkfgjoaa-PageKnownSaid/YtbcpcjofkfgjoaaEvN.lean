/- The abstract machine's steps are sound. -/
import Derived.Test.YtbcpcjofkfgjoaaEvM
namespace Go.Proofs.Ytbcpcjofkfgjoaa
open Go.RowKit

section
variable {P : Program}
theorem cCode_inv {c' : Code} {c : CC} (h : cCode P c' = some c) : match c with
    | .skip => c' = .skip ∨ ∃ l, c' = .label l
    | .reg id ops => ∃ o, c' = .region id o false ∧ cOps P o (List.range o.size) = some ops
    | .drw id ds => ∃ o l, c' = .region id o true ∧ cDraw P o (List.range o.size) = some l ∧ ds = clos [] l ∧ drawOk [] ds (l.map (·.2)) = true
    | .seq a b => ∃ x y, c' = .seq x y ∧ cCode P x = some a ∧ cCode P y = some b
    | .cond q a b => ∃ o x y, c' = .cond o x y ∧ cOpd o = some q ∧ cCode P x = some a ∧ cCode P y = some b
    | .block id a => ∃ x, c' = .block id x ∧ cCode P x = some a
    | .loop a => ∃ x, c' = .loop x ∧ cCode P x = some a
    | .scope a => ∃ x, c' = .scope x ∧ cCode P x = some a
    | .exit id => c' = .exit id
    | .ret => c' = .ret
    | .stop => True
    | .rf g ps a b => ∃ o qs x y, c' = .rangeFunc o qs x y ∧ cOpd o = some g ∧ qs.toList = ps ∧ cCode P x = some a ∧ cCode P y = some b := by
  cases c' with
  | skip => cases h; exact .inl rfl
  | label l => cases h; exact .inr ⟨l, rfl⟩
  | region id ops d =>
    simp only [cCode] at h
    cases d with
    | true =>
      simp only [if_true] at h
      obtain ⟨l, hl, h⟩ := Option.map_eq_some_iff.1 h
      split at h
      · rename_i hok
        cases h
        exact ⟨ops, l, rfl, hl, rfl, hok⟩
      · cases h; trivial
    | false =>
      simp only [Bool.false_eq_true, if_false] at h
      obtain ⟨l, hl, rfl⟩ := Option.map_eq_some_iff.1 h
      exact ⟨ops, rfl, hl⟩
  | seq a b =>
    simp only [cCode] at h
    obtain ⟨x, hx, h⟩ := Option.bind_eq_some_iff.1 h
    obtain ⟨y, hy, rfl⟩ := Option.map_eq_some_iff.1 h
    exact ⟨a, b, rfl, hx, hy⟩
  | cond q a b =>
    simp only [cCode] at h
    split at h
    · cases h; trivial
    · rename_i o ho
      obtain ⟨x, hx, h⟩ := Option.bind_eq_some_iff.1 h
      obtain ⟨y, hy, rfl⟩ := Option.map_eq_some_iff.1 h
      exact ⟨q, a, b, rfl, ho, hx, hy⟩
  | rangeFunc g ps a b =>
    simp only [cCode] at h
    split at h
    · cases h; trivial
    · rename_i o ho
      obtain ⟨x, hx, h⟩ := Option.bind_eq_some_iff.1 h
      obtain ⟨y, hy, rfl⟩ := Option.map_eq_some_iff.1 h
      exact ⟨g, ps, a, b, rfl, ho, rfl, hx, hy⟩
  | block id a =>
    simp only [cCode] at h
    obtain ⟨x, hx, rfl⟩ := Option.map_eq_some_iff.1 h
    exact ⟨a, rfl, hx⟩
  | loop a =>
    simp only [cCode] at h
    obtain ⟨x, hx, rfl⟩ := Option.map_eq_some_iff.1 h
    exact ⟨a, rfl, hx⟩
  | scope a =>
    simp only [cCode] at h
    obtain ⟨x, hx, rfl⟩ := Option.map_eq_some_iff.1 h
    exact ⟨a, rfl, hx⟩
  | exit id => cases h; rfl
  | ret => cases h; rfl
  | _ => cases h; trivial
theorem IRs.code {c : CC} {k : List CI} {items : List Item} (h : IRs P (.code c :: k) items) : ∃ c' its, items = .code c' :: its ∧ cCode P c' = some c ∧ IRs P k its := by
  cases items with
  | nil => exact h.elim
  | cons i its =>
    obtain ⟨h1, h2⟩ := h
    cases i with
    | code c' => exact ⟨c', its, rfl, h1, h2⟩
    | _ => exact h1.elim
theorem IRs.blk {id : Nat} {k : List CI} {items : List Item} (h : IRs P (.blk id :: k) items) : ∃ its, items = .inBlock id :: its ∧ IRs P k its := by
  cases items with
  | nil => exact h.elim
  | cons i its =>
    obtain ⟨h1, h2⟩ := h
    cases i with
    | inBlock id' =>
      cases h1
      exact ⟨its, rfl, h2⟩
    | _ => exact h1.elim
theorem IRs.lp {c : CC} {k : List CI} {items : List Item} (h : IRs P (.lp c :: k) items) : ∃ c' its, items = .inLoop c' :: its ∧ cCode P c' = some c ∧ IRs P k its := by
  cases items with
  | nil => exact h.elim
  | cons i its =>
    obtain ⟨h1, h2⟩ := h
    cases i with
    | inLoop c' => exact ⟨c', its, rfl, h1, h2⟩
    | _ => exact h1.elim
theorem IRs.sc {k : List CI} {items : List Item} (h : IRs P (.sc :: k) items) : ∃ c' its, items = .inScope c' :: its ∧ IRs P k its := by
  cases items with
  | nil => exact h.elim
  | cons i its =>
    obtain ⟨h1, h2⟩ := h
    cases i with
    | inScope c' => exact ⟨c', its, rfl, h2⟩
    | _ => exact h1.elim
theorem IRs.ops {l : List COper} {k : List CI} {items : List Item} (h : IRs P (.ops l :: k) items) : ∃ ops is its, items = .inRegion ops is :: its ∧ cOps P ops is = some l ∧ IRs P k its := by
  cases items with
  | nil => exact h.elim
  | cons i its =>
    obtain ⟨h1, h2⟩ := h
    cases i with
    | inRegion ops is => exact ⟨ops, is, its, rfl, h1, h2⟩
    | _ => exact h1.elim
theorem IRs.br {k : List CI} {items : List Item} (h : IRs P (.br :: k) items) : ∃ its, items = .beginRound :: its ∧ IRs P k its := by
  cases items with
  | nil => exact h.elim
  | cons i its =>
    obtain ⟨h1, h2⟩ := h
    cases i with
    | beginRound => exact ⟨its, rfl, h2⟩
    | _ => exact h1.elim
theorem IRs.mbr {k : List CI} {its : List Item} (g : IRs P k its) : IRs P (.br :: k) (.beginRound :: its) := ⟨trivial, g⟩
theorem IRs.mcode {a : CC} {x : Code} {k : List CI} {its : List Item} (h : cCode P x = some a) (g : IRs P k its) : IRs P (.code a :: k) (.code x :: its) := ⟨h, g⟩
theorem IRs.mlp {a : CC} {x : Code} {k : List CI} {its : List Item} (h : cCode P x = some a) (g : IRs P k its) : IRs P (.lp a :: k) (.inLoop x :: its) := ⟨h, g⟩
theorem IRs.mblk (id : Nat) {k : List CI} {its : List Item} (g : IRs P k its) : IRs P (.blk id :: k) (.inBlock id :: its) := ⟨rfl, g⟩
theorem IRs.msc (x : Code) {k : List CI} {its : List Item} (g : IRs P k its) : IRs P (.sc :: k) (.inScope x :: its) := ⟨trivial, g⟩
theorem IRs.mops {l : List COper} {ops : Array Oper} {is : List Nat} {k : List CI} {its : List Item} (h : cOps P ops is = some l) (g : IRs P k its) : IRs P (.ops l :: k) (.inRegion ops is :: its) := ⟨h, g⟩
theorem IRs.cons {c : CI} {i : Item} {k : List CI} {its : List Item} (h : IR P c i) (g : IRs P k its) : IRs P (c :: k) (i :: its) := ⟨h, g⟩
def cexit (id : Nat) : List CI → Option (List CI)
  | .blk id' :: k => if id' = id then some k else cexit id k
  | _ :: k => cexit id k
  | [] => none
theorem cexit_ok (id : Nat) : ∀ (k k' : List CI) (items : List Item), IRs P k items → cexit id k = some k' → ∃ its, exitTo id items = some its ∧ IRs P k' its
  | [], k', items, _, e => by cases e
  | .blk id' :: k, k', items, h, e => by
    obtain ⟨its, rfl, h'⟩ := h.blk
    simp only [cexit] at e
    by_cases hid : id' = id
    · rw [if_pos hid] at e
      cases e
      exact ⟨its, by simp [exitTo, hid], h'⟩
    · rw [if_neg hid] at e
      obtain ⟨its', h1, h2⟩ := cexit_ok id k k' its h' e
      exact ⟨its', by simp [exitTo, hid, h1], h2⟩
  | .code c :: k, k', items, h, e => by
    obtain ⟨c', its, rfl, _, h'⟩ := h.code
    obtain ⟨its', h1, h2⟩ := cexit_ok id k k' its h' e
    exact ⟨its', by simp [exitTo, h1], h2⟩
  | .lp c :: k, k', items, h, e => by
    obtain ⟨c', its, rfl, _, h'⟩ := h.lp
    obtain ⟨its', h1, h2⟩ := cexit_ok id k k' its h' e
    exact ⟨its', by simp [exitTo, h1], h2⟩
  | .sc :: k, k', items, h, e => by
    obtain ⟨c', its, rfl, h'⟩ := h.sc
    obtain ⟨its', h1, h2⟩ := cexit_ok id k k' its h' e
    exact ⟨its', by simp [exitTo, h1], h2⟩
  | .ops l :: k, k', items, h, e => by
    obtain ⟨ops, is, its, rfl, _, h'⟩ := h.ops
    obtain ⟨its', h1, h2⟩ := cexit_ok id k k' its h' e
    exact ⟨its', by simp [exitTo, h1], h2⟩
  | .br :: k, k', items, h, e => by
    obtain ⟨its, rfl, h'⟩ := h.br
    obtain ⟨its', h1, h2⟩ := cexit_ok id k k' its h' e
    exact ⟨its', by simp [exitTo, h1], h2⟩
theorem cexit_none (id : Nat) : ∀ (k : List CI) (items : List Item), IRs P k items → cexit id k = none → exitTo id items = none
  | [], items, h, _ => by
    match items, h with
    | [], _ => rfl
  | .blk id' :: k, items, h, e => by
    obtain ⟨its, rfl, h'⟩ := h.blk
    simp only [cexit] at e
    by_cases hid : id' = id
    · rw [if_pos hid] at e
      cases e
    · rw [if_neg hid] at e
      simp [exitTo, hid, cexit_none id k its h' e]
  | .code c :: k, items, h, e => by
    obtain ⟨c', its, rfl, _, h'⟩ := h.code
    simp [exitTo, cexit_none id k its h' e]
  | .lp c :: k, items, h, e => by
    obtain ⟨c', its, rfl, _, h'⟩ := h.lp
    simp [exitTo, cexit_none id k its h' e]
  | .sc :: k, items, h, e => by
    obtain ⟨c', its, rfl, h'⟩ := h.sc
    simp [exitTo, cexit_none id k its h' e]
  | .ops l :: k, items, h, e => by
    obtain ⟨ops, is, its, rfl, _, h'⟩ := h.ops
    simp [exitTo, cexit_none id k its h' e]
  | .br :: k, items, h, e => by
    obtain ⟨its, rfl, h'⟩ := h.br
    simp [exitTo, cexit_none id k its h' e]
/-- One step of the abstract machine; none: it is no step of hers (a call, a loop, the end). -/
def astep : List CI → List AV → List AB → Option (List CI × List AV × List AB)
  | .code c :: k, fr, h => match c with
    | .skip => some (k, fr, h)
    | .seq a b => some (.code a :: .code b :: k, fr, h)
    | .cond c a b => match c.ev fr with
      | .b true => some (.code a :: k, fr, h)
      | .b false => some (.code b :: k, fr, h)
      | _ => none
    | .block id a => some (.code a :: .blk id :: k, fr, h)
    | .scope a => some (.code a :: .sc :: k, fr, h)
    | .exit id => (cexit id k).map (·, fr, h)
    | .reg _ ops => some (.ops ops :: k, fr, h)
    | _ => none
  | .blk _ :: k, fr, h => some (k, fr, h)
  | .sc :: k, fr, h => some (k, fr, h)
  | .ops [] :: k, fr, h => some (k, fr, h)
  | .ops (o :: l) :: k, fr, h =>
    if gknown fr o.guard then
      match wants fr o.guard with
      | true => (o.op.run (Opd.ev fr) h).map fun (v, h') => (.ops l :: k, put fr o.dst v, h')
      | false => some (.ops l :: k, put fr o.dst (.tu []), h)
    else none
  | _, _, _ => none
theorem compOpS_defer {o : Op} {c : CO} (h : compOpS P o = some c) : ∀ q, o ≠ .defer q := fun q e => by
  subst e
  cases h
theorem compOpS_run {o : Op} {c : CO} (h : compOpS P o = some c) (hc : c ≠ .stop) : compOp P o = some c := by
  unfold compOpS at h
  split at h
  · cases h
  · cases hq : compOp P o with
    | none => rw [hq] at h; cases h; exact absurd rfl hc
    | some d => rw [hq] at h; cases h; rfl
theorem run_stop {ev : Opd → AV} {h : List AB} {c : CO} {r : AV × List AB} (e : c.run ev h = some r) : c ≠ .stop := fun q => by
  subst q
  cases e
theorem compO_some {ops : Array Oper} {o : Oper} {c : COper} (h : compO P ops o = some c) : compOpS P o.op = some c.op ∧ c.dst = o.dst ∧ (match o.guard with | none => c.guard = none | some (j, want) => ∃ t, (ops[j]?).bind (·.dst) = some t ∧ c.guard = some (t, want)) := by
  unfold compO at h
  obtain ⟨op, hop, h⟩ := Option.bind_eq_some_iff.1 h
  split at h
  · rename_i hg
    cases h
    exact ⟨hop, rfl, by first | rw [hg] | rfl⟩
  · rename_i j want hg
    obtain ⟨t, ht, rfl⟩ := Option.map_eq_some_iff.1 h
    refine ⟨hop, rfl, ?_⟩
    try rw [hg]
    exact ⟨t, ht, rfl⟩
theorem wants_ok {ρ : Mp} {fr : List AV} {tmps : Array Value} (hv : VL ρ fr tmps) {ops : Array Oper} {o : Oper} {c : COper} (h : compO P ops o = some c) (hk : gknown fr c.guard = true) : Region.wanted o (yielded ops tmps) = wants fr c.guard := by
  obtain ⟨_, _, hg⟩ := compO_some h
  unfold Region.wanted
  split at hg
  · rename_i hn
    rw [hn, hg]
    rfl
  · rename_i j want hs
    obtain ⟨t, ht, hc⟩ := hg
    rw [hs, hc]
    rw [hc] at hk
    simp only [wants, gknown] at hk ⊢
    unfold yielded
    rw [ht]
    simp only [Option.bind_some]
    cases hf : fr[t]? with
    | none =>
      have : tmps[t]? = none := Array.getElem?_eq_none (by rw [← hv.1]; exact (List.getElem?_eq_none_iff.1 hf))
      rw [this]
      cases want <;> rfl
    | some a =>
      rw [hf] at hk
      obtain ⟨v, hv1, hv2⟩ := hv.get hf
      rw [hv1]
      cases hv2 with
      | top v => simp [AV.known] at hk
      | b x => cases x <;> cases want <;> rfl
      | _ => simp
theorem put_ok {ρ : Mp} {fr : List AV} {a : Act} (hv : VL ρ fr a.tmps) (d : Option Nat) {x : AV} {v : Value} (hx : VR ρ x v) : VL ρ (put fr d x) (a.put d v).tmps ∧ (a.put d v).defers = a.defers := by
  cases d with
  | none => exact ⟨hv, rfl⟩
  | some d => exact ⟨hv.set d hx, rfl⟩
theorem AM.go {p : Nat} {rd : Option Nat} {fn : FuncId} {todo todo' : List CI} {fr fr' : List AV} {h h' : List AB} {R : AV → List AB → Prop} (e : astep todo fr h = some (todo', fr', h')) (g : AM P p rd fn todo' fr' h' R) : AM P p rd fn todo fr h R := by
  intro ρ w tmps items bf cs rs hf hk hro hp hi hv hr hmk
  have same : ∀ {items' : List Item}, h' = h → fr' = fr → IRs P todo' items' → step P (lone (bf.atR { tmps, defers := rs.map mkD } items) cs w) = .next (lone (bf.atR { tmps, defers := rs.map mkD } items') cs w) → Ret P rd bf cs (PostR P p rs ρ h w R) (lone (bf.atR { tmps, defers := rs.map mkD } items) cs w) := by
    rintro items' rfl rfl hi' hs
    exact (g ρ w tmps items' bf cs rs hf hk hro hp hi' hv hr hmk).steps (.one hs)
  cases todo with
  | nil => cases e
  | cons c k =>
    cases c with
    | blk id =>
      obtain ⟨its, rfl, hi2⟩ := hi.blk
      cases e
      exact same rfl rfl hi2 stepR_inBlock
    | sc =>
      obtain ⟨c', its, rfl, hi2⟩ := hi.sc
      cases e
      exact same rfl rfl hi2 (step_lone_go (by simp [stepG, stepG.exec, Frame.atR]))
    | lp c => cases e
    | br => cases e
    | code c =>
      obtain ⟨c', its, rfl, hc, hi2⟩ := hi.code
      have inv := cCode_inv hc
      cases c with
      | skip =>
        cases e
        rcases inv with rfl | ⟨l, rfl⟩
        · exact same rfl rfl hi2 stepR_skip
        · exact same rfl rfl hi2 stepR_label
      | seq a b =>
        obtain ⟨x, y, rfl, h1, h2⟩ := inv
        cases e
        exact same rfl rfl (.mcode h1 (.mcode h2 hi2)) stepR_seq
      | cond q a b =>
        obtain ⟨o, x, y, rfl, h0, h1, h2⟩ := inv
        have hev := EV.of (a := { tmps, defers := rs.map mkD }) hv o q h0
        simp only [astep] at e
        split at e
        · rename_i hq
          cases e
          rw [hq] at hev
          generalize hvc : Act.eval { tmps, defers := rs.map mkD } o = vc at hev
          cases hev
          exact same rfl rfl (items' := .code x :: its) (.mcode h1 hi2) (stepR_cond hvc)
        · rename_i hq
          cases e
          rw [hq] at hev
          generalize hvc : Act.eval { tmps, defers := rs.map mkD } o = vc at hev
          cases hev
          exact same rfl rfl (items' := .code y :: its) (.mcode h2 hi2) (stepR_cond hvc)
        · cases e
      | block id a =>
        obtain ⟨x, rfl, h1⟩ := inv
        cases e
        exact same rfl rfl (.mcode h1 (.mblk id hi2)) stepR_block
      | scope a =>
        obtain ⟨x, rfl, h1⟩ := inv
        cases e
        exact same rfl rfl (items' := .code x :: .inScope x :: its) (.mcode h1 (.msc x hi2)) (step_lone_go (by simp [stepG, stepG.exec, Frame.atR]))
      | exit id =>
        cases inv
        obtain ⟨k', hk', e⟩ := Option.map_eq_some_iff.1 e
        cases e
        obtain ⟨its', h1, h2⟩ := cexit_ok id _ _ _ hi2 hk'
        exact same rfl rfl h2 (stepR_exit h1)
      | reg id l =>
        obtain ⟨o, rfl, h1⟩ := inv
        cases e
        exact same rfl rfl (.mops h1 hi2) stepR_region
      | drw id l => cases e
      | loop a => cases e
      | ret => cases e
      | stop => cases e
      | rf g ps a b => cases e
    | ops l =>
      obtain ⟨ops, is, its, rfl, hc, hi2⟩ := hi.ops
      cases l with
      | nil =>
        cases e
        cases is with
        | nil => exact same rfl rfl hi2 stepR_region_end
        | cons i is =>
          simp only [cOps] at hc
          obtain ⟨_, _, hc⟩ := Option.bind_eq_some_iff.1 hc
          obtain ⟨_, _, hc⟩ := Option.bind_eq_some_iff.1 hc
          obtain ⟨_, _, hc⟩ := Option.map_eq_some_iff.1 hc
          cases hc
      | cons c l =>
        cases is with
        | nil => cases hc
        | cons i is =>
          simp only [cOps] at hc
          obtain ⟨o, ho, hc⟩ := Option.bind_eq_some_iff.1 hc
          obtain ⟨c', hc', hc⟩ := Option.bind_eq_some_iff.1 hc
          obtain ⟨l', hl', hc⟩ := Option.map_eq_some_iff.1 hc
          cases hc
          obtain ⟨hop, hdst, _⟩ := compO_some hc'
          simp only [astep] at e
          split at e
          case isFalse => cases e
          rename_i hkn
          have hw := wants_ok hv hc' hkn
          have hfin : ∀ (u : Value) (w' : World), (bf.atR { tmps, defers := rs.map mkD } (.inRegion ops (i :: is) :: its)).finish u = bf.atR (Act.put { tmps, defers := rs.map mkD } o.dst u) (.inRegion ops is :: its) := fun u _ => by
            rw [Frame.finish_atR, ho]
            rfl
          split at e
          · rename_i hwt
            rw [hwt] at hw
            obtain ⟨⟨v, h1⟩, hrun, e⟩ := Option.map_eq_some_iff.1 e
            cases e
            obtain ⟨v', w', ρ', hor, hext, hrel, hvr, heff⟩ := exec_ok hr (EV.of (a := { tmps, defers := rs.map mkD }) hv) (compOpS_run hop (run_stop hrun)) hrun
            have hput := put_ok (a := { tmps, defers := rs.map mkD }) (hv.ext hext) c.dst hvr
            have hlen := hext.len
            rw [hr.len] at hlen
            have g' := g ρ' w' (Act.put { tmps, defers := rs.map mkD } c.dst v').tmps (.inRegion ops is :: its) bf cs rs hf hk (hro.ext hext) (by rw [← hrel.len]; omega) (.mops hl' hi2) hput.1 hrel (hmk.eff (heff.p hext (by rw [hr.len]; exact hp)))
            have hact : (⟨(Act.put { tmps, defers := rs.map mkD } c.dst v').tmps, rs.map mkD⟩ : Act) = Act.put { tmps, defers := rs.map mkD } c.dst v' := by
              cases c.dst <;> rfl
            rw [hact] at g'
            have hstep : step P (lone (bf.atR { tmps, defers := rs.map mkD } (.inRegion ops (i :: is) :: its)) cs w) = .next (lone (bf.atR (Act.put { tmps, defers := rs.map mkD } c.dst v') (.inRegion ops is :: its)) cs w') := by
              refine step_lone_go ?_
              rw [stepGR_op ho hw, Oper.semAt_eq _ _ _ (compOpS_defer hop), hdst]
              rcases hor with hok | ⟨hok, rfl⟩
              · rw [← hfin v' w']; simp [stepG.apply, Sem.runT_eq, hok, GStep.bare_after]
              · rw [← hfin undef w']; simp [stepG.apply, Sem.runT_eq, hok, GStep.bare_after]
            exact (g'.mono fun v w'' q => q.from (heff.p hext (by rw [hr.len]; exact hp)) (fun r hr => .inl hr)).steps (.one hstep)
          · rename_i hwt
            rw [hwt] at hw
            cases e
            have hput := put_ok (a := { tmps, defers := rs.map mkD }) hv c.dst (x := .tu []) (v := undef) (.tu [] #[] rfl (fun j a c h => by simp at h))
            have g' := g ρ w (Act.put { tmps, defers := rs.map mkD } c.dst undef).tmps (.inRegion ops is :: its) bf cs rs hf hk hro hp (.mops hl' hi2) hput.1 hr hmk
            have hact : (⟨(Act.put { tmps, defers := rs.map mkD } c.dst undef).tmps, rs.map mkD⟩ : Act) = Act.put { tmps, defers := rs.map mkD } c.dst undef := by
              cases c.dst <;> rfl
            rw [hact] at g'
            refine g'.steps (.one ?_)
            have := stepR_op_skip (P := P) (b := bf) (a := { tmps, defers := rs.map mkD }) (k := its) (cs := cs) (w := w) (ops := ops) (i := i) (rest := is) (by simp [ho, hw])
            rw [ho] at this
            rw [hdst]
            exact this
/-- Many steps. -/
def arun : Nat → List CI → List AV → List AB → List CI × List AV × List AB
  | 0, t, fr, h => (t, fr, h)
  | n + 1, t, fr, h => match astep t fr h with
    | some (t', fr', h') => arun n t' fr' h'
    | none => (t, fr, h)
theorem AM.run {p : Nat} {rd : Option Nat} {fn : FuncId} {R : AV → List AB → Prop} : ∀ (n : Nat) {todo : List CI} {fr : List AV} {h : List AB}, AM P p rd fn (arun n todo fr h).1 (arun n todo fr h).2.1 (arun n todo fr h).2.2 R → AM P p rd fn todo fr h R
  | 0, _, _, _, g => g
  | n + 1, todo, fr, h, g => by
    simp only [arun] at g
    split at g
    · rename_i t' fr' h' e
      exact AM.go e (AM.run n g)
    · exact g
end
end Go.Proofs.Ytbcpcjofkfgjoaa
