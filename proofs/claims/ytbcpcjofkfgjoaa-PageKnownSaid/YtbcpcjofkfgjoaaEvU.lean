/- One operation of the abstract machine, run fast: what holds of it. -/
import Derived.Test.YtbcpcjofkfgjoaaEvT
namespace Go.Proofs.Ytbcpcjofkfgjoaa
open Go.RowKit

theorem okV_eq (q : Nat → Bool) (v : AV) : okV q v = v.ok q := by
  cases v <;> simp [okV, AV.ok]
mutual
theorem AV.ok_mono {q q' : Nat → Bool} (h : ∀ i, q i = true → q' i = true) : ∀ a : AV, a.ok q = true → a.ok q' = true
  | .p id _, e => by simp only [AV.ok] at e ⊢; exact h id e
  | .y id, e => by simp only [AV.ok] at e ⊢; exact h id e
  | .sl id _ len cap k, e => by
    simp only [AV.ok, Bool.or_eq_true] at e ⊢
    exact e.imp (fun x => x) (h _)
  | .f _ fst cap, e => by
    simp only [AV.ok, Bool.and_eq_true] at e ⊢
    exact ⟨okL_mono h fst e.1, okL_mono h cap e.2⟩
  | .ifc _ v, e => by
    simp only [AV.ok] at e ⊢
    exact AV.ok_mono h v e
  | .ag l, e => by
    simp only [AV.ok] at e ⊢
    exact okL_mono h l e
  | .tu l, e => by
    simp only [AV.ok] at e ⊢
    exact okL_mono h l e
  | .top, _ => by simp [AV.ok]
  | .b _, _ => by simp [AV.ok]
  | .i _ _, _ => by simp [AV.ok]
  | .s _, _ => by simp [AV.ok]
  | .np, _ => by simp [AV.ok]
  | .se, _ => by simp [AV.ok]
  | .ns, _ => by simp [AV.ok]
  | .nf, _ => by simp [AV.ok]
  | .ni, _ => by simp [AV.ok]
theorem okL_mono {q q' : Nat → Bool} (h : ∀ i, q i = true → q' i = true) : ∀ l : List AV, okL q l = true → okL q' l = true
  | [], _ => by simp [okL]
  | a :: l, e => by
    simp only [okL, Bool.and_eq_true] at e ⊢
    exact ⟨AV.ok_mono h a e.1, okL_mono h l e.2⟩
end
theorem AB.ok_mono {q q' : Nat → Bool} (h : ∀ i, q i = true → q' i = true) (B : AB) (e : B.ok q = true) : B.ok q' = true := by
  cases B with
  | dead => rfl
  | iter s p => rfl
  | lp _ _ fr _ _ _ => exact okL_mono h fr e
  | blk fl m xs =>
    cases fl with
    | true => rfl
    | false => exact okL_mono h xs e
/-- A value that stands for one names blocks of the map alone. -/
theorem VR.okLen {ρ : Mp} {a : AV} {v : Value} (h : VR ρ a v) : a.ok (fun i => decide (i < ρ.length)) = true := by
  induction h with
  | p id off b o n h =>
    have := (List.getElem?_eq_some_iff.1 h).1
    simp [AV.ok, this]
  | sl id off len cap k b o n cap' h =>
    have := (List.getElem?_eq_some_iff.1 h).1
    simp [AV.ok, this]
  | y id b o n h =>
    have := (List.getElem?_eq_some_iff.1 h).1
    simp [AV.ok, this]
  | f fn fst cap fst' cap' h0 h _ _ ih0 ih =>
    simp only [AV.ok, Bool.and_eq_true]
    refine ⟨okL_iff.2 fun j a hj => ih0 j a _ hj (Array.getElem?_eq_getElem ?_), okL_iff.2 fun j a hj => ih j a _ hj (Array.getElem?_eq_getElem ?_)⟩
    · rw [← h0]; exact (List.getElem?_eq_some_iff.1 hj).1
    · rw [← h]; exact (List.getElem?_eq_some_iff.1 hj).1
  | ifc t v v' _ ih => simpa only [AV.ok] using ih
  | ag l cs h _ ih =>
    simp only [AV.ok]
    exact okL_iff.2 fun j a hj => ih j a _ hj (Array.getElem?_eq_getElem (by rw [← h]; exact (List.getElem?_eq_some_iff.1 hj).1))
  | tu l cs h _ ih =>
    simp only [AV.ok]
    exact okL_iff.2 fun j a hj => ih j a _ hj (Array.getElem?_eq_getElem (by rw [← h]; exact (List.getElem?_eq_some_iff.1 hj).1))
  | _ => simp [AV.ok]
theorem VR.okLe {ρ : Mp} {a : AV} {v : Value} (h : VR ρ a v) {n : Nat} (hn : ρ.length ≤ n) : a.ok (fun i => decide (i < n)) = true :=
  AV.ok_mono (fun i hi => by simp at hi ⊢; omega) a h.okLen
theorem Rel.okLen {K : Code → CC → Prop} {ρ : Mp} {h : List AB} {w : World} (r : Rel K ρ h w) {i : Nat} {B : AB} (hi : h[i]? = some B) : B.ok (fun i => decide (i < ρ.length)) = true := by
  obtain ⟨b, o, n, h1, h2⟩ := r.at hi
  cases B with
  | dead => rfl
  | iter s p => rfl
  | lp st pd fr ps asg bd =>
    obtain ⟨r, _, _, _, h4, _⟩ := h2
    exact okL_iff.2 fun k a ha => (h4.2 k a _ ha (Array.getElem?_eq_getElem (by rw [← h4.1]; exact (List.getElem?_eq_some_iff.1 ha).1))).okLen
  | blk fl m xs =>
    cases fl with
    | true => rfl
    | false =>
      obtain ⟨cs, e, fz, _, _, h3, h4⟩ := h2
      exact okL_iff.2 fun k a ha => (h4 k a _ ha (Array.getElem?_eq_getElem (by have := (List.getElem?_eq_some_iff.1 ha).1; omega))).okLen

theorem fillV_congr {ev ev' : Opd → AV} : ∀ (ps : List (Nat × Nat × Opd)) (cells : List AV), (∀ x ∈ ps, ev x.2.2 = ev' x.2.2) → fillV ev cells ps = fillV ev' cells ps
  | [], _, _ => rfl
  | (off, sz, x) :: ps, cells, h => by
    simp only [fillV]
    rw [h _ (List.mem_cons_self ..)]
    split
    · exact fillV_congr ps _ fun y hy => h y (List.mem_cons_of_mem _ hy)
    · rfl
/-- What an operation does hangs only on the places that it looks at. -/
theorem run_congr {ev ev' : Opd → AV} (h : List AB) (c : CO) (hc : ∀ v, ev (.c v) = ev' (.c v)) (ht : ∀ t ∈ c.tmps, ev (.t t) = ev' (.t t)) : c.run ev h = c.run ev' h := by
  have o : ∀ x : Opd, (∀ t ∈ x.tmps, ev (.t t) = ev' (.t t)) → ev x = ev' x := fun x hx => by
    cases x with
    | t n => exact hx n (by simp [Opd.tmps])
    | c v => exact hc v
  have oo : ∀ x : Option Opd, (∀ t ∈ optT x, ev (.t t) = ev' (.t t)) → x.map ev = x.map ev' := fun x hx => by
    cases x with
    | none => rfl
    | some x => exact congrArg some (o x hx)
  have ol : ∀ l : List Opd, (∀ t ∈ l.flatMap Opd.tmps, ev (.t t) = ev' (.t t)) → l.map ev = l.map ev' := fun l hl =>
    List.map_congr_left fun x hx => o x fun t q => hl t (List.mem_flatMap.2 ⟨x, hx, q⟩)
  have of : ∀ ps : List (Nat × Nat × Opd), (∀ t ∈ ps.flatMap (fun x => x.2.2.tmps), ev (.t t) = ev' (.t t)) → ∀ cells, fillV ev cells ps = fillV ev' cells ps := fun ps hp cells =>
    fillV_congr ps cells fun x hx => o x.2.2 fun t q => hp t (List.mem_flatMap.2 ⟨x, hx, q⟩)
  cases c with
  | mv a0 =>
    have h0 := o a0 fun t q => ht t q
    simp only [CO.run, h0]
  | pick a0 a1 a2 =>
    have h0 := o a0 fun t q => ht t (List.mem_append_left _ (List.mem_append_left _ q))
    have h1 := o a1 fun t q => ht t (List.mem_append_left _ (List.mem_append_right _ q))
    have h2 := o a2 fun t q => ht t (List.mem_append_right _ q)
    simp only [CO.run, h0, h1, h2]
  | bin _x0 a1 a2 =>
    have h0 := o a1 fun t q => ht t (List.mem_append_left _ q)
    have h1 := o a2 fun t q => ht t (List.mem_append_right _ q)
    simp only [CO.run, h0, h1]
  | eqb _x0 a1 a2 =>
    have h0 := o a1 fun t q => ht t (List.mem_append_left _ q)
    have h1 := o a2 fun t q => ht t (List.mem_append_right _ q)
    simp only [CO.run, h0, h1]
  | eqc _x0 _x1 a2 a3 =>
    have h0 := o a2 fun t q => ht t (List.mem_append_left _ q)
    have h1 := o a3 fun t q => ht t (List.mem_append_right _ q)
    simp only [CO.run, h0, h1]
  | eqn _x0 a1 a2 =>
    have h0 := o a1 fun t q => ht t (List.mem_append_left _ q)
    have h1 := o a2 fun t q => ht t (List.mem_append_right _ q)
    simp only [CO.run, h0, h1]
  | un _x0 a1 =>
    have h0 := o a1 fun t q => ht t q
    simp only [CO.run, h0]
  | cvi _x0 a1 =>
    have h0 := o a1 fun t q => ht t q
    simp only [CO.run, h0]
  | cvs a0 =>
    have h0 := o a0 fun t q => ht t q
    simp only [CO.run, h0]
  | fad _x0 a1 =>
    have h0 := o a1 fun t q => ht t q
    simp only [CO.run, h0]
  | fld _x0 _x1 a2 =>
    have h0 := o a2 fun t q => ht t q
    simp only [CO.run, h0]
  | iad _x0 a1 a2 =>
    have h0 := o a1 fun t q => ht t (List.mem_append_left _ q)
    have h1 := o a2 fun t q => ht t (List.mem_append_right _ q)
    simp only [CO.run, h0, h1]
  | iaa _x0 _x1 a2 a3 =>
    have h0 := o a2 fun t q => ht t (List.mem_append_left _ q)
    have h1 := o a3 fun t q => ht t (List.mem_append_right _ q)
    simp only [CO.run, h0, h1]
  | ixs a0 a1 =>
    have h0 := o a0 fun t q => ht t (List.mem_append_left _ q)
    have h1 := o a1 fun t q => ht t (List.mem_append_right _ q)
    simp only [CO.run, h0, h1]
  | ixa _x0 _x1 _x2 a3 a4 =>
    have h0 := o a3 fun t q => ht t (List.mem_append_left _ q)
    have h1 := o a4 fun t q => ht t (List.mem_append_right _ q)
    simp only [CO.run, h0, h1]
  | sls a0 a1 a2 =>
    have h0 := o a0 fun t q => ht t (List.mem_append_left _ (List.mem_append_left _ q))
    have h1 := oo a1 fun t q => ht t (List.mem_append_left _ (List.mem_append_right _ q))
    have h2 := oo a2 fun t q => ht t (List.mem_append_right _ q)
    simp only [CO.run, h0, h1, h2]
  | sll _x0 a1 a2 a3 a4 =>
    have h0 := o a1 fun t q => ht t (List.mem_append_left _ (List.mem_append_left _ (List.mem_append_left _ q)))
    have h1 := oo a2 fun t q => ht t (List.mem_append_left _ (List.mem_append_left _ (List.mem_append_right _ q)))
    have h2 := oo a3 fun t q => ht t (List.mem_append_left _ (List.mem_append_right _ q))
    have h3 := oo a4 fun t q => ht t (List.mem_append_right _ q)
    simp only [CO.run, h0, h1, h2, h3]
  | sla _x0 _x1 a2 a3 a4 a5 =>
    have h0 := o a2 fun t q => ht t (List.mem_append_left _ (List.mem_append_left _ (List.mem_append_left _ q)))
    have h1 := oo a3 fun t q => ht t (List.mem_append_left _ (List.mem_append_left _ (List.mem_append_right _ q)))
    have h2 := oo a4 fun t q => ht t (List.mem_append_left _ (List.mem_append_right _ q))
    have h3 := oo a5 fun t q => ht t (List.mem_append_right _ q)
    simp only [CO.run, h0, h1, h2, h3]
  | ifc _x0 a1 =>
    have h0 := o a1 fun t q => ht t q
    simp only [CO.run, h0]
  | mkf _x0 a1 a2 =>
    have h0 := ol a1 fun t q => ht t (List.mem_append_left _ q)
    have h1 := ol a2 fun t q => ht t (List.mem_append_right _ q)
    simp only [CO.run, h0, h1]
  | ext a0 _x1 =>
    have h0 := o a0 fun t q => ht t q
    simp only [CO.run, h0]
  | len _x0 a1 =>
    have h0 := o a1 fun t q => ht t q
    simp only [CO.run, h0]
  | lnc _x0 =>
    rfl
  | mm _x0 a1 a2 =>
    have h0 := o a1 fun t q => ht t (List.mem_append_left _ q)
    have h1 := o a2 fun t q => ht t (List.mem_append_right _ q)
    simp only [CO.run, h0, h1]
  | nck a0 =>
    have h0 := o a0 fun t q => ht t q
    simp only [CO.run, h0]
  | tas a0 _x1 _x2 _x3 =>
    have h0 := o a0 fun t q => ht t q
    simp only [CO.run, h0]
  | ld _x0 a1 =>
    have h0 := o a1 fun t q => ht t q
    simp only [CO.run, h0]
  | st _x0 a1 a2 =>
    have h0 := o a1 fun t q => ht t (List.mem_append_left _ q)
    have h1 := o a2 fun t q => ht t (List.mem_append_right _ q)
    simp only [CO.run, h0, h1]
  | new _x0 _x1 =>
    rfl
  | box _x0 _x1 a2 =>
    have h0 := o a2 fun t q => ht t q
    simp only [CO.run, h0]
  | bld _x0 a1 =>
    have h0 := of a1 fun t q => ht t q
    simp only [CO.run, h0]
  | bls _x0 _x1 _x2 a3 =>
    have h0 := of a3 fun t q => ht t q
    simp only [CO.run, h0]
  | mks _x0 _x1 _x2 a3 a4 =>
    have h0 := o a3 fun t q => ht t (List.mem_append_left _ q)
    have h1 := o a4 fun t q => ht t (List.mem_append_right _ q)
    simp only [CO.run, h0, h1]
  | app _x0 _x1 _x2 _x3 a4 a5 =>
    have h0 := o a4 fun t q => ht t (List.mem_append_left _ q)
    have h1 := o a5 fun t q => ht t (List.mem_append_right _ q)
    simp only [CO.run, h0, h1]
  | cpy _x0 _x1 a2 a3 =>
    have h0 := o a2 fun t q => ht t (List.mem_append_left _ q)
    have h1 := o a3 fun t q => ht t (List.mem_append_right _ q)
    simp only [CO.run, h0, h1]
  | capo a0 =>
    have h0 := o a0 fun t q => ht t q
    simp only [CO.run, h0]
  | apz _x0 _x1 _x2 a3 a4 =>
    have h0 := o a3 fun t q => ht t (List.mem_append_left _ q)
    have h1 := o a4 fun t q => ht t (List.mem_append_right _ q)
    simp only [CO.run, h0, h1]
  | stop =>
    rfl
  | b2s a0 =>
    have h0 := o a0 fun t q => ht t q
    simp only [CO.run, h0]
  | clr _x0 a1 =>
    have h0 := o a1 fun t q => ht t q
    simp only [CO.run, h0]
  | bix a0 a1 =>
    have h0 := o a0 fun t q => ht t (List.mem_append_left _ q)
    have h1 := o a1 fun t q => ht t (List.mem_append_right _ q)
    simp only [CO.run, h0, h1]
  | bcmp a0 a1 =>
    have h0 := o a0 fun t q => ht t (List.mem_append_left _ q)
    have h1 := o a1 fun t q => ht t (List.mem_append_right _ q)
    simp only [CO.run, h0, h1]
  | s2b a0 =>
    have h0 := o a0 fun t q => ht t q
    simp only [CO.run, h0]
  | rng a0 =>
    have h0 := o a0 fun t q => ht t q
    simp only [CO.run, h0]
  | nxt a0 =>
    have h0 := o a0 fun t q => ht t q
    simp only [CO.run, h0]
  | s2s a0 =>
    have h0 := o a0 fun t q => ht t q
    simp only [CO.run, h0]
  | call _ _ =>
    rfl
theorem opF_congr (T : Nat → Option CF) (E : RunF) {fr fr' : List AV} (h : List AB) (c : CO) (ht : ∀ t ∈ c.tmps, nthA fr t = nthA fr' t) : opF T E (Opd.evF fr) h c = opF T E (Opd.evF fr') h c := by
  cases c with
  | call f args =>
    have o : ∀ x : Opd, (∀ t ∈ x.tmps, nthA fr t = nthA fr' t) → Opd.evF fr x = Opd.evF fr' x := fun x hx => by
      cases x with
      | t n => exact hx n (by simp [Opd.tmps])
      | c v => rfl
    simp only [opF]
    rw [o f (fun t q => ht t (by simp [CO.tmps, q])), List.map_congr_left fun x hx => o x fun t q => ht t (by simp only [CO.tmps, List.mem_append]; exact .inr (List.mem_flatMap.2 ⟨x, hx, q⟩))]
  | _ =>
    simp only [opF, runF_eq]
    exact run_congr h _ (fun v => rfl) ht

section
variable {P : Program}
def SoundT (P : Program) (T : Nat → Option CF) : Prop := ∀ g cf, T g = some cf → ∃ fn, P.funcs[g]? = some fn ∧ compF P fn = some cf
structure SoundE (P : Program) (E : RunF) : Prop where
  fn : ∀ (g : Nat) (fn : Func) (cf : CF) (fr : List AV) (h h' : List AB) (v : AV), P.funcs[g]? = some fn → compF P fn = some cf → E (.fn cf) fr h = some (v, h') → AM P h.length none g [.code cf.body] fr h (fun a h'' => a = v ∧ h'' = h')
  rd : ∀ (g id : Nat) (asg bd : CC) (fr : List AV) (h h' : List AB) (v : AV), E (.rd id asg bd) fr h = some (v, h') → AM P h.length (some id) g [.code asg, .br, .code bd] fr h (fun a h'' => a = v ∧ h'' = h')
theorem guardF_some {fr : List AV} {g : Option (Nat × Bool)} {b : Bool} (h : guardF fr g = some b) : gknown fr g = true ∧ wants fr g = b := by
  cases g with
  | none => cases h; exact ⟨rfl, rfl⟩
  | some p =>
    obtain ⟨t, w⟩ := p
    simp only [guardF, nthA_eq, List.getD_eq_getElem?_getD] at h
    simp only [gknown, wants]
    cases hf : fr[t]? with
    | none =>
      rw [hf] at h
      cases h
      exact ⟨rfl, rfl⟩
    | some a =>
      rw [hf] at h
      cases a <;> cases h <;> exact ⟨rfl, rfl⟩
theorem putF_eq (fr : List AV) (d : Option Nat) (v : AV) : putF fr d v = put fr d v := by
  cases d with
  | none => rfl
  | some d => exact setA_eq fr d v
theorem opF_ok {T : Nat → Option CF} {E : RunF} (hT : SoundT P T) (hE : SoundE P E) {ops : Array Oper} {i : Nat} {o : Oper} {c : COper} (ho : ops[i]? = some o) (hc : compO P ops o = some c) {fr : List AV} {h h' : List AB} {v : AV}
    (hg : guardF fr c.guard = some true) (e : opF T E (Opd.evF fr) h c.op = some (v, h')) : OpOk P ops i c.dst fr h v h' := by
  obtain ⟨hk, hw⟩ := guardF_some hg
  rw [evF_eq] at e
  have plain : c.op.run (Opd.ev fr) h = some (v, h') → OpOk P ops i c.dst fr h v h' := fun q => op_plain ho hc hk hw q
  cases hcop : c.op with
  | call f args =>
    rw [hcop] at e
    simp only [opF, callF] at e
    split at e
    · rename_i g fst cap hf
      split at e
      · rename_i cf hcf
        obtain ⟨fn, h1, h2⟩ := hT _ _ hcf
        exact op_call ho hc hk hw hcop hf h1 h2 (hE.fn _ _ _ _ _ _ _ h1 h2 e)
      · cases e
    · rename_i id hf
      split at e
      · rename_i st pd fr0 ps asg bd hlp
        rw [getB_eq] at hlp
        split at e
        · rename_i hps
          exact op_yield ho hc hk hw hcop hf hlp (by have := Nat.eq_of_beq_eq_true hps; simpa using this) (fun g => hE.rd g _ _ _ _ _ _ _ e)
        · cases e
      · cases e
    · cases e
  | _ =>
    rw [hcop] at e plain
    simp only [opF, runF_eq] at e
    exact plain e
theorem opF_skip {ops : Array Oper} {i : Nat} {o : Oper} {c : COper} (ho : ops[i]? = some o) (hc : compO P ops o = some c) {fr : List AV} (h : List AB) (hg : guardF fr c.guard = some false) : OpOk P ops i c.dst fr h (.tu []) h :=
  let ⟨hk, hw⟩ := guardF_some hg
  op_skip ho hc hk hw
theorem runReg_ok {T : Nat → Option CF} {E : RunF} (hT : SoundT P T) (hE : SoundE P E) {p : Nat} {rd : Option Nat} {fn : FuncId} {k : List CI} {R : AV → List AB → Prop} : ∀ (l : List COper) {fr fr' : List AV} {h h' : List AB}, runReg T E l fr h = some (fr', h') →
    AM P p rd fn k fr' h' R → AM P p rd fn (.ops l :: k) fr h R
  | [], fr, fr', h, h', e, g => by
    cases e
    exact AM.go rfl g
  | c :: l, fr, fr', h, h', e, g => by
    change regStep T E c (runReg T E l) fr h = some (fr', h') at e
    unfold regStep at e
    split at e
    · cases e
    · rename_i b hb
      cases b with
      | true =>
        simp only [regRun] at e
        split at e
        · cases e
        · rename_i v h1 h2
          rw [putF_eq] at e
          exact AM.op (fun ops i o ho hc => opF_ok hT hE ho hc hb h2) (runReg_ok hT hE l e g)
      | false =>
        simp only [putF_eq] at e
        exact AM.op (fun ops i o ho hc => opF_skip ho hc h hb) (runReg_ok hT hE l e g)
end
end Go.Proofs.Ytbcpcjofkfgjoaa
