/- What the abstract machine does at an operation, the model does. -/
import Derived.Test.YtbcpcjofkfgjoaaEvJ
namespace Go.Proofs.Ytbcpcjofkfgjoaa
open Go.RowKit

section
variable {P : Program} {K : Code → CC → Prop}
/-- An operation of the model ends with a value, or with none. -/
def GoodN (K : Code → CC → Prop) (P : Program) (ρ : Mp) (h : List AB) (w : World) (s : Sem Next) (r : AV × List AB) : Prop :=
  ∃ v' w' ρ', (s.run P w = .ok (.value v') w' ∨ s.run P w = .ok .skip w' ∧ v' = undef) ∧ Ext ρ ρ' ∧ Rel K ρ' r.2 w' ∧ VR ρ' r.1 v' ∧ Eff ρ h w ρ' r.2 w'
theorem Good.next {ρ : Mp} {h : List AB} {w : World} {s : Sem Value} {r : AV × List AB} (g : Good K P ρ h w s r) : GoodN K P ρ h w (do let v ← s; pure (.value v)) r :=
  let ⟨v, w', ρ', e, rest⟩ := g
  ⟨v, w', ρ', .inl (by simp [e]), rest⟩
theorem Ans.next {ρ : Mp} {h : List AB} {w : World} {s : Sem Value} {a : AV} (ha : Ans P ρ s a) (hr : Rel K ρ h w) : GoodN K P ρ h w (do let v ← s; pure (.value v)) (a, h) := (ha.good hr).next

/-- The operands, here and there. -/
def EV (ρ : Mp) (f : Operand → Value) (ev : Opd → AV) : Prop := ∀ x y, cOpd x = some y → VR ρ (ev y) (f x)
theorem EV.of {ρ : Mp} {fr : List AV} {a : Act} (h : VL ρ fr a.tmps) : EV ρ a.eval (Opd.ev fr) := fun x y e => by
  cases x with
  | tmp t =>
    cases e
    by_cases ht : t < fr.length
    · have h1 : fr[t]? = some fr[t] := List.getElem?_eq_getElem ht
      obtain ⟨c, hc, hv⟩ := h.get h1
      simpa [Opd.ev, Act.eval, h1, List.getD, Array.getD_eq_getD_getElem?, hc] using hv
    · have h1 : fr[t]? = none := List.getElem?_eq_none (Nat.le_of_not_lt ht)
      have h2 : a.tmps[t]? = none := Array.getElem?_eq_none (by rw [← h.1]; exact Nat.le_of_not_lt ht)
      simpa [Opd.ev, Act.eval, h1, List.getD, Array.getD_eq_getD_getElem?, h2, undef] using VR.tu (ρ := ρ) [] #[] rfl (fun j a c h => by simp at h)
  | const v =>
    obtain ⟨av, h1, rfl⟩ := Option.map_eq_some_iff.1 e
    exact absV_ok ρ h1
  | func f =>
    cases e
    exact .f _ [] [] #[] #[] rfl rfl (fun j a c h => by simp at h) (fun j a c h => by simp at h)
  | global g => cases e
theorem EV.vo {ρ : Mp} {f : Operand → Value} {ev : Opd → AV} (h : EV ρ f ev) {x : Option Operand} {y : Option Opd} (e : cOpdO x = some y) : VO ρ (y.map ev) (x.map f) := by
  cases x with
  | none => cases e; trivial
  | some x =>
    obtain ⟨z, hz, rfl⟩ := Option.map_eq_some_iff.1 e
    exact h x z hz
theorem EV.vl {ρ : Mp} {f : Operand → Value} {ev : Opd → AV} (h : EV ρ f ev) : ∀ {xs : List Operand} {ys : List Opd}, cOpds xs = some ys → VL ρ (ys.map ev) (xs.map f).toArray
  | [], ys, e => by cases e; exact VL.nil ρ
  | x :: xs, ys, e => by
    simp only [cOpds] at e
    obtain ⟨y, hy, e⟩ := Option.bind_eq_some_iff.1 e
    obtain ⟨zs, hz, rfl⟩ := Option.map_eq_some_iff.1 e
    exact VL.cons (h x y hy) (h.vl hz)
theorem EV.parts {ρ : Mp} {f : Operand → Value} {ev : Opd → AV} (h : EV ρ f ev) {place : Nat → Option (Nat × Nat)} : ∀ {ps : List (Nat × Operand)} {q : List (Nat × Nat × Opd)}, cParts place ps = some q → PartsOk ρ place ev q (ps.map fun x => (x.1, f x.2))
  | [], q, e => by cases e; trivial
  | (i, x) :: ps, q, e => by
    simp only [cParts] at e
    obtain ⟨pl, hp, e⟩ := Option.bind_eq_some_iff.1 e
    obtain ⟨a, ha, e⟩ := Option.bind_eq_some_iff.1 e
    obtain ⟨rest, hr, rfl⟩ := Option.map_eq_some_iff.1 e
    exact ⟨hp, h x a ha, h.parts hr⟩
theorem szOf_some {t : TypeId} {n : Nat} (h : szOf P t = some n) : ∃ i, P.info? t = some i ∧ i.size = n := Option.map_eq_some_iff.1 h
theorem agN_some {t : TypeId} {n : Option Nat} (h : agN P t = some n) : ∃ d i, P.underlying t = some d ∧ P.info? t = some i ∧ n = (if isAg d then some i.size else none) := by
  obtain ⟨d, hd, h⟩ := Option.bind_eq_some_iff.1 h
  obtain ⟨i, hi, h⟩ := Option.map_eq_some_iff.1 h
  exact ⟨d, i, hd, hi, h.symm⟩
theorem zcells_some {t : TypeId} {zs : List AV} (h : zcells P t = some zs) : ∃ i z, P.info? t = some i ∧ i.zero = some z ∧ absL z.cells.toList = some zs := by
  obtain ⟨i, hi, h⟩ := Option.bind_eq_some_iff.1 h
  obtain ⟨z, hz, h⟩ := Option.bind_eq_some_iff.1 h
  exact ⟨i, z, hi, hz, h⟩
theorem partsS_ok : ∀ (fs : List Field) (pl : List (Nat × Nat)), partsS P fs = some pl → ∀ w, (fs.mapM fun f => do pure (f.offset, ← sizeOf f.type) : Sem (List (Nat × Nat))).run P w = .ok pl w
  | [], pl, h, w => by
    cases h
    rfl
  | f :: fs, pl, h, w => by
    simp only [partsS] at h
    obtain ⟨n, hn, h⟩ := Option.bind_eq_some_iff.1 h
    obtain ⟨rest, hr, rfl⟩ := Option.map_eq_some_iff.1 h
    obtain ⟨i, hi, rfl⟩ := szOf_some hn
    have ih := partsS_ok fs rest hr w
    simp only [List.mapM_cons, Sem.run_bind, sizeOf, typeInfo, run_program, Result.andThen_ok, hi, Sem.run_pure]
    simp only [sizeOf, typeInfo, bind_pure_comp] at ih
    simp only [bind_pure_comp, ih, Result.andThen_ok]
theorem arr_mapM (fs : Array Field) (g : Field → Sem (Nat × Nat)) (l : List (Nat × Nat)) (w : World) (h : (fs.toList.mapM g).run P w = .ok l w) : (fs.mapM g).run P w = .ok l.toArray w := by
  rw [Array.mapM_eq_mapM_toList]
  simp [h]
theorem bin_ok {ρ : Mp} {h : List AB} {w : World} (hr : Rel K ρ h w) {f : Operand → Value} {fr : List AV} (hev : EV ρ f (Opd.ev fr)) {op : BinOp} {t : TypeId} {x y : Operand} {co : CO} (hc : cBin P op t x y = some co) {r : AV × List AB} (er : co.run (Opd.ev fr) h = some r) :
    GoodN K P ρ h w (do let v ← (do eqGuard op t x y (f x) (f y); binOp op t (f x) (f y)); pure (.value v)) r := by
  unfold cBin at hc
  obtain ⟨a, ha, hc⟩ := Option.bind_eq_some_iff.1 hc
  obtain ⟨b, hb, hc⟩ := Option.bind_eq_some_iff.1 hc
  have va := hev x a ha
  have vb := hev y b hb
  generalize f x = vx at va ⊢
  generalize f y = vy at vb ⊢
  have plain : (.bin op a b : CO).run (Opd.ev fr) h = some r → GoodN K P ρ h w (do let v ← (do eqGuard op t x y vx vy; binOp op t vx vy); pure (.value v)) r := fun er => by
    obtain ⟨v, hv, rfl⟩ := Option.map_eq_some_iff.1 er
    exact (ans_bin op t x y va vb hv).next hr
  split at hc
  · rename_i hop
    have hopn : op = (if (op == .neq) then .neq else .eql) := by rcases hop with rfl | rfl <;> rfl
    split at hc
    · cases hc; exact plain er
    · cases hc; exact plain er
    · rename_i hu
      cases hc
      simp only [CO.run] at er
      split at er
      · rename_i p q hp hq
        cases er
        rw [hp] at va
        rw [hq] at vb
        cases va
        cases vb
        have := (ans_eqb (P := P) (ρ := ρ) (op == .neq) t hu x y p q).next hr
        rcases hop with rfl | rfl <;> exact this
      · cases er
    · rename_i fs hu
      split at hc
      · rename_i hg
        obtain ⟨ks, hk, rfl⟩ := Option.map_eq_some_iff.1 hc
        simp only [CO.run] at er
        split at er
        · rename_i l l' hl hl'
          obtain ⟨q, hq, rfl⟩ := Option.map_eq_some_iff.1 er
          rw [hl] at va
          rw [hl'] at vb
          have := (ans_eqc (P := P) (op == .neq) 20 t hk (by omega) (by rw [hu]; rfl) hg x y va vb hq).next hr
          rcases hop with rfl | rfl <;> exact this
        · cases er
      · cases hc
    · rename_i n e hu
      split at hc
      · rename_i hg
        obtain ⟨ks, hk, rfl⟩ := Option.map_eq_some_iff.1 hc
        simp only [CO.run] at er
        split at er
        · rename_i l l' hl hl'
          obtain ⟨q, hq, rfl⟩ := Option.map_eq_some_iff.1 er
          rw [hl] at va
          rw [hl'] at vb
          have := (ans_eqc (P := P) (op == .neq) 20 t hk (by omega) (by rw [hu]; rfl) hg x y va vb hq).next hr
          rcases hop with rfl | rfl <;> exact this
        · cases er
      · cases hc
    · split at hc
      · rename_i hn
        cases hc
        simp only [CO.run] at er
        obtain ⟨q, hq, rfl⟩ := Option.map_eq_some_iff.1 er
        cases hu : P.underlying t with
        | none =>
          rw [hu] at hn
          cases x <;> cases y <;> simp [isNilO] at hn
        | some d =>
          rw [hu] at hn
          have side : ∀ {X : Operand} {A : Opd}, cOpd X = some A → isNilO X (some d) = true → (∃ v, X = .const v) ∧ nilSide d (Opd.ev fr A) := by
            intro X A hX hN
            unfold isNilO at hN
            split at hN <;> first
              | (rename_i he; cases he; simp [cOpd, absV, absS] at hX; subst hX; exact ⟨⟨_, rfl⟩, rfl⟩)
              | cases hN
          have hcon : (∃ v, x = .const v) ∨ ∃ v, y = .const v := by
            rcases Bool.or_eq_true_iff.1 hn with q | q
            · exact .inl (side ha q).1
            · exact .inr (side hb q).1
          have hside : nilSide d (Opd.ev fr a) ∨ nilSide d (Opd.ev fr b) := by
            rcases Bool.or_eq_true_iff.1 hn with q | q
            · exact .inl (side ha q).2
            · exact .inr (side hb q).2
          have := (ans_eqn (P := P) (op == .neq) t hu x y hcon va vb hq hside).next hr
          rcases hop with rfl | rfl <;> exact this
      · cases hc
  · cases hc; exact plain er
end
end Go.Proofs.Ytbcpcjofkfgjoaa
