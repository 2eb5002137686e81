/- Structs and slices built, make, copy. -/
import Derived.Test.YtbcpcjofkfgjoaaEvH
namespace Go.Proofs.Ytbcpcjofkfgjoaa
open Go.RowKit

section
variable {P : Program} {K : Code → CC → Prop}
theorem VR.cellsVL {ρ : Mp} {a : AV} {v : Value} (h : VR ρ a v) (hk : a.known = true) : VL ρ a.cells v.cells := by
  cases h with
  | ag l cs hl hv => exact ⟨hl, hv⟩
  | top v => cases hk
  | b x => exact VL.one (.b x)
  | i k n => exact VL.one (.i k n)
  | s l bs h => exact VL.one (.s l bs h)
  | p id off b o n h => exact VL.one (.p id off b o n h)
  | np => exact VL.one .np
  | sl id off len cap k b o n cap' h h1 h2 h3 h4 h5 => exact VL.one (.sl id off len cap k b o n cap' h h1 h2 h3 h4 h5)
  | sz id off a c h hn => exact VL.one (.sz id off a c h hn)
  | se a c h => exact VL.one (.se a c h)
  | ns => exact VL.one .ns
  | f fn fst cap fst' cap' h0 h hv0 hv => exact VL.one (.f fn fst cap fst' cap' h0 h hv0 hv)
  | nf => exact VL.one .nf
  | ifc t v v' h => exact VL.one (.ifc t v v' h)
  | ni => exact VL.one .ni
  | tu l cs h hv => exact VL.one (.tu l cs h hv)
  | y id b o n h => exact VL.one (.y id b o n h)
theorem foldl_over (off : Nat) : ∀ (vs : List Value) (k : Nat) (C : Array Value), off + k + vs.length ≤ C.size →
    ((vs.zipIdx k).foldl (fun (cs : Array Value) x => cs.setIfInBounds (off + x.2) x.1) C).size = C.size ∧
    ∀ q, ((vs.zipIdx k).foldl (fun (cs : Array Value) x => cs.setIfInBounds (off + x.2) x.1) C)[q]? = if q < off + k then C[q]? else if q < off + k + vs.length then vs[q - (off + k)]? else C[q]?
  | [], k, C, _ => ⟨rfl, fun q => by
      simp only [List.zipIdx_nil, List.foldl_nil, List.length_nil, Nat.add_zero, List.getElem?_nil]
      by_cases h : q < off + k <;> simp [h]⟩
  | v :: vs, k, C, h => by
    rw [List.zipIdx_cons, List.foldl_cons]
    have ih := foldl_over off vs (k + 1) (C.setIfInBounds (off + k) v) (by simp at h ⊢; omega)
    refine ⟨by rw [ih.1]; simp, fun q => ?_⟩
    rw [ih.2 q]
    have hk : off + k < C.size := by simp at h; omega
    rw [Array.getElem?_setIfInBounds]
    by_cases h1 : q < off + k
    · rw [if_pos (by omega), if_neg (by omega), if_pos h1]
    · rw [if_neg h1]
      by_cases h2 : q = off + k
      · subst h2
        rw [if_pos (by omega), if_pos rfl, if_pos hk, if_pos (by simp), Nat.sub_self]
        rfl
      · have e1 : ¬ q < off + (k + 1) := by omega
        rw [if_neg e1]
        by_cases h3 : q < off + (k + 1) + vs.length
        · have h4 : q < off + k + (v :: vs).length := by simp; omega
          rw [if_pos h3, if_pos h4]
          have : q - (off + k) = (q - (off + (k + 1))) + 1 := by omega
          rw [this, List.getElem?_cons_succ]
        · have h4 : ¬ q < off + k + (v :: vs).length := by simp; omega
          have h5 : ¬ off + k = q := fun e => h2 e.symm
          rw [if_neg h3, if_neg h4, if_neg h5]
/-- The parts of a struct, an array or a slice that is built. -/
def PartsOk (ρ : Mp) (place : Nat → Option (Nat × Nat)) (ev : Opd → AV) : List (Nat × Nat × Opd) → List (Nat × Value) → Prop
  | [], [] => True
  | (off, sz, x) :: ps, (i, v) :: vs => place i = some (off, sz) ∧ VR ρ (ev x) v ∧ PartsOk ρ place ev ps vs
  | _, _ => False
theorem fill_ok {ρ : Mp} {place : Nat → Option (Nat × Nat)} {ev : Opd → AV} : ∀ (ps : List (Nat × Nat × Opd)) (vs : List (Nat × Value)) (X : List AV) (C : Array Value) (Y : List AV), PartsOk ρ place ev ps vs → VL ρ X C → fillV ev X ps = some Y → ∃ D, Instr.fill place C vs = some D ∧ VL ρ Y D
  | [], [], X, C, Y, _, hv, e => by
    cases e
    exact ⟨C, rfl, hv⟩
  | [], _ :: _, X, C, Y, h, _, _ => h.elim
  | (off, sz, x) :: ps, [], X, C, Y, h, _, _ => h.elim
  | (off, sz, x) :: ps, (i, v) :: vs, X, C, Y, h, hv, e => by
    obtain ⟨hp, hx, hrest⟩ := h
    simp only [fillV] at e
    split at e
    · rename_i hc
      obtain ⟨h1, h2, h3⟩ := hc
      have hcv := hx.cellsVL h3
      have hsz : v.cells.size = sz := by rw [← hcv.1]; exact h1
      have hC : C.size = X.length := hv.1.symm
      have hf := foldl_over off v.cells.toList 0 C (by simp; omega)
      have hz : v.cells.zipIdx.foldl (fun (cs : Array Value) (x : Value × Nat) => cs.setIfInBounds (off + x.2) x.1) C = (v.cells.toList.zipIdx 0).foldl (fun (cs : Array Value) x => cs.setIfInBounds (off + x.2) x.1) C := by
        rw [← Array.foldl_toList, Array.toList_zipIdx]
      have hvl : VL ρ (over X off (ev x).cells) ((v.cells.toList.zipIdx 0).foldl (fun (cs : Array Value) x => cs.setIfInBounds (off + x.2) x.1) C) := by
        refine ⟨by rw [over_len _ _ _ (by omega), hf.1]; exact hv.1, fun q a c ha hc => ?_⟩
        rw [over_get _ _ _ (by omega)] at ha
        rw [hf.2 q] at hc
        simp only [Nat.add_zero, Array.length_toList, Array.getElem?_toList] at hc
        have hl : (ev x).cells.length = v.cells.size := hcv.1
        by_cases q1 : q < off
        · rw [if_pos q1] at ha hc
          exact hv.2 q a c ha hc
        · rw [if_neg q1] at ha hc
          by_cases q2 : q < off + (ev x).cells.length
          · rw [if_pos q2] at ha
            rw [if_pos (by omega)] at hc
            exact hcv.2 _ a c ha hc
          · rw [if_neg q2] at ha
            rw [if_neg (by omega)] at hc
            exact hv.2 q a c ha hc
      obtain ⟨D, hD, hY⟩ := fill_ok ps vs _ _ Y hrest hvl e
      refine ⟨D, ?_, hY⟩
      have hno : (decide (v.cells.size ≠ sz) || decide (off + v.cells.size > C.size)) = false := by
        simp
        omega
      simp only [Instr.fill, hp]
      rw [← hD, ← hz]
      split
      · rename_i hq
        rw [hno] at hq
        cases hq
      · rfl
    · cases e
theorem ans_bldS {ρ : Mp} (t : TypeId) {fs : Array Field} {i : TypeInfo} {z : Value} (ht : P.underlying t = some (.struct fs)) (hi : P.info? t = some i) (hz : i.zero = some z) {places : Array (Nat × Nat)} (hpl : ∀ w, (fs.mapM fun f => do pure (f.offset, ← sizeOf f.type) : Sem (Array (Nat × Nat))).run P w = .ok places w)
    {ev : Opd → AV} {ps : List (Nat × Nat × Opd)} {parts : Array (Nat × Value)} (hp : PartsOk ρ (places[·]?) ev ps parts.toList) {X Y : List AV} (hX : VL ρ X z.cells) (e : fillV ev X ps = some Y) : Ans P ρ (Instr.build t parts) (.ag Y) := by
  obtain ⟨D, hD, hY⟩ := fill_ok ps parts.toList X z.cells Y hp hX e
  refine Ans.mk (v := .agg D) (fun w => ?_) (vl_agg hY)
  have hpl' := hpl w
  simp only [bind_pure_comp] at hpl'
  simp [Instr.build, zeroValue, typeInfo, hi, hz, run_underlying ht, hpl', hD]
theorem ans_bldA {ρ : Mp} (t e : TypeId) {n : Nat} {i ie : TypeInfo} {z : Value} (ht : P.underlying t = some (.array n e)) (hi : P.info? t = some i) (hz : i.zero = some z) (hie : P.info? e = some ie)
    {ev : Opd → AV} {ps : List (Nat × Nat × Opd)} {parts : Array (Nat × Value)} (hp : PartsOk ρ (fun k => some (k * ie.size, ie.size)) ev ps parts.toList) {X Y : List AV} (hX : VL ρ X z.cells) (er : fillV ev X ps = some Y) : Ans P ρ (Instr.build t parts) (.ag Y) := by
  obtain ⟨D, hD, hY⟩ := fill_ok ps parts.toList X z.cells Y hp hX er
  exact Ans.mk (v := .agg D) (fun w => by simp [Instr.build, zeroValue, typeInfo, hi, hz, run_underlying ht, sizeOf, hie, hD]) (vl_agg hY)
theorem good_bls {ρ : Mp} {h : List AB} {w : World} (hr : Rel K ρ h w) (t e : TypeId) {ie : TypeInfo} {z : Value} (ht : P.underlying t = some (.slice e)) (hie : P.info? e = some ie) (hz : ie.zero = some z) (len : Nat) (hb : len * ie.size ≤ 2 ^ 24) (fl : Bool)
    {ev : Opd → AV} {ps : List (Nat × Nat × Opd)} {parts : Array (Nat × Value)} (hp : PartsOk ρ (fun k => some (k * ie.size, ie.size)) ev ps parts.toList) {X Y : List AV} (hX : VL ρ X ((Array.range (len * ie.size)).map (z.cells[· % z.cells.size]!))) (er : fillV ev X ps = some Y) (hm : len ≤ maxLen) {r : AV × List AB} (en : newB h fl Y (fun n => .sl n 0 len len none) = some r) :
    Good K P ρ h w (Instr.buildSlice t len parts) r := by
  obtain ⟨D, hD, hY⟩ := fill_ok ps parts.toList X _ Y hp hX er
  obtain ⟨v', w', ρ', h1, h2⟩ := good_newRow (P := P) hr e fl hY len len (Nat.le_refl _) hm en
  refine ⟨v', w', ρ', ?_, h2⟩
  rw [← h1]
  have hb' : ¬ (len * ie.size > 2 ^ 24) := by omega
  by_cases h0 : len * ie.size = 0
  · have e0 : ∀ f : Nat → Value, (Array.range (len * ie.size)).map f = #[] := fun f => by rw [h0]; simp
    rw [e0] at hD
    simp only [Instr.buildSlice, Sem.run_bind, run_underlying ht, Result.andThen_ok, sizeOf, typeInfo, run_program, hie, Sem.run_pure, hb', if_false, e0]
    simp [h0, hD]
  · simp only [Instr.buildSlice, Sem.run_bind, run_underlying ht, Result.andThen_ok, sizeOf, typeInfo, run_program, hie, Sem.run_pure, hb', if_false, h0, zeroValue, hz]
    simp [hD]
theorem flat_get (z : List AV) (hz : z ≠ []) : ∀ (c q : Nat), ((List.replicate c z).flatten)[q]? = if q < c * z.length then z[q % z.length]? else none
  | 0, q => by simp
  | c + 1, q => by
    have hp : 0 < z.length := List.length_pos_iff.2 hz
    rw [List.replicate_succ, List.flatten_cons]
    by_cases h : q < z.length
    · rw [List.getElem?_append_left h, if_pos (by rw [Nat.add_mul]; omega), Nat.mod_eq_of_lt h]
    · rw [List.getElem?_append_right (by omega), flat_get z hz c]
      have hm : (q - z.length) % z.length = q % z.length := by
        rw [Nat.mod_eq_sub_mod (by omega : q ≥ z.length)]
      rw [hm, Nat.add_mul, Nat.one_mul]
      by_cases h2 : q - z.length < c * z.length
      · rw [if_pos h2, if_pos (by omega)]
      · rw [if_neg h2, if_neg (by omega)]
theorem zeros_vl {ρ : Mp} {ie : TypeInfo} {z : Value} (hzs : z.cells.size = ie.size) (hs0 : ie.size ≠ 0) {zl : List AV} (hzl : VL ρ zl z.cells) (c : Nat) : VL ρ ((List.replicate c zl).flatten) ((Array.range (c * ie.size)).map (z.cells[· % z.cells.size]!)) := by
  have hne : zl ≠ [] := fun e => by
    subst e
    have := hzl.1
    simp at this
    omega
  have hl : zl.length = ie.size := by rw [hzl.1, hzs]
  refine ⟨by simp [hl], fun q a b ha hb => ?_⟩
  rw [flat_get zl hne] at ha
  split at ha
  · rename_i hq
    rw [hl] at hq ha
    simp only [Array.getElem?_map] at hb
    obtain ⟨q', hq', rfl⟩ := Option.map_eq_some_iff.1 hb
    have : q' = q := by
      obtain ⟨hlt, he⟩ := Array.getElem?_eq_some_iff.1 hq'
      rw [← he]
      simp
    subst this
    have hlt : q' % ie.size < z.cells.size := by rw [hzs]; exact Nat.mod_lt _ (by omega)
    rw [hzs, getElem!_pos z.cells _ hlt]
    exact hzl.2 _ a _ ha (Array.getElem?_eq_getElem hlt)
  · cases ha
theorem good_mks {ρ : Mp} {h : List AB} {w : World} (hr : Rel K ρ h w) (t e : TypeId) {ie : TypeInfo} {z : Value} (ht : P.underlying t = some (.slice e)) (hie : P.info? e = some ie) (hz : ie.zero = some z) (hzs : z.cells.size = ie.size) (hs0 : ie.size ≠ 0) (fl : Bool) {zl : List AV} (hzl : VL ρ zl z.cells)
    {k k' : IntKind} {l c : Int} (h0 : 0 ≤ l) (h1 : l ≤ c) (h2 : (ie.bytes : Int) * c ≤ 2 ^ 47) (h3 : c ≤ maxLen) {r : AV × List AB} (en : newB h fl ((List.replicate c.toNat zl).flatten) (fun n => .sl n 0 l.toNat c.toNat none) = some r) :
    Good K P ρ h w (Instr.makeSlice t (.int k l) (.int k' c)) r := by
  have hY := zeros_vl (ρ := ρ) hzs hs0 hzl c.toNat
  have hcm : c.toNat ≤ maxLen := by omega
  obtain ⟨v', w', ρ', g1, g2⟩ := good_newRow (P := P) hr e fl hY l.toNat c.toNat (by omega) hcm en
  refine ⟨v', w', ρ', ?_, g2⟩
  rw [← g1]
  have wl : IntKind.i64.wrap l = l := IntWalk.i64_in _ (by unfold maxLen at h3; omega)
  have wc : IntKind.i64.wrap c = c := IntWalk.i64_in _ (by unfold maxLen at h3; omega)
  have t1 : ¬ (c < 0) := by omega
  have t2 : ¬ ((ie.bytes : Int) * c > 2 ^ 48) := by omega
  have t3 : ¬ (l < 0) := by omega
  have t4 : ¬ (l > c) := by omega
  have t5 : (281474976710656 < (ie.bytes : Int) * c) = False := by simp; omega
  by_cases hn : c.toNat * ie.size = 0
  · have hc0 : c.toNat = 0 := by
      rcases Nat.mul_eq_zero.1 hn with q | q
      · exact q
      · exact absurd q hs0
    have hz0 : c = 0 := by omega
    subst hz0
    have hl0 : l = 0 := by omega
    subst hl0
    have er0 : Array.range 0 = #[] := rfl
    simp [Instr.makeSlice, run_underlying ht, asInt, asIntOf, typeInfo, hie, sizeOf, wl, er0]
  · have hz1 : z.cells.size = ie.size := hzs
    have hne : ¬ (c.toNat = 0 ∨ ie.size = 0) := fun q => hn (by rcases q with q | q <;> simp [q])
    have ht3 : decide (l < 0) = false := by simpa using h0
    have ht4 : decide (c < l) = false := by simpa using h1
    simp [Instr.makeSlice, run_underlying ht, asInt, asIntOf, typeInfo, hie, sizeOf, wl, wc, zeroValue, hz, t5, t1]
    rw [if_neg (by omega)]
    first | done | (intro hq; exact absurd hq hn) | (rw [if_neg hn])
end
end Go.Proofs.Ytbcpcjofkfgjoaa
