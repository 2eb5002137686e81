/- The operations that touch memory: loads, stores, new blocks, append, copy. -/
import Derived.Test.YtbcpcjofkfgjoaaEvF
namespace Go.Proofs.Ytbcpcjofkfgjoaa
open Go.RowKit

section
variable {P : Program} {K : Code → CC → Prop}

/-- What the model's operation does is what the abstract machine says. -/
def Good (K : Code → CC → Prop) (P : Program) (ρ : Mp) (h : List AB) (w : World) (s : Sem Value) (r : AV × List AB) : Prop :=
  ∃ v' w' ρ', s.run P w = .ok v' w' ∧ Ext ρ ρ' ∧ Rel K ρ' r.2 w' ∧ VR ρ' r.1 v' ∧ Eff ρ h w ρ' r.2 w'
theorem Ans.good {ρ : Mp} {h : List AB} {w : World} {s : Sem Value} {a : AV} (ha : Ans P ρ s a) (hr : Rel K ρ h w) : Good K P ρ h w s (a, h) :=
  let ⟨v, e, hv⟩ := ha w
  ⟨v, w, ρ, e, Ext.refl _, hr, hv, Eff.refl _ _ _⟩

theorem rdBlk_some {h : List AB} {id : Nat} {xs : List AV} (e : rdBlk h id = some xs) : ∃ fl m, h[id]? = some (.blk fl m xs) := by
  unfold rdBlk at e
  split at e
  · rename_i fl m ys hq
    cases e
    exact ⟨fl, m, hq⟩
  · cases e
/-- A block that is read: its cells in the world. -/
theorem Rel.row {ρ : Mp} {h : List AB} {w : World} (r : Rel K ρ h w) {id : Nat} {xs : List AV} (e : rdBlk h id = some xs) {b o n : Nat} (hρ : ρ[id]? = some (b, o, n)) :
    ∃ cs ty fz, w.heap[b]? = some (.cells cs ty fz) ∧ o + xs.length ≤ cs.size ∧ ∀ (k : Nat) a, xs[k]? = some a → ∃ c, cs[o + k]? = some c ∧ VR ρ a c := by
  obtain ⟨fl, m, hb⟩ := rdBlk_some e
  obtain ⟨cs, ty, fz, h1, _, h3, h4⟩ := r.blk id _ b o n hb hρ
  refine ⟨cs, ty, fz, h1, h3, fun k a ha => ?_⟩
  have hk : o + k < cs.size := by have := (List.getElem?_eq_some_iff.1 ha).1; omega
  exact ⟨cs[o + k], Array.getElem?_eq_getElem hk, (h4 k a _ ha (Array.getElem?_eq_getElem hk)).ext (flm_sub fl ρ)⟩
/-- The cells of a window of a block, in the world. -/
theorem Rel.winF {ρ : Mp} {h : List AB} {w : World} (r : Rel K ρ h w) {id : Nat} {fl mu : Bool} {xs : List AV} (hb : h[id]? = some (.blk fl mu xs)) {b o n : Nat} (hρ : ρ[id]? = some (b, o, n)) (off m : Nat) (hm : off + m ≤ xs.length) :
    ∃ vs : List Value, vs.length = m ∧ (∀ (j : Nat) u, vs[j]? = some u → w.cell? ((⟨b, o + off, none⟩ : Addr).add j) = some u) ∧ VL (flm fl ρ) ((xs.drop off).take m) vs.toArray := by
  obtain ⟨cs, ty, fz, h1, _, h3, h4⟩ := r.blk id _ b o n hb hρ
  refine ⟨(cs.extract (o + off) (o + off + m)).toList, by simp; omega, fun j u hu => ?_, ⟨by simp; omega, fun j a c ha hc => ?_⟩⟩
  · have hj : (⟨b, o + off, none⟩ : Addr).add j = ⟨b, o + off + j, none⟩ := by unfold Addr.add; split <;> simp_all
    rw [hj]
    simp only [Array.getElem?_toList, Array.getElem?_extract] at hu
    split at hu
    · simp [World.cell?, h1, hu]
    · cases hu
  · rw [List.getElem?_take] at ha
    split at ha
    · rw [List.getElem?_drop] at ha
      simp only [Array.toArray_toList, Array.getElem?_extract] at hc
      split at hc
      · rw [Nat.add_assoc] at hc
        exact h4 _ a c ha hc
      · cases hc
    · cases ha
theorem Rel.win {ρ : Mp} {h : List AB} {w : World} (r : Rel K ρ h w) {id : Nat} {xs : List AV} (e : rdBlk h id = some xs) {b o n : Nat} (hρ : ρ[id]? = some (b, o, n)) (off m : Nat) (hm : off + m ≤ xs.length) :
    ∃ vs : List Value, vs.length = m ∧ (∀ (j : Nat) u, vs[j]? = some u → w.cell? ((⟨b, o + off, none⟩ : Addr).add j) = some u) ∧ VL ρ ((xs.drop off).take m) vs.toArray := by
  obtain ⟨fl, mu, hb⟩ := rdBlk_some e
  obtain ⟨vs, h1, h2, h3⟩ := r.winF hb hρ off m hm
  exact ⟨vs, h1, h2, h3.ext (flm_sub fl ρ)⟩
theorem good_ld {ρ : Mp} {h : List AB} {w : World} (hr : Rel K ρ h w) (t : TypeId) {d : TypeDesc} {i : TypeInfo} (hd : P.underlying t = some d) (hi : P.info? t = some i) {x a : AV} {vx : Value} (hx : VR ρ x vx) (e : ldV h (if isAg d then some i.size else none) x = some a) : Good K P ρ h w (Instr.loadAt t vx) (a, h) := by
  cases hx with
  | p id off b o n hρ =>
    by_cases ha : isAg d = true
    · rw [if_pos ha] at e
      simp only [ldV] at e
      obtain ⟨xs, hxs, e⟩ := Option.bind_eq_some_iff.1 e
      split at e
      · rename_i hle
        cases e
        obtain ⟨vs, hl, hc, hv⟩ := hr.win hxs hρ off i.size hle
        refine ⟨.agg vs.toArray, w, ρ, ?_, Ext.refl _, hr, vl_agg hv, Eff.refl _ _ _⟩
        have hload := run_loadCells_list (P := P) w ⟨b, o + off, none⟩ vs hc
        rw [hl] at hload
        simp [Instr.loadAt, Instr.sureAddr, loadVar, run_isAgg hd, ha, sizeOf, typeInfo, hi, hload]
      · cases e
    · rw [if_neg ha] at e
      simp only [ldV] at e
      obtain ⟨xs, hxs, e⟩ := Option.bind_eq_some_iff.1 e
      obtain ⟨cs, ty, fz, h1, h3, h4⟩ := hr.row hxs hρ
      obtain ⟨c, hc, hv⟩ := h4 off a e
      refine ⟨c, w, ρ, ?_, Ext.refl _, hr, hv, Eff.refl _ _ _⟩
      simp [Instr.loadAt, Instr.sureAddr, loadVar, run_isAgg hd, ha, World.cell?, h1, hc]
  | _ => by_cases ha : isAg d = true <;> simp [ha, ldV] at e

theorem one_of_wrOk {fl : Bool} {a : AV} (h : wrOk fl a = true) : a.one = true := by
  unfold wrOk at h
  split at h
  · cases a <;> simp_all [AV.flat, AV.one]
  · exact h
theorem VR.oneCell {ρ : Mp} {a : AV} {v : Value} (h : VR ρ a v) (ha : a.one = true) : v.oneCell' = true := by
  cases h <;> simp_all [AV.one, Value.oneCell']
theorem VR.flat {ρ ρ' : Mp} {a : AV} {v : Value} (h : VR ρ a v) (ha : a.flat = true) : VR ρ' a v := by
  cases h with
  | b x => exact .b x
  | i k n => exact .i k n
  | s l bs h => exact .s l bs h
  | np => exact .np
  | ns => exact .ns
  | nf => exact .nf
  | ni => exact .ni
  | _ => simp [AV.flat] at ha
theorem VR.wr {ρ : Mp} {fl : Bool} {a : AV} {v : Value} (h : VR ρ a v) (ha : wrOk fl a = true) : VR (flm fl ρ) a v := by
  unfold wrOk at ha
  unfold flm
  split
  · rename_i hf
    rw [if_pos hf] at ha
    exact h.flat ha
  · exact h
theorem over_get (xs l : List AV) (off : Nat) (h : off + l.length ≤ xs.length) (k : Nat) : (over xs off l)[k]? = if k < off then xs[k]? else if k < off + l.length then l[k - off]? else xs[k]? := by
  unfold over
  by_cases h1 : k < off
  · rw [if_pos h1, List.append_assoc, List.getElem?_append_left (by simp; omega), List.getElem?_take, if_pos h1]
  · rw [if_neg h1]
    by_cases h2 : k < off + l.length
    · rw [if_pos h2, List.getElem?_append_left (by simp; omega), List.getElem?_append_right (by simp; omega)]
      congr 1
      simp
      omega
    · rw [if_neg h2, List.getElem?_append_right (by simp; omega), List.getElem?_drop]
      congr 1
      simp
      omega
theorem over_len (xs l : List AV) (off : Nat) (h : off + l.length ≤ xs.length) : (over xs off l).length = xs.length := by
  unfold over
  simp
  omega
theorem overV_get (xs l : List Value) (off : Nat) (h : off + l.length ≤ xs.length) (k : Nat) : ((xs.take off ++ l ++ xs.drop (off + l.length)).toArray)[k]? = if k < off then xs[k]? else if k < off + l.length then l[k - off]? else xs[k]? := by
  rw [List.getElem?_toArray]
  by_cases h1 : k < off
  · rw [if_pos h1, List.append_assoc, List.getElem?_append_left (by simp; omega), List.getElem?_take, if_pos h1]
  · rw [if_neg h1]
    by_cases h2 : k < off + l.length
    · rw [if_pos h2, List.getElem?_append_left (by simp; omega), List.getElem?_append_right (by simp; omega)]
      congr 1
      simp
      omega
    · rw [if_neg h2, List.getElem?_append_right (by simp; omega), List.getElem?_drop]
      congr 1
      simp
      omega
/-- Cells stored over a row of an owned block; the row may reach beyond what the abstract block has of it, if there are cells. -/
theorem store_rel {ρ : Mp} {h : List AB} {w : World} (hr : Rel K ρ h w) {id : Nat} {fl : Bool} {xs : List AV} (hb : h[id]? = some (.blk fl true xs)) {b o n : Nat} (hρ : ρ[id]? = some (b, o, n)) (off : Nat) {l : List AV} {vs : List Value}
    (hv : VL ρ l vs.toArray) (hok : l.all (wrOk fl) = true) (hle : off + l.length ≤ xs.length) :
    ∃ w', (storeCells ⟨b, o + off, none⟩ vs 0).run P w = .ok () w' ∧ Rel K ρ (h.set id (.blk fl true (over xs off l))) w' ∧ Eff ρ h w ρ (h.set id (.blk fl true (over xs off l))) w' := by
  obtain ⟨cs, ty, fz, h1, h2, h3, h4⟩ := hr.blk id _ b o n hb hρ
  obtain ⟨rfl, hn⟩ := h2 rfl
  have hlen : l.length = vs.length := by have := hv.1; simpa using this
  have hall : ∀ (j : Nat) a, l[j]? = some a → wrOk fl a = true := fun j a ha => List.all_eq_true.1 hok a (List.mem_of_getElem? ha)
  have hone : ∀ v ∈ vs, v.oneCell' = true := fun v hvm => by
    obtain ⟨j, hj⟩ := List.getElem?_of_mem hvm
    have hjl : j < l.length := by rw [hlen]; exact (List.getElem?_eq_some_iff.1 hj).1
    exact (hv.2 j _ v (List.getElem?_eq_getElem hjl) (by simpa using hj)).oneCell (one_of_wrOk (hall j _ (List.getElem?_eq_getElem hjl)))
  have hst := run_storeCells_at (P := P) b (o + off) ty vs 0 cs w h1 (by omega) hone
  rw [Nat.add_zero] at hst
  refine ⟨_, hst, hr.put hb rfl hρ ?_ rfl rfl ⟨rfl, Nat.le_refl _⟩ (by simp) (fun k hk => setRow_other w b k _ hk) (fun _ => rfl)⟩
  refine ⟨_, ty, (0, 0), setRow_heap w b cs _ ty _ h1, fun _ => ⟨rfl, ?_⟩, ?_, fun k a c ha hc => ?_⟩
  · simp
    omega
  · rw [over_len _ _ _ hle]
    simp
    omega
  · rw [over_get _ _ _ hle] at ha
    rw [overV_get _ _ _ (by simp; omega)] at hc
    simp only [Array.getElem?_toList] at hc
    by_cases q1 : k < off
    · rw [if_pos q1] at ha
      rw [if_pos (by omega)] at hc
      exact h4 k a c ha hc
    · rw [if_neg q1] at ha
      rw [if_neg (by omega)] at hc
      by_cases q2 : k < off + l.length
      · rw [if_pos q2] at ha
        rw [if_pos (by omega)] at hc
        have hidx : o + k - (o + off) = k - off := by omega
        rw [hidx] at hc
        exact (hv.2 _ a c ha (by simpa using hc)).wr (hall _ a ha)
      · rw [if_neg q2] at ha
        rw [if_neg (by omega)] at hc
        exact h4 k a c ha hc
theorem stB_some {h h' : List AB} {id off : Nat} {l : List AV} (e : stB h id off l = some h') : ∃ fl xs, h[id]? = some (.blk fl true xs) ∧ off + l.length ≤ xs.length ∧ l.all (wrOk fl) = true ∧ h' = h.set id (.blk fl true (over xs off l)) := by
  unfold stB at e
  split at e
  · rename_i fl xs hq
    split at e
    · rename_i hc
      cases e
      exact ⟨fl, xs, hq, hc.1, hc.2, rfl⟩
    · cases e
  · cases e
theorem good_stB {ρ : Mp} {h h' : List AB} {w : World} (hr : Rel K ρ h w) {id off : Nat} {l : List AV} (e : stB h id off l = some h') {b o n : Nat} (hρ : ρ[id]? = some (b, o, n)) {vs : List Value} (hv : VL ρ l vs.toArray) :
    ∃ w', (storeCells ⟨b, o + off, none⟩ vs 0).run P w = .ok () w' ∧ Rel K ρ h' w' ∧ Eff ρ h w ρ h' w' := by
  obtain ⟨fl, xs, h1, h2, h3, rfl⟩ := stB_some e
  exact store_rel hr h1 hρ off hv h3 h2
theorem VR.cells1 {ρ : Mp} {a : AV} {v : Value} (h : VR ρ a v) (ha : a.one = true) : v.cells = #[v] := by
  cases h <;> simp_all [AV.one, Value.cells]
/-- A store of a whole variable. -/
theorem good_st {ρ : Mp} {h h' : List AB} {w : World} (hr : Rel K ρ h w) (t : TypeId) {ag : Bool} {i : TypeInfo} (hi : P.info? t = some i) (h1 : ag = false → i.size = 1) {x y : AV} {vx vy : Value} (hx : VR ρ x vx) (hy : VR ρ y vy) (e : stV h (if ag then some i.size else none) x y = some h') :
    ∃ w', (Instr.storeAt t vx vy).run P w = .ok () w' ∧ Rel K ρ h' w' ∧ Eff ρ h w ρ h' w' := by
  cases hx with
  | p id off b o n hρ =>
    cases ag with
    | true =>
      simp only [if_true] at e
      cases y with
      | ag l =>
        obtain ⟨cs, rfl, hl⟩ := agg_vl hy
        simp only [stV] at e
        split at e
        · rename_i hlen
          obtain ⟨w', hw', q1, q2⟩ := good_stB (P := P) hr e hρ (vs := cs.toList) (by simpa using hl)
          refine ⟨w', ?_, q1, q2⟩
          have hs : cs.size = i.size := by rw [← hl.1, hlen]
          simp [Instr.storeAt, Instr.sureAddr, storeVar, Value.cells, sizeOf, typeInfo, hi, hs, hw']
        · cases e
      | _ => simp [stV] at e
    | false =>
      simp only [Bool.false_eq_true, if_false, stV] at e
      split at e
      · rename_i hone
        obtain ⟨w', hw', q1, q2⟩ := good_stB (P := P) hr e hρ (vs := [vy]) (VL.one hy)
        refine ⟨w', ?_, q1, q2⟩
        simp [Instr.storeAt, Instr.sureAddr, storeVar, hy.cells1 hone, sizeOf, typeInfo, hi, h1 rfl, hw']
      · cases e
  | _ => cases ag <;> cases y <;> simp [stV] at e

theorem VL.wr {ρ : Mp} {fl : Bool} {l : List AV} {cs : Array Value} (h : VL ρ l cs) (hok : l.all (wrOk fl) = true) : VL (flm fl ρ) l cs :=
  ⟨h.1, fun j a c h1 h2 => (h.2 j a c h1 h2).wr (List.all_eq_true.1 hok a (List.mem_of_getElem? h1))⟩
/-- A new row of cells. -/
theorem new_rel {ρ : Mp} {h : List AB} {w : World} (hr : Rel K ρ h w) (ty : TypeId) (fl : Bool) {l : List AV} {cs rest : Array Value} (hv : VL (flm fl ρ) l cs) :
    Rel K (ρ ++ [(w.heap.size, 0, (cs ++ rest).size)]) (h ++ [.blk fl true l]) (w.alloc (.cells (cs ++ rest) ty)) ∧ Eff ρ h w (ρ ++ [(w.heap.size, 0, (cs ++ rest).size)]) (h ++ [.blk fl true l]) (w.alloc (.cells (cs ++ rest) ty)) := by
  refine hr.new _ _ _ ⟨cs ++ rest, ty, (0, 0), heap_alloc_new w _, fun _ => ⟨rfl, Nat.le_refl _⟩, by simp [hv.1], fun k a c ha hc => ?_⟩
  have hk : k < l.length := (List.getElem?_eq_some_iff.1 ha).1
  rw [Nat.zero_add, Array.getElem?_append_left (by rw [← hv.1]; exact hk)] at hc
  exact (hv.2 k a c ha hc).ext (flm_ext fl (Ext.push _ _))
theorem ext_last (ρ : Mp) (h : List AB) (x : Nat × Nat × Nat) (hl : ρ.length = h.length) : (ρ ++ [x])[h.length]? = some x := by
  rw [← hl]
  simp
theorem newB_some {h : List AB} {fl : Bool} {cs : List AV} {f : Nat → AV} {r : AV × List AB} (e : newB h fl cs f = some r) : cs.all (wrOk fl) = true ∧ r = (f h.length, h ++ [.blk fl true cs]) := by
  unfold newB at e
  split at e
  · rename_i hc
    cases e
    exact ⟨hc, rfl⟩
  · cases e
theorem good_newVar {ρ : Mp} {h : List AB} {w : World} (hr : Rel K ρ h w) (t : TypeId) (fl : Bool) {l : List AV} {v : Value} (hv : VL ρ l v.cells) {r : AV × List AB} (e : newB h fl l (fun n => .p n 0) = some r) :
    Good K P ρ h w (do pure (.pointer (some (← newVar t v)))) r := by
  obtain ⟨hok, rfl⟩ := newB_some e
  have := new_rel hr t fl (rest := #[]) (hv.wr hok)
  simp only [Array.append_empty] at this
  refine ⟨.pointer (some ⟨w.heap.size, 0, none⟩), _, _, ?_, Ext.push _ _, this.1, ?_, this.2⟩
  · simp [newVar, newRow]
  · have := VR.p (ρ := ρ ++ [(w.heap.size, 0, v.cells.size)]) h.length 0 w.heap.size 0 v.cells.size (ext_last ρ h _ hr.len)
    simpa using this
theorem good_newRow {ρ : Mp} {h : List AB} {w : World} (hr : Rel K ρ h w) (t : TypeId) (fl : Bool) {l : List AV} {cs : Array Value} (hv : VL ρ l cs) (len cap : Nat) (hlc : len ≤ cap) (hm : cap ≤ maxLen) {r : AV × List AB} (e : newB h fl l (fun n => .sl n 0 len cap none) = some r) :
    Good K P ρ h w (do pure (.slice (some (← newRow t cs)) len cap)) r := by
  obtain ⟨hok, rfl⟩ := newB_some e
  have := new_rel hr t fl (rest := #[]) (hv.wr hok)
  simp only [Array.append_empty] at this
  refine ⟨.slice (some ⟨w.heap.size, 0, none⟩) len cap, _, _, ?_, Ext.push _ _, this.1, ?_, this.2⟩
  · simp [newRow]
  · have := VR.sl (ρ := ρ ++ [(w.heap.size, 0, cs.size)]) h.length 0 len cap none w.heap.size 0 cs.size cap (ext_last ρ h _ hr.len) hlc (Nat.le_refl _) hm (fun _ => rfl) (fun z hz => by cases hz)
    simpa using this
end
end Go.Proofs.Ytbcpcjofkfgjoaa
