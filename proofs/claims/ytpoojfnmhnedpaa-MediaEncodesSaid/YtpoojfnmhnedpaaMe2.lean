/- Part 2 of what the laws' proofs rest on. No condition. -/
import Derived.Lib.AppendZeros
import Derived.Laws.BytesString
import Derived.Laws.IdiomStrings
import Derived.Test.YtpoojfnmhnedpaaMe1
set_option linter.all false
section
namespace Go.Proofs.Ytpoojfnmhnedpaa
open Go.RowKit
section
variable {P : Program} {K : Code → CC → Prop}
theorem VR.cellsVL {ρ : Mp} {a : AV} {v : Value} (h : VR ρ a v) (hk : a.known = true) : VL ρ a.cells v.cells := by
 cases h with
 | ag l cs hl hv => exact ⟨hl, hv⟩
 | top v => cases hk
 | b x => exact VL.one (.b x)
 | i k n => exact VL.one (.i k n)
 | s l bs h => exact VL.one (.s l bs h)
 | p id off b o n h => exact VL.one (.p id off b o n h)
 | np => exact VL.one .np
 | sl id off len cap k b o n cap' h h1 h2 h3 h4 h5 => exact VL.one (.sl id off len cap k b o n cap' h h1 h2 h3 h4 h5)
 | sz id off a c h hn => exact VL.one (.sz id off a c h hn)
 | se a c h => exact VL.one (.se a c h)
 | ns => exact VL.one .ns
 | f fn fst cap fst' cap' h0 h hv0 hv => exact VL.one (.f fn fst cap fst' cap' h0 h hv0 hv)
 | nf => exact VL.one .nf
 | ifc t v v' h => exact VL.one (.ifc t v v' h)
 | ni => exact VL.one .ni
 | tu l cs h hv => exact VL.one (.tu l cs h hv)
 | y id b o n h => exact VL.one (.y id b o n h)
theorem zp8 (off : Nat) : ∀ (vs : List Value) (k : Nat) (C : Array Value), off + k + vs.length ≤ C.size →
  ((vs.zipIdx k).foldl (fun (cs : Array Value) x => cs.setIfInBounds (off + x.2) x.1) C).size = C.size ∧
  ∀ q, ((vs.zipIdx k).foldl (fun (cs : Array Value) x => cs.setIfInBounds (off + x.2) x.1) C)[q]? = if q < off + k then C[q]? else if q < off + k + vs.length then vs[q - (off + k)]? else C[q]?
 | [], k, C, _ => ⟨rfl, fun q => by
   simp only [List.zipIdx_nil, List.foldl_nil, List.length_nil, Nat.add_zero, List.getElem?_nil]
   by_cases h : q < off + k <;> simp [h]⟩
 | v :: vs, k, C, h => by
  rw [List.zipIdx_cons, List.foldl_cons]
  have ih := zp8 off vs (k + 1) (C.setIfInBounds (off + k) v) (by simp at h ⊢; omega)
  refine ⟨by rw [ih.1]; simp, fun q => ?_⟩
  rw [ih.2 q]
  have hk : off + k < C.size := by simp at h; omega
  rw [Array.getElem?_setIfInBounds]
  by_cases h1 : q < off + k
  ·rw [if_pos (by omega), if_neg (by omega), if_pos h1]
  ·rw [if_neg h1]
   by_cases h2 : q = off + k
   ·subst h2
    rw [if_pos (by omega), if_pos rfl, if_pos hk, if_pos (by simp), Nat.sub_self]
    rfl
   ·have e1 : ¬ q < off + (k + 1) := by omega
    rw [if_neg e1]
    by_cases h3 : q < off + (k + 1) + vs.length
    ·have h4 : q < off + k + (v :: vs).length := by simp; omega
     rw [if_pos h3, if_pos h4]
     have : q - (off + k) = (q - (off + (k + 1))) + 1 := by omega
     rw [this, List.getElem?_cons_succ]
    ·have h4 : ¬ q < off + k + (v :: vs).length := by simp; omega
     have h5 : ¬ off + k = q := fun e => h2 e.symm
     rw [if_neg h3, if_neg h4, if_neg h5]
def q9Z (ρ : Mp) (place : Nat → Option (Nat × Nat)) (ev : Opd → AV) : List (Nat × Nat × Opd) → List (Nat × Value) → Prop
 | [], [] => True
 | (off, sz, x) :: ps, (i, v) :: vs => place i = some (off, sz) ∧ VR ρ (ev x) v ∧ q9Z ρ place ev ps vs
 | _, _ => False
theorem qfp {ρ : Mp} {place : Nat → Option (Nat × Nat)} {ev : Opd → AV} : ∀ (ps : List (Nat × Nat × Opd)) (vs : List (Nat × Value)) (X : List AV) (C : Array Value) (Y : List AV), q9Z ρ place ev ps vs → VL ρ X C → YFS ev X ps = some Y → ∃ D, Instr.fill place C vs = some D ∧ VL ρ Y D
 | [], [], X, C, Y, _, hv, e => by
  cases e
  exact ⟨C, rfl, hv⟩
 | [], _ :: _, X, C, Y, h, _, _ => h.elim
 | (off, sz, x) :: ps, [], X, C, Y, h, _, _ => h.elim
 | (off, sz, x) :: ps, (i, v) :: vs, X, C, Y, h, hv, e => by
  obtain ⟨hp, hx, hrest⟩ := h
  simp only [YFS] at e
  split at e
  ·rename_i hc
   obtain ⟨h1, h2, h3⟩ := hc
   have hcv := hx.cellsVL h3
   have hsz : v.cells.size = sz := by rw [← hcv.1]; exact h1
   have hC : C.size = X.length := hv.1.symm
   have hf := zp8 off v.cells.toList 0 C (by simp; omega)
   have hz : v.cells.zipIdx.foldl (fun (cs : Array Value) (x : Value × Nat) => cs.setIfInBounds (off + x.2) x.1) C = (v.cells.toList.zipIdx 0).foldl (fun (cs : Array Value) x => cs.setIfInBounds (off + x.2) x.1) C := by
    rw [← Array.foldl_toList, Array.toList_zipIdx]
   have hvl : VL ρ (over X off (ev x).cells) ((v.cells.toList.zipIdx 0).foldl (fun (cs : Array Value) x => cs.setIfInBounds (off + x.2) x.1) C) := by
    refine ⟨by rw [J4d _ _ _ (by omega), hf.1]; exact hv.1, fun q a c ha hc => ?_⟩
    rw [YmU _ _ _ (by omega)] at ha
    rw [hf.2 q] at hc
    simp only [Nat.add_zero, Array.length_toList, Array.getElem?_toList] at hc
    have hl : (ev x).cells.length = v.cells.size := hcv.1
    by_cases q1 : q < off
    ·rw [if_pos q1] at ha hc
     exact hv.2 q a c ha hc
    ·rw [if_neg q1] at ha hc
     by_cases q2 : q < off + (ev x).cells.length
     ·rw [if_pos q2] at ha
      rw [if_pos (by omega)] at hc
      exact hcv.2 _ a c ha hc
     ·rw [if_neg q2] at ha
      rw [if_neg (by omega)] at hc
      exact hv.2 q a c ha hc
   obtain ⟨D, hD, hY⟩ := qfp ps vs _ _ Y hrest hvl e
   refine ⟨D, ?_, hY⟩
   have hno : (decide (v.cells.size ≠ sz) || decide (off + v.cells.size > C.size)) = false := by
    simp
    omega
   simp only [Instr.fill, hp]
   rw [← hD, ← hz]
   split
   ·rename_i hq
    rw [hno] at hq
    cases hq
   ·rfl
  ·cases e
theorem qvk {ρ : Mp} (t : TypeId) {fs : Array Field} {i : TypeInfo} {z : Value} (ht : P.underlying t = some (.struct fs)) (hi : P.info? t = some i) (hz : i.zero = some z) {places : Array (Nat × Nat)} (hpl : ∀ w, (fs.mapM fun f => do pure (f.offset, ← sizeOf f.type) : Sem (Array (Nat × Nat))).run P w = .ok places w)
  {ev : Opd → AV} {ps : List (Nat × Nat × Opd)} {parts : Array (Nat × Value)} (hp : q9Z ρ (places[·]?) ev ps parts.toList) {X Y : List AV} (hX : VL ρ X z.cells) (e : YFS ev X ps = some Y) : Ans P ρ (Instr.build t parts) (.ag Y) := by
 obtain ⟨D, hD, hY⟩ := qfp ps parts.toList X z.cells Y hp hX e
 refine Ans.mk (v := .agg D) (fun w => ?_) (YLl hY)
 have hpl' := hpl w
 simp only [bind_pure_comp] at hpl'
 simp [Instr.build, zeroValue, typeInfo, hi, hz, run_underlying ht, hpl', hD]
theorem YMb {ρ : Mp} (t e : TypeId) {n : Nat} {i ie : TypeInfo} {z : Value} (ht : P.underlying t = some (.array n e)) (hi : P.info? t = some i) (hz : i.zero = some z) (hie : P.info? e = some ie)
  {ev : Opd → AV} {ps : List (Nat × Nat × Opd)} {parts : Array (Nat × Value)} (hp : q9Z ρ (fun k => some (k * ie.size, ie.size)) ev ps parts.toList) {X Y : List AV} (hX : VL ρ X z.cells) (er : YFS ev X ps = some Y) : Ans P ρ (Instr.build t parts) (.ag Y) := by
 obtain ⟨D, hD, hY⟩ := qfp ps parts.toList X z.cells Y hp hX er
 exact Ans.mk (v := .agg D) (fun w => by simp [Instr.build, zeroValue, typeInfo, hi, hz, run_underlying ht, sizeOf, hie, hD]) (YLl hY)
theorem YVv {ρ : Mp} {h : List AB} {w : World} (hr : Rel K ρ h w) (t e : TypeId) {ie : TypeInfo} {z : Value} (ht : P.underlying t = some (.slice e)) (hie : P.info? e = some ie) (hz : ie.zero = some z) (len : Nat) (hb : len * ie.size ≤ 2 ^ 24) (fl : Bool)
  {ev : Opd → AV} {ps : List (Nat × Nat × Opd)} {parts : Array (Nat × Value)} (hp : q9Z ρ (fun k => some (k * ie.size, ie.size)) ev ps parts.toList) {X Y : List AV} (hX : VL ρ X ((Array.range (len * ie.size)).map (z.cells[· % z.cells.size]!))) (er : YFS ev X ps = some Y) (hm : len ≤ maxLen) {r : AV × List AB} (en : newB h fl Y (fun n => .sl n 0 len len none) = some r) :
  Good K P ρ h w (Instr.buildSlice t len parts) r := by
 obtain ⟨D, hD, hY⟩ := qfp ps parts.toList X _ Y hp hX er
 obtain ⟨v', w', ρ', h1, h2⟩ := K7w (P := P) hr e fl hY len len (Nat.le_refl _) hm en
 refine ⟨v', w', ρ', ?_, h2⟩
 rw [← h1]
 have hb' : ¬ (len * ie.size > 2 ^ 24) := by omega
 by_cases h0 : len * ie.size = 0
 ·have e0 : ∀ f : Nat → Value, (Array.range (len * ie.size)).map f = #[] := fun f => by rw [h0]; simp
  rw [e0] at hD
  simp only [Instr.buildSlice, Sem.run_bind, run_underlying ht, Result.andThen_ok, sizeOf, typeInfo, run_program, hie, Sem.run_pure, hb', if_false, e0]
  simp [h0, hD]
 ·simp only [Instr.buildSlice, Sem.run_bind, run_underlying ht, Result.andThen_ok, sizeOf, typeInfo, run_program, hie, Sem.run_pure, hb', if_false, h0, zeroValue, hz]
  simp [hD]
theorem KUO (z : List AV) (hz : z ≠ []) : ∀ (c q : Nat), ((List.replicate c z).flatten)[q]? = if q < c * z.length then z[q % z.length]? else none
 | 0, q => by simp
 | c + 1, q => by
  have hp : 0 < z.length := List.length_pos_iff.2 hz
  rw [List.replicate_succ, List.flatten_cons]
  by_cases h : q < z.length
  ·rw [List.getElem?_append_left h, if_pos (by rw [Nat.add_mul]; omega), Nat.mod_eq_of_lt h]
  ·rw [List.getElem?_append_right (by omega), KUO z hz c]
   have hm : (q - z.length) % z.length = q % z.length := by
    rw [Nat.mod_eq_sub_mod (by omega : q ≥ z.length)]
   rw [hm, Nat.add_mul, Nat.one_mul]
   by_cases h2 : q - z.length < c * z.length
   ·rw [if_pos h2, if_pos (by omega)]
   ·rw [if_neg h2, if_neg (by omega)]
theorem zLQ {ρ : Mp} {ie : TypeInfo} {z : Value} (hzs : z.cells.size = ie.size) (hs0 : ie.size ≠ 0) {zl : List AV} (hzl : VL ρ zl z.cells) (c : Nat) : VL ρ ((List.replicate c zl).flatten) ((Array.range (c * ie.size)).map (z.cells[· % z.cells.size]!)) := by
 have hne : zl ≠ [] := fun e => by
  subst e
  have := hzl.1
  simp at this
  omega
 have hl : zl.length = ie.size := by rw [hzl.1, hzs]
 refine ⟨by simp [hl], fun q a b ha hb => ?_⟩
 rw [KUO zl hne] at ha
 split at ha
 ·rename_i hq
  rw [hl] at hq ha
  simp only [Array.getElem?_map] at hb
  obtain ⟨q', hq', rfl⟩ := Option.map_eq_some_iff.1 hb
  have : q' = q := by
   obtain ⟨hlt, he⟩ := Array.getElem?_eq_some_iff.1 hq'
   rw [← he]
   simp
  subst this
  have hlt : q' % ie.size < z.cells.size := by rw [hzs]; exact Nat.mod_lt _ (by omega)
  rw [hzs, getElem!_pos z.cells _ hlt]
  exact hzl.2 _ a _ ha (Array.getElem?_eq_getElem hlt)
 ·cases ha
theorem ZiK {ρ : Mp} {h : List AB} {w : World} (hr : Rel K ρ h w) (t e : TypeId) {ie : TypeInfo} {z : Value} (ht : P.underlying t = some (.slice e)) (hie : P.info? e = some ie) (hz : ie.zero = some z) (hzs : z.cells.size = ie.size) (hs0 : ie.size ≠ 0) (fl : Bool) {zl : List AV} (hzl : VL ρ zl z.cells)
  {k k' : IntKind} {l c : Int} (h0 : 0 ≤ l) (h1 : l ≤ c) (h2 : (ie.bytes : Int) * c ≤ 2 ^ 47) (h3 : c ≤ maxLen) {r : AV × List AB} (en : newB h fl ((List.replicate c.toNat zl).flatten) (fun n => .sl n 0 l.toNat c.toNat none) = some r) :
  Good K P ρ h w (Instr.makeSlice t (.int k l) (.int k' c)) r := by
 have hY := zLQ (ρ := ρ) hzs hs0 hzl c.toNat
 have hcm : c.toNat ≤ maxLen := by omega
 obtain ⟨v', w', ρ', g1, g2⟩ := K7w (P := P) hr e fl hY l.toNat c.toNat (by omega) hcm en
 refine ⟨v', w', ρ', ?_, g2⟩
 rw [← g1]
 have wl : IntKind.i64.wrap l = l := IntWalk.i64_in _ (by unfold maxLen at h3; omega)
 have wc : IntKind.i64.wrap c = c := IntWalk.i64_in _ (by unfold maxLen at h3; omega)
 have t1 : ¬ (c < 0) := by omega
 have t2 : ¬ ((ie.bytes : Int) * c > 2 ^ 48) := by omega
 have t3 : ¬ (l < 0) := by omega
 have t4 : ¬ (l > c) := by omega
 have t5 : (281474976710656 < (ie.bytes : Int) * c) = False := by simp; omega
 by_cases hn : c.toNat * ie.size = 0
 ·have hc0 : c.toNat = 0 := by
   rcases Nat.mul_eq_zero.1 hn with q | q
   ·exact q
   ·exact absurd q hs0
  have hz0 : c = 0 := by omega
  subst hz0
  have hl0 : l = 0 := by omega
  subst hl0
  have er0 : Array.range 0 = #[] := rfl
  simp [Instr.makeSlice, run_underlying ht, asInt, asIntOf, typeInfo, hie, sizeOf, wl, er0]
 ·have hz1 : z.cells.size = ie.size := hzs
  have hne : ¬ (c.toNat = 0 ∨ ie.size = 0) := fun q => hn (by rcases q with q | q <;> simp [q])
  have ht3 : decide (l < 0) = false := by simpa using h0
  have ht4 : decide (c < l) = false := by simpa using h1
  simp [Instr.makeSlice, run_underlying ht, asInt, asIntOf, typeInfo, hie, sizeOf, wl, wc, zeroValue, hz, t5, t1]
  rw [if_neg (by omega)]
  first | done | (intro hq; exact absurd hq hn) | (rw [if_neg hn])
end
end Go.Proofs.Ytpoojfnmhnedpaa
end
section
namespace Go.Proofs.Ytpoojfnmhnedpaa
open Go.RowKit
section
variable {P : Program} {K : Code → CC → Prop}
theorem zts {x : AV} : x.isStr = true ↔ ∃ l, x = .s l := by
 cases x <;> simp [AV.isStr]
theorem zdX {x : AV} (h : x.isStr = false) : ∀ l, x ≠ .s l := fun l e => by
 subst e
 cases h
theorem JVG : ∀ (cs : List AV) (l : List UInt8), bytesOf cs = some l → ∃ ns : List Int, cs = ns.map (AV.i .u8) ∧ l = ns.map fun n => UInt8.ofNat n.toNat
 | [], l, e => by cases e; exact ⟨[], rfl, rfl⟩
 | x :: cs, l, e => by
  unfold bytesOf at e
  split at e
  ·cases ‹x :: cs = []›
  ·rename_i n rest heq
   cases heq
   obtain ⟨l', hl', rfl⟩ := Option.map_eq_some_iff.1 e
   obtain ⟨ns, h1, h2⟩ := JVG cs l' hl'
   exact ⟨n :: ns, by rw [h1]; rfl, by rw [h2]; rfl⟩
  ·cases e
theorem KUS (ns : List Int) : ∀ (s : ByteArray), (ns.foldl (fun r n => r.push (UInt8.ofNat n.toNat)) s).data.toList = s.data.toList ++ ns.map fun n => UInt8.ofNat n.toNat := by
 induction ns with
 | nil => intro s; simp
 | cons n ns ih =>
  intro s
  rw [List.foldl_cons, ih]
  simp [ByteArray.push]
theorem KeM {ρ : Mp} {h : List AB} {w : World} (hr : Rel K ρ h w) (src dst e : TypeId) (hs : P.underlying src = some (.slice e)) (he : P.underlying e = some (.int .u8)) (hd : P.underlying dst = some .string) {x : AV} (hx0 : ∀ l, x ≠ .s l) {vx : Value} (hx : VR ρ x vx) {m : Nat} {cs : List AV} (hsrc : srcV h 1 x = some (m, cs)) {l : List UInt8} (hl : bytesOf cs = some l) :
  Good K P ρ h w (convert src dst vx) (.s l, h) := by
 obtain ⟨ns, rfl, rfl⟩ := JVG cs l hl
 obtain ⟨news, hS, hvn⟩ := zpJ (P := P) hr hsrc hx src hs (.inr ⟨hx0, e, rfl⟩) (by rw [List.all_map]; exact List.all_eq_true.2 fun _ _ => rfl)
 have hnews : news = ns.map (Value.int .u8) := by
  apply List.ext_getElem?
  intro j
  have hlen := hvn.1
  simp only [List.length_map, List.size_toArray] at hlen
  rcases Nat.lt_or_ge j news.length with q | q
  ·have h1 : (ns.map (AV.i .u8))[j]? = some (AV.i .u8 (ns[j]'(by omega))) := by
    rw [List.getElem?_map, List.getElem?_eq_getElem (by omega : j < ns.length)]
    rfl
   have h2 := hvn.2 j _ _ h1 (by rw [List.getElem?_toArray]; exact List.getElem?_eq_getElem q)
   rw [List.getElem?_eq_getElem q, List.getElem?_map, List.getElem?_eq_getElem (by omega : j < ns.length)]
   generalize news[j] = u at h2 ⊢
   cases h2
   rfl
  ·rw [List.getElem?_eq_none q, List.getElem?_eq_none (by simp; omega)]
 subst hnews
 have hm : ns.length = m := by
  have := hS.newsLen
  simpa using this
 have fin : ∀ (a : Addr) (len c : Nat), len = m → vx = .slice (some a) len c → Good K P ρ h w (convert src dst vx) (.s (ns.map fun n => UInt8.ofNat n.toNat), h) := by
  rintro a len c rfl rfl
  have hc := hS.cells
  simp only [Builtin.firstCells, Nat.mul_one] at hc
  refine ⟨.string (ns.foldl (fun r n => r.push (UInt8.ofNat n.toNat)) ByteArray.empty), w, ρ, ?_, Ext.refl _, hr, .s _ _ ?_, Eff.refl _ _ _⟩
  ·rw [run_convert_bytes_string w src dst e _ _ _ hs he hd]
   exact run_bytesToString w a len c ns hc
  ·rw [KUS]
   rfl
 cases hx with
 | ns =>
  simp only [srcV, Option.some.injEq, Prod.mk.injEq] at hsrc
  have : ns = [] := by simpa using hsrc.2.symm
  subst this
  refine ⟨.string .empty, w, ρ, ?_, Ext.refl _, hr, .s _ _ rfl, Eff.refl _ _ _⟩
  rw [run_convert_bytes_string w src dst e _ _ _ hs he hd]
  rfl
 | se a c hc =>
  simp only [srcV, Option.some.injEq, Prod.mk.injEq] at hsrc
  exact fin a 0 c hsrc.1 rfl
 | sz id off a c hc hn =>
  simp only [srcV, if_true, Option.some.injEq, Prod.mk.injEq] at hsrc
  cases a with
  | none =>
   have : ns = [] := by simpa using hsrc.2.symm
   subst this
   refine ⟨.string .empty, w, ρ, ?_, Ext.refl _, hr, .s _ _ rfl, Eff.refl _ _ _⟩
   rw [run_convert_bytes_string w src dst e _ _ _ hs he hd]
   rfl
  | some a => exact fin a 0 c hsrc.1 rfl
 | sl id off len cap k b o n cap' hρ h1 h2 h3 h4 h5 =>
  simp only [srcV] at hsrc
  split at hsrc
  ·rename_i h0
   subst h0
   simp only [Option.some.injEq, Prod.mk.injEq] at hsrc
   exact fin _ 0 cap' hsrc.1 rfl
  obtain ⟨xs, hxs, hsrc⟩ := Option.bind_eq_some_iff.1 hsrc
  split at hsrc
  ·simp only [Option.some.injEq, Prod.mk.injEq] at hsrc
   exact fin _ len cap' hsrc.1 rfl
  ·cases hsrc
 | s l bs hl => exact absurd rfl (hx0 l)
 | _ => simp [srcV] at hsrc
theorem YED {ρ : Mp} {h : List AB} {w : World} (hr : Rel K ρ h w) (t tx ty e : TypeId) {d : TypeDesc} {i : TypeInfo} (ht : P.underlying t = some (.slice e)) (hi : P.info? e = some i) (hd : P.underlying tx = some d)
  {s x : AV} {vs vx : Value} (hs : VR ρ s vs) (hx : VR ρ x vx) (hty : (∃ l, x = .s l) ∧ d = .string ∨ (∀ l, x ≠ .s l) ∧ ∃ e', d = .slice e') {r : AV × List AB} (er : cpyV h i.size s x = some r) :
  Good K P ρ h w (Builtin.copy_ #[t, tx] ty #[vs, vx]) r := by
 unfold cpyV at er
 obtain ⟨⟨m, ys⟩, hsrc, er⟩ := Option.bind_eq_some_iff.1 er
 simp only at er
 split at er
 case h_2 => cases er
 rename_i id off len cap k _
 split at er
 case isFalse => cases er
 rename_i hml
 obtain ⟨h', hst, rfl⟩ := Option.map_eq_some_iff.1 er
 obtain ⟨fl, xs, hb, hle, hok, _⟩ := ZyJ hst
 obtain ⟨news, hS, hvn⟩ := zpJ (P := P) hr hsrc hx tx hd hty (Jpg hok)
 have hmin : Nat.min m len = m := Nat.min_eq_left hml
 cases hs with
 | sl id off len cap k b o n cap' hρ h1 h2 h3 h4 h5 =>
  obtain ⟨w', g1, g2, g3⟩ := zZ5 (P := P) hr hst hρ hvn
  refine ⟨.int .i64 m, w', ρ, ?_, Ext.refl _, g2, .i _ _, g3⟩
  simp [Builtin.copy_, run_underlying ht, sizeOf, typeInfo, hi, hS.len, hmin, hS.cells, g1, goInt]
 | sz id off a c hc hn =>
  have hm0 : m = 0 := by omega
  subst hm0
  have hn0 : news = [] := List.eq_nil_of_length_eq_zero (by have := hS.newsLen; simpa using this)
  subst hn0
  have hy0 : ys = [] := List.eq_nil_of_length_eq_zero (by have := hvn.1; simpa using this)
  subst hy0
  obtain ⟨bo, o', n', hρ, _⟩ := hr.at hb
  obtain ⟨w', g1, g2, g3⟩ := zZ5 (P := P) hr hst hρ hvn
  have hw : w' = w := by
   have : (storeCells ⟨bo, o' + off, none⟩ [] 0).run P w = .ok () w := rfl
   rw [this] at g1
   cases g1
   rfl
  subst hw
  refine ⟨.int .i64 (0 : Nat), w', ρ, ?_, Ext.refl _, g2, .i _ _, g3⟩
  cases a with
  | none => simp [Builtin.copy_, run_underlying ht, sizeOf, typeInfo, hi, hS.len, hS.cells, goInt]
  | some a =>
   have e0 : (storeCells a [] 0).run P w' = .ok () w' := rfl
   simp [Builtin.copy_, run_underlying ht, sizeOf, typeInfo, hi, hS.len, hS.cells, goInt, e0]
theorem Kmf {ρ : Mp} {h : List AB} {w : World} (hr : Rel K ρ h w) (t tn ty e : TypeId) {kn : IntKind} {ie : TypeInfo} {z : Value} (ht : P.underlying t = some (.slice e)) (htn : P.underlying tn = some (.int kn)) (hie : P.info? e = some ie) (hz : ie.zero = some z) (hzs : z.cells.size = ie.size) (hs0 : ie.size ≠ 0) (fl : Bool) {zl : List AV} (hzl : VL ρ zl z.cells)
  {k : IntKind} {m : Int} (hm : 0 < m) (hby : m.toNat * ie.bytes ≤ 140737488355328) (hmx : m.toNat ≤ maxLen) {r : AV × List AB} (en : newB h fl ((List.replicate m.toNat zl).flatten) (fun q => .sl q 0 m.toNat m.toNat (some zl.length)) = some r) :
  Good K P ρ h w (Builtin.append_ #[t, tn] ty #[.slice none 0 0, .int k m]) r := by
 obtain ⟨hok, rfl⟩ := XIx en
 have hrun := Lib.run_append_nil_zeros (P := P) w t tn ty e ie z k kn ht htn hie hz m.toNat (by omega) (by omega) (by unfold maxLen at hmx; omega) (by omega)
 have hme : ((m.toNat : Nat) : Int) = m := by omega
 rw [hme] at hrun
 have hge := grownCap_ge w m.toNat 0 e
 have hle := grownCap_le_maxLen w m.toNat 0 e hmx
 have hl : zl.length = ie.size := by rw [hzl.1, hzs]
 have hY : VL ρ ((List.replicate m.toNat zl).flatten) (Builtin.zeroCells z.cells m.toNat) := by
  have := zLQ (ρ := ρ) hzs hs0 hzl m.toNat
  rw [← hzs] at this
  exact this
 have hnew := K0H hr.drew e fl (rest := Builtin.zeroCells z.cells (grownCap w m.toNat 0 e - m.toNat)) (hY.wr hok)
 refine ⟨_, _, _, hrun, Ext.push _ _, hnew.1, ?_, (Eff.drew ρ h w).trans hnew.2⟩
 have := VR.sl (ρ := ρ ++ [(w.drew.heap.size, 0, (Builtin.zeroCells z.cells m.toNat ++ Builtin.zeroCells z.cells (grownCap w m.toNat 0 e - m.toNat)).size)]) h.length 0 m.toNat m.toNat (some zl.length) w.heap.size 0 _ (grownCap w m.toNat 0 e) (Qpf ρ h _ hr.len) (Nat.le_refl _) hge hle (fun hk => by cases hk) (fun z' hz' _ => by
  cases hz'
  simp only [Array.size_append, size_zeroCells, hzs, hl]
  have hq : m.toNat * ie.size + (grownCap w m.toNat 0 e - m.toNat) * ie.size = grownCap w m.toNat 0 e * ie.size := by rw [← Nat.add_mul, Nat.add_sub_cancel' hge]
  omega)
 simpa using this
theorem qTK (w : World) (b : Nat) : ∀ (ns : List Int) (i : Nat) (acc : ByteArray), (∀ (j : Nat) u, ns[j]? = some u → w.cell? ⟨b, i + j, none⟩ = some (.int .u8 u)) →
  (Extern.Bytes.loadBytes ⟨b, i, none⟩ ns.length acc).run P w = .ok (ns.foldl (fun r n => r.push (UInt8.ofNat n.toNat)) acc) w
 | [], _, _, _ => rfl
 | n :: ns, i, acc, h => by
  have h0 := h 0 n rfl
  rw [Nat.add_zero] at h0
  have ih := qTK w b ns (i + 1) (acc.push (UInt8.ofNat n.toNat)) (fun j u hu => by
   rw [show i + 1 + j = i + (j + 1) by omega]
   exact h (j + 1) u (by simpa using hu))
  have hadd : (⟨b, i, none⟩ : Addr).add 1 = ⟨b, i + 1, none⟩ := by unfold Addr.add; split <;> simp_all
  simp only [List.length_cons, Extern.Bytes.loadBytes, List.foldl_cons]
  have hl : (load (⟨b, i, none⟩ : Addr)).run P w = .ok (.int .u8 n) w := by rw [run_load, h0]
  rw [hadd, Sem.run_bind, hl]
  exact ih
theorem QUt {ρ : Mp} {h : List AB} {w : World} (hr : Rel K ρ h w) {x : AV} {vx : Value} (hx : VR ρ x vx) {m : Nat} {cs : List AV} (hsrc : srcV h 1 x = some (m, cs)) {l : List UInt8} (hl : bytesOf cs = some l) :
  ∃ bs : ByteArray, (Extern.Bytes.bytesOf vx).run P w = .ok bs w ∧ bs = ⟨l.toArray⟩ := by
 obtain ⟨ns, rfl, rfl⟩ := JVG cs l hl
 have nil : ns.map (AV.i .u8) = [] → ns = [] := fun e => by simpa using e
 cases hx with
 | ns =>
  simp only [srcV, Option.some.injEq, Prod.mk.injEq] at hsrc
  obtain rfl := nil hsrc.2.symm
  exact ⟨.empty, rfl, rfl⟩
 | se a c hc =>
  simp only [srcV, Option.some.injEq, Prod.mk.injEq] at hsrc
  obtain rfl := nil hsrc.2.symm
  exact ⟨.empty, rfl, rfl⟩
 | s l bs h =>
  subst h
  simp only [srcV, if_true, Option.some.injEq, Prod.mk.injEq] at hsrc
  refine ⟨bs, rfl, ?_⟩
  have h2 := hsrc.2
  have key : ∀ (us : List UInt8) (zs : List Int), us.map (fun b => AV.i .u8 (b.toNat : Int)) = zs.map (AV.i .u8) → zs.map (fun n => UInt8.ofNat n.toNat) = us := by
   intro us
   induction us with
   | nil => intro zs e; cases zs with
    | nil => rfl
    | cons z zs => simp at e
   | cons u us ih =>
    intro zs e
    cases zs with
    | nil => simp at e
    | cons z zs =>
     simp only [List.map_cons, List.cons.injEq, AV.i.injEq, true_and] at e
     rw [List.map_cons, ih zs e.2, ← e.1]
     simp
  rw [key _ _ h2]
 | sz id off a c hc hn =>
  simp only [srcV, if_true, Option.some.injEq, Prod.mk.injEq] at hsrc
  obtain rfl := nil hsrc.2.symm
  cases a <;> exact ⟨.empty, rfl, rfl⟩
 | sl id off len cap k b o n cap' hρ h1 h2 h3 h4 h5 =>
  simp only [srcV] at hsrc
  split at hsrc
  ·rename_i h0
   subst h0
   simp only [Option.some.injEq, Prod.mk.injEq] at hsrc
   obtain rfl := nil hsrc.2.symm
   exact ⟨.empty, rfl, rfl⟩
  obtain ⟨xs, hxs, hsrc⟩ := Option.bind_eq_some_iff.1 hsrc
  split at hsrc
  ·rename_i hle
   simp only [Option.some.injEq, Prod.mk.injEq, Nat.mul_one] at hsrc hle
   obtain ⟨vs, g1, g2, g3⟩ := hr.win hxs hρ off len hle
   rw [hsrc.2] at g3
   have hlen := g3.1
   simp only [List.length_map, List.size_toArray] at hlen
   have hload := qTK (P := P) w b ns (o + off) .empty (fun j u hu => by
    have hj : j < ns.length := (List.getElem?_eq_some_iff.1 hu).1
    have h1 : (ns.map (AV.i .u8))[j]? = some (AV.i .u8 u) := by rw [List.getElem?_map, hu]; rfl
    have h2 := g3.2 j _ vs[j] h1 (by rw [List.getElem?_toArray]; exact List.getElem?_eq_getElem (by omega))
    have h3 := g2 j vs[j] (List.getElem?_eq_getElem (by omega))
    have hadd : (⟨b, o + off, none⟩ : Addr).add j = ⟨b, o + off + j, none⟩ := by unfold Addr.add; split <;> simp_all
    rw [hadd] at h3
    generalize vs[j] = z at h2 h3
    cases h2
    exact h3)
   have hn : ns.length = len := by omega
   rw [hn] at hload
   refine ⟨_, hload, ?_⟩
   apply ByteArray.ext
   apply Array.ext'
   rw [KUS]
   rfl
  ·cases hsrc
 | _ => cases hsrc
theorem YCp (fn : Func) (h : fn.name = "internal/bytealg.Compare" ∨ fn.name = "internal/bytealg.abigen_runtime_cmpstring") (ho : fn.origin = "") : Extern.findNext fn = none ∧ Extern.find fn = some Extern.BytealgCompare.compare := by
 have n0 : List.lookup "" Extern.allNextRows = none := by kernel_rfl
 have n1 : List.lookup "internal/bytealg.Compare" Extern.allNextRows = none := by kernel_rfl
 have n2 : List.lookup "internal/bytealg.abigen_runtime_cmpstring" Extern.allNextRows = none := by kernel_rfl
 have g1 : List.lookup "internal/bytealg.Compare" Extern.allGenericRows = none := by kernel_rfl
 have g2 : List.lookup "internal/bytealg.abigen_runtime_cmpstring" Extern.allGenericRows = none := by kernel_rfl
 have t1 : List.lookup "internal/bytealg.Compare" Extern.allTypedRows = none := by kernel_rfl
 have t2 : List.lookup "internal/bytealg.abigen_runtime_cmpstring" Extern.allTypedRows = none := by kernel_rfl
 have r1 : List.lookup "internal/bytealg.Compare" Extern.allRows = some Extern.BytealgCompare.compare := by kernel_rfl
 have r2 : List.lookup "internal/bytealg.abigen_runtime_cmpstring" Extern.allRows = some Extern.BytealgCompare.compare := by kernel_rfl
 unfold Extern.findNext Extern.find
 rcases h with h | h
 ·simp only [h, ho, n0, n1, g1, t1, r1]
  exact ⟨rfl, rfl⟩
 ·simp only [h, ho, n0, n2, g2, t2, r2]
  exact ⟨rfl, rfl⟩
theorem KFV {ρ : Mp} {h : List AB} {w : World} (hr : Rel K ρ h w) (src dst e : TypeId) (hs : P.underlying src = some .string) (hd : P.underlying dst = some (.slice e)) (he : P.underlying e = some (.int .u8)) {l : List UInt8} {vx : Value} (hx : VR ρ (.s l) vx) (hl : l.length ≤ maxLen) :
  Good K P ρ h w (convert src dst vx) (.sl h.length 0 l.length l.length (some 1), h ++ [.blk true false (l.map fun b => .i .u8 (b.toNat : Int))]) := by
 cases hx with
 | s _ bs hb =>
  have hrun := run_bytes_of_string (P := P) w src dst e bs hs hd he
  have hz : bs.size = l.length := by rw [← hb, Array.length_toList]; rfl
  have hge := grownCap_ge w bs.size 0 e
  have hle := grownCap_le_maxLen w bs.size 0 e (by rw [hz]; exact hl)
  have hsz : (bytesRow bs (grownCap w bs.size 0 e)).size = grownCap w bs.size 0 e := by
   unfold bytesRow
   simp only [Array.size_append, Array.size_map, Array.size_replicate]
   have : bs.data.size = bs.size := rfl
   omega
  obtain ⟨row, hrow⟩ : ∃ row, row = bytesRow bs (grownCap w bs.size 0 e) := ⟨_, rfl⟩
  rw [← hrow] at hrun hsz
  have hB : BR K (ρ ++ [(w.drew.heap.size, 0, row.size)]) (w.drew.alloc (.cells row e (row.size, row.size + 1))) w.drew.heap.size 0 row.size (.blk true false (l.map fun b => .i .u8 (b.toNat : Int))) := by
   refine ⟨row, e, (row.size, row.size + 1), heap_alloc_new w.drew _, fun q => absurd q (by decide), by rw [hsz]; simp; omega, fun k a c ha hc => ?_⟩
   rw [Nat.zero_add] at hc
   have hk : k < l.length := by
    have := (List.getElem?_eq_some_iff.1 ha).1
    simpa using this
   rw [hrow] at hc
   unfold bytesRow at hc
   rw [Array.getElem?_append_left (by simp; have : bs.data.size = bs.size := rfl; omega)] at hc
   rw [List.getElem?_map] at ha
   rw [Array.getElem?_map] at hc
   obtain ⟨x, hx, rfl⟩ := Option.map_eq_some_iff.1 ha
   obtain ⟨y, hy, rfl⟩ := Option.map_eq_some_iff.1 hc
   have : x = y := by
    rw [← hb, Array.getElem?_toList] at hx
    rw [hy] at hx
    cases hx
    rfl
   subst this
   exact .i _ _
  have hnew := hr.drew.new _ _ _ hB
  refine ⟨_, _, _, hrun, Ext.push _ _, hnew.1, ?_, (Eff.drew ρ h w).trans hnew.2⟩
  rw [hz] at hge hle hsz ⊢
  have := VR.sl (ρ := ρ ++ [(w.drew.heap.size, 0, row.size)]) h.length 0 l.length l.length (some 1) w.heap.size 0 _ (grownCap w l.length 0 e) (Qpf ρ h _ hr.len) (Nat.le_refl _) hge hle (fun hk => by cases hk) (fun z' hz' _ => by
   cases hz'
   omega)
  simpa using this
theorem qYj {ρ : Mp} {h : List AB} {w : World} (hr : Rel K ρ h w) {g : FuncId} {fn : Func} (hf : P.funcs[g]? = some fn) (hname : fn.name = "internal/bytealg.Compare" ∨ fn.name = "internal/bytealg.abigen_runtime_cmpstring") (ho : fn.origin = "") (hb : fn.body.isNone = true)
  {x y : AV} {vx vy : Value} (hx : VR ρ x vx) (hy : VR ρ y vy) {r : AV × List AB}
  (er : ((srcV h 1 x).bind fun (_, xs) => (srcV h 1 y).bind fun (_, ys) => (bytesOf xs).bind fun l => (bytesOf ys).map fun m => (AV.i .i64 (Extern.BytealgCompare.cmp ⟨l.toArray⟩ ⟨m.toArray⟩), h)) = some r) :
  ∃ v', (callFunc g #[vx, vy]).run P w = .ok (.value v') w ∧ VR ρ r.1 v' ∧ r.2 = h := by
 obtain ⟨⟨m1, xs⟩, s1, er⟩ := Option.bind_eq_some_iff.1 er
 obtain ⟨⟨m2, ys⟩, s2, er⟩ := Option.bind_eq_some_iff.1 er
 obtain ⟨l, b1, er⟩ := Option.bind_eq_some_iff.1 er
 obtain ⟨m, b2, rfl⟩ := Option.map_eq_some_iff.1 er
 obtain ⟨B1, e1, rfl⟩ := QUt (P := P) hr hx s1 b1
 obtain ⟨B2, e2, rfl⟩ := QUt (P := P) hr hy s2 b2
 obtain ⟨f1, f2⟩ := YCp fn hname ho
 refine ⟨.int .i64 (Extern.BytealgCompare.cmp ⟨l.toArray⟩ ⟨m.toArray⟩), ?_, .i _ _, rfl⟩
 rw [run_callFunc_extern hf (by rcases hname with h | h <;> rw [h] <;> decide) hb f1 f2]
 have : (Extern.BytealgCompare.compare #[vx, vy]).run P w = .ok (.int .i64 (Extern.BytealgCompare.cmp ⟨l.toArray⟩ ⟨m.toArray⟩)) w := by
  change Sem.run P (do pure (goInt (Extern.BytealgCompare.cmp (← Extern.Bytes.bytesOf vx) (← Extern.Bytes.bytesOf vy)))) w = _
  simp [e1, e2, goInt]
 rw [this]
 rfl
theorem YJp {ρ : Mp} {h : List AB} {w : World} (hr : Rel K ρ h w) (t ty e : TypeId) (ht : P.underlying t = some (.slice e)) {ie : TypeInfo} (hie : P.info? e = some ie) {z : Value} (hz : ie.zero = some z) (hzs : z.cells.size = ie.size) (hs0 : ie.size ≠ 0) {zl : List AV} (hzl : VL ρ zl z.cells)
  {x : AV} {r : AV × List AB} (er : (match x with
   | .ns => some (AV.tu [], h)
   | .se => some (.tu [], h)
   | .sl id off len _ _ => if len = 0 then some (.tu [], h) else (stB h id off ((List.replicate len zl).flatten)).map (.tu [], ·)
   | _ => none) = some r) {vx : Value} (hx : VR ρ x vx) : Good K P ρ h w (Builtin.clear_ #[t] ty #[vx]) r := by
 have u : VR ρ (.tu []) (.tuple #[]) := .tu [] #[] rfl (fun j a c h => by simp at h)
 cases hx with
 | ns =>
  cases er
  exact ⟨.tuple #[], w, ρ, by simp [Builtin.clear_, run_underlying ht], Ext.refl _, hr, u, Eff.refl _ _ _⟩
 | se a c hc =>
  cases er
  exact ⟨.tuple #[], w, ρ, by simp [Builtin.clear_, run_underlying ht], Ext.refl _, hr, u, Eff.refl _ _ _⟩
 | sz id off a c hc hn =>
  simp only [if_true] at er
  cases er
  exact ⟨.tuple #[], w, ρ, by cases a <;> simp [Builtin.clear_, run_underlying ht], Ext.refl _, hr, u, Eff.refl _ _ _⟩
 | sl id off len cap k b o n cap' hρ h1 h2 h3 h4 h5 =>
  simp only at er
  split at er
  ·rename_i hl
   subst hl
   cases er
   exact ⟨.tuple #[], w, ρ, by simp [Builtin.clear_, run_underlying ht], Ext.refl _, hr, u, Eff.refl _ _ _⟩
  ·rename_i hl
   obtain ⟨h', hst, rfl⟩ := Option.map_eq_some_iff.1 er
   have hY := zLQ (ρ := ρ) hzs hs0 hzl len
   obtain ⟨w', g1, g2, g3⟩ := zZ5 (P := P) hr hst hρ (vs := ((Array.range (len * ie.size)).map (z.cells[· % z.cells.size]!)).toList) (by rw [Array.toArray_toList]; exact hY)
   refine ⟨.tuple #[], w', ρ, ?_, Ext.refl _, g2, u, g3⟩
   obtain ⟨q, rfl⟩ : ∃ q, len = q + 1 := ⟨len - 1, by omega⟩
   have hzc : Builtin.zeroCells z.cells (q + 1) = (Array.range ((q + 1) * ie.size)).map (z.cells[· % z.cells.size]!) := by
    rw [← hzs]
    rfl
   rw [← hzc] at g1
   simp [Builtin.clear_, run_underlying ht, zeroValue, typeInfo, hie, hz, g1]
 | _ => cases er
end
end Go.Proofs.Ytpoojfnmhnedpaa
end
section
namespace Go.Proofs.Ytpoojfnmhnedpaa
open Go.RowKit
def absS : Value → Option AV
 | .bool b => some (.b b)
 | .int k n => some (.i k n)
 | .string s => some (.s s.data.toList)
 | .pointer none => some .np
 | .slice none 0 0 => some .ns
 | .nilFunc => some .nf
 | .nilIface => some .ni
 | _ => none
def absL : List Value → Option (List AV)
 | [] => some []
 | v :: vs => (absS v).bind fun a => (absL vs).map (a :: ·)
def absV : Value → Option AV
 | .agg cs => (absL cs.toList).map .ag
 | .tuple cs => (absL cs.toList).map .tu
 | v => absS v
theorem Zfb (ρ : Mp) {v : Value} {a : AV} (h : absS v = some a) : VR ρ a v := by
 cases v with
 | bool b => cases h; exact .b b
 | int k n => cases h; exact .i k n
 | string s => cases h; exact .s _ _ rfl
 | pointer p => cases p <;> cases h; exact .np
 | slice a n c =>
  cases a with
  | none =>
   cases n <;> cases c <;> simp [absS] at h
   subst h
   exact .ns
  | some _ => cases h
 | nilFunc => cases h; exact .nf
 | nilIface => cases h; exact .ni
 | _ => cases h
theorem Yki (ρ : Mp) : ∀ {l : List Value} {az : List AV}, absL l = some az → VL ρ az l.toArray
 | [], az, h => by cases h; exact VL.nil ρ
 | v :: vs, az, h => by
  simp only [absL] at h
  obtain ⟨a, ha, h⟩ := Option.bind_eq_some_iff.1 h
  obtain ⟨bs, hb, rfl⟩ := Option.map_eq_some_iff.1 h
  exact VL.cons (Zfb ρ ha) (Yki ρ hb)
theorem KnR (ρ : Mp) {cs : Array Value} {az : List AV} (h : absL cs.toList = some az) : VL ρ az cs := by
 have := Yki ρ h
 simpa using this
theorem zEj (ρ : Mp) {v : Value} {a : AV} (h : absV v = some a) : VR ρ a v := by
 cases v with
 | agg cs =>
  obtain ⟨az, h2, rfl⟩ := Option.map_eq_some_iff.1 h
  exact YLl (KnR ρ h2)
 | tuple cs =>
  obtain ⟨az, h2, rfl⟩ := Option.map_eq_some_iff.1 h
  have := KnR ρ h2
  exact .tu _ _ this.1 this.2
 | _ => exact Zfb ρ h
def cOpd : Operand → Option Opd
 | .tmp t => some (.t t)
 | .const v => (absV v).map .c
 | .func f => some (.c (.f (.func f) [] []))
 | .global _ => none
def Yok : Option Operand → Option (Option Opd)
 | none => some none
 | some x => (cOpd x).map some
def qGz : List Operand → Option (List Opd)
 | [] => some []
 | x :: xs => (cOpd x).bind fun y => (qGz xs).map (y :: ·)
def szOf (P : Program) (t : TypeId) : Option Nat := (P.info? t).map (·.size)
def scal : AV → Bool
 | .b _ | .i _ _ | .s _ => true
 | _ => false
def qdW (P : Program) (t : TypeId) : Option (List AV) := (P.info? t).bind fun i => i.zero.bind fun z => absL z.cells.toList
def agN (P : Program) (t : TypeId) : Option (Option Nat) := (P.underlying t).bind fun d => (P.info? t).map fun i => if isAg d then some i.size else none
def XK0 : Operand → Bool
 | .const _ => true
 | _ => false
def Ybx : Operand → Option TypeDesc → Bool
 | .const (.slice none 0 0), some (.slice _) => true
 | .const (.pointer none), some (.pointer _) => true
 | .const .nilFunc, some (.func ..) => true
 | .const .nilIface, some (.interface _) => true
 | _, _ => false
def cBin (P : Program) (op : BinOp) (t : TypeId) (x y : Operand) : Option CO :=
 (cOpd x).bind fun a => (cOpd y).bind fun b =>
 if op = .eql ∨ op = .neq then
  match P.underlying t with
  | some (.int _) | some .string => some (.bin op a b)
  | some .bool => some (.eqb (op == .neq) a b)
  | some (.struct _) | some (.array _ _) => if P.eqGuardType P.depth t = false then (ckOf P 20 t).map fun ks => .eqc ks (op == .neq) a b else none
  | d => if Ybx x d || Ybx y d then some (.eqn (op == .neq) a b) else none
 else some (.bin op a b)
def QbA (P : Program) (src dst : TypeId) (x : Operand) : Option CO :=
 (cOpd x).bind fun a =>
 match P.underlying src, P.underlying dst with
 | some (.int _), some (.int k) => some (.cvi k a)
 | some .string, some .string => some (.cvs a)
 | some (.slice e), some .string => match P.underlying e with
  | some (.int .u8) => some (.b2s a)
  | _ => none
 | some .string, some (.slice e) => match P.underlying e with
  | some (.int .u8) => some (.s2b a)
  | _ => none
 | _, _ => none
def Xyp (P : Program) (s : TypeId) (f : Nat) : Option (Nat × Option Nat × Nat) :=
 match P.underlying s with
 | some (.struct fs) => (fs[f]?).bind fun fd => (agN P fd.type).bind fun n => (szOf P fd.type).map fun k => (fd.offset, n, k)
 | _ => none
def ZsI (P : Program) (fs : List Field) : Option (List (Nat × Nat)) :=
 match fs with
 | [] => some []
 | f :: fs => (szOf P f.type).bind fun n => (ZsI P fs).map ((f.offset, n) :: ·)
def Xh4 (place : Nat → Option (Nat × Nat)) : List (Nat × Operand) → Option (List (Nat × Nat × Opd))
 | [] => some []
 | (i, x) :: ps => (place i).bind fun q => (cOpd x).bind fun a => (Xh4 place ps).map ((q.1, q.2, a) :: ·)
def KQb (P : Program) : Builtin → List Operand → List TypeId → Option CO
 | .len, [x], [t] => (cOpd x).bind fun a => match P.underlying t with
  | some .string => some (.len true a)
  | some (.slice _) => some (.len false a)
  | some (.array n _) => some (.lnc n)
  | _ => none
 | .max, [x, y], _ => (cOpd x).bind fun a => (cOpd y).map fun b => .mm true a b
 | .min, [x, y], _ => (cOpd x).bind fun a => (cOpd y).map fun b => .mm false a b
 | .append, [x, y], [t, tx] => (cOpd x).bind fun a => (cOpd y).bind fun b => match P.underlying t, P.underlying tx with
  | some (.slice e), some (.slice _) => (P.info? e).bind fun ie => (qdW P e).bind fun zs => if zs.length = ie.size then some (.app false (zs.all scal) ie.size ie.bytes a b) else none
  | some (.slice e), some .string => (P.info? e).bind fun ie => (qdW P e).bind fun zs => if zs.length = ie.size then some (.app true (zs.all scal) ie.size ie.bytes a b) else none
  | some (.slice e), some (.int _) => (P.info? e).bind fun ie => (qdW P e).bind fun zs => if zs.length = ie.size ∧ ie.size ≠ 0 then some (.apz (zs.all scal) zs ie.bytes a b) else none
  | _, _ => none
 | .copy, [x, y], [t, tx] => (cOpd x).bind fun a => (cOpd y).bind fun b => match P.underlying t, P.underlying tx with
  | some (.slice e), some (.slice _) => (szOf P e).map fun n => .cpy false n a b
  | some (.slice e), some .string => (szOf P e).map fun n => .cpy true n a b
  | _, _ => none
 | .cap, [x], [t] => (cOpd x).bind fun a => match P.underlying t with
  | some (.slice _) => some (.capo a)
  | _ => none
 | .clear, [x], [t] => (cOpd x).bind fun a => match P.underlying t with
  | some (.slice e) => (P.info? e).bind fun ie => (qdW P e).bind fun zs => if zs.length = ie.size ∧ ie.size ≠ 0 then some (.clr zs a) else none
  | _ => none
 | _, _, _ => none
def X4p (P : Program) : Operand → Bool
 | .func g => match P.funcs[g]? with
  | some fn => (fn.name == "internal/bytealg.Compare" || fn.name == "internal/bytealg.abigen_runtime_cmpstring") && fn.origin == "" && fn.body.isNone
  | none => false
 | _ => false
def Z7n (P : Program) (c : Call) : Option CO :=
 match c.callee with
 | .builtin b => KQb P b c.args.toList c.argTypes.toList
 | .value f => match X4p P f, c.args.toList with
  | true, [x, y] => (cOpd x).bind fun a => (cOpd y).map fun b => .bcmp a b
  | _, l => (cOpd f).bind fun a => (qGz l).map fun l => .call a l
 | .invoke _ _ => none
def zwm (P : Program) : Op → Option CO
 | .move x | .assign x => (cOpd x).map .mv
 | .pick c a b => (cOpd c).bind fun c => (cOpd a).bind fun a => (cOpd b).map fun b => .pick c a b
 | .alloc e => (qdW P e).map fun zs => .new (zs.all scal) zs
 | .box e x => (cOpd x).bind fun a => (qdW P e).map fun zs => .box (zs.all scal) zs.length a
 | .build t ps => (qdW P t).bind fun zs => match P.underlying t with
  | some (.struct fs) => (ZsI P fs.toList).bind fun pl => (Xh4 (pl[·]?) ps.toList).map fun q => .bld zs q
  | some (.array _ e) => (szOf P e).bind fun n => (Xh4 (fun k => some (k * n, n)) ps.toList).map fun q => .bld zs q
  | _ => none
 | .buildSlice t len ps => match P.underlying t with
  | some (.slice e) => (P.info? e).bind fun ie => ie.zero.bind fun z =>
    (absL (((Array.range (len * ie.size)).map (z.cells[· % z.cells.size]!)).toList)).bind fun zs => (qdW P e).bind fun ze =>
    if len * ie.size ≤ 2 ^ 24 ∧ len ≤ maxLen then (Xh4 (fun k => some (k * ie.size, ie.size)) ps.toList).map fun q => .bls (ze.all scal) len zs q else none
  | _ => none
 | .load t x => (cOpd x).bind fun a => (agN P t).map fun n => .ld n a
 | .store t x y => (cOpd x).bind fun a => (cOpd y).bind fun b => (agN P t).bind fun n => if n = none → szOf P t = some 1 then some (.st n a b) else none
 | .nilCheck x => (cOpd x).map .nck
 | .binOp op t x y _ => cBin P op t x y
 | .unOp op _ x => (cOpd x).map (.un op)
 | .convert src dst x => QbA P src dst x
 | .makeInterface t x => (cOpd x).bind fun a => match P.underlying t with
  | none | some (.interface _) => none
  | _ => some (.ifc t a)
 | .makeFunc fn first cap => (qGz first.toList).bind fun a => (qGz cap.toList).map fun b => .mkf fn a b
 | .makeSlice t l c => (cOpd l).bind fun a => (cOpd c).bind fun b => match P.underlying t with
  | some (.slice e) => (P.info? e).bind fun ie => (qdW P e).bind fun zs => if zs.length = ie.size ∧ ie.size ≠ 0 then some (.mks (zs.all scal) zs ie.bytes a b) else none
  | _ => none
 | .slice t x lo hi mx => (cOpd x).bind fun a => (Yok lo).bind fun lo => (Yok hi).bind fun hi => (Yok mx).bind fun mx => match P.underlying t with
  | some .string => if mx.isNone then some (.sls a lo hi) else none
  | some (.slice e) => (szOf P e).map fun n => .sll n a lo hi mx
  | some (.array k e) => if k ≤ maxLen then (szOf P e).map fun n => .sla k n a lo hi mx else none
  | _ => none
 | .fieldAddr s x f => (cOpd x).bind fun a => (Xyp P s f).bind fun (off, _, k) => if k ≠ 0 then some (.fad off a) else none
 | .field s x f => (cOpd x).bind fun a => (Xyp P s f).map fun (off, n, _) => .fld off n a
 | .indexAddr t x i => (cOpd x).bind fun a => (cOpd i).bind fun b => match P.underlying t with
  | some (.slice e) => (szOf P e).map fun n => .iad n a b
  | some (.array k e) => (szOf P e).map fun n => .iaa k n a b
  | _ => none
 | .index t x i => (cOpd x).bind fun a => (cOpd i).bind fun b => match P.underlying t with
  | some .string => some (.ixs a b)
  | some (.array k e) => (szOf P e).bind fun n => (agN P e).map fun g => .ixa k n g.isSome a b
  | _ => none
 | .typeAssert x _ t ok => (cOpd x).bind fun a => ((P.info? t).bind (·.zero)).bind fun z => (absV z).bind fun zv => match P.underlying t with
  | none | some (.interface _) => none
  | _ => some (.tas a t ok zv)
 | .extract x i => (cOpd x).map fun a => .ext a i
 | .call c => Z7n P c
 | _ => none
def K4A (P : Program) (o : Op) : Option CO :=
 match o with
 | .defer _ => none
 | _ => some ((zwm P o).getD .stop)
def Z0T (P : Program) (ops : Array Oper) (o : Oper) : Option COper :=
 (K4A P o.op).bind fun op =>
 match o.guard with
 | none => some ⟨o.dst, none, op⟩
 | some (j, want) => ((ops[j]?).bind (·.dst)).map fun t => ⟨o.dst, some (t, want), op⟩
end Go.Proofs.Ytpoojfnmhnedpaa
end
section
namespace Go.Proofs.Ytpoojfnmhnedpaa
open Go.RowKit
section
variable {P : Program} {K : Code → CC → Prop}
def K7r (K : Code → CC → Prop) (P : Program) (ρ : Mp) (h : List AB) (w : World) (s : Sem Next) (r : AV × List AB) : Prop :=
 ∃ v' w' ρ', (s.run P w = .ok (.value v') w' ∨ s.run P w = .ok .skip w' ∧ v' = undef) ∧ Ext ρ ρ' ∧ Rel K ρ' r.2 w' ∧ VR ρ' r.1 v' ∧ Eff ρ h w ρ' r.2 w'
theorem Good.next {ρ : Mp} {h : List AB} {w : World} {s : Sem Value} {r : AV × List AB} (g : Good K P ρ h w s r) : K7r K P ρ h w (do let v ← s; pure (.value v)) r :=
 let ⟨v, w', ρ', e, rest⟩ := g
 ⟨v, w', ρ', .inl (by simp [e]), rest⟩
theorem Ans.next {ρ : Mp} {h : List AB} {w : World} {s : Sem Value} {a : AV} (ha : Ans P ρ s a) (hr : Rel K ρ h w) : K7r K P ρ h w (do let v ← s; pure (.value v)) (a, h) := (ha.good hr).next
def EV (ρ : Mp) (f : Operand → Value) (ev : Opd → AV) : Prop := ∀ x y, cOpd x = some y → VR ρ (ev y) (f x)
theorem EV.of {ρ : Mp} {fr : List AV} {a : Act} (h : VL ρ fr a.tmps) : EV ρ a.eval (Opd.ev fr) := fun x y e => by
 cases x with
 | tmp t =>
  cases e
  by_cases ht : t < fr.length
  ·have h1 : fr[t]? = some fr[t] := List.getElem?_eq_getElem ht
   obtain ⟨c, hc, hv⟩ := h.get h1
   simpa [Opd.ev, Act.eval, h1, List.getD, Array.getD_eq_getD_getElem?, hc] using hv
  ·have h1 : fr[t]? = none := List.getElem?_eq_none (Nat.le_of_not_lt ht)
   have h2 : a.tmps[t]? = none := Array.getElem?_eq_none (by rw [← h.1]; exact Nat.le_of_not_lt ht)
   simpa [Opd.ev, Act.eval, h1, List.getD, Array.getD_eq_getD_getElem?, h2, undef] using VR.tu (ρ := ρ) [] #[] rfl (fun j a c h => by simp at h)
 | const v =>
  obtain ⟨av, h1, rfl⟩ := Option.map_eq_some_iff.1 e
  exact zEj ρ h1
 | func f =>
  cases e
  exact .f _ [] [] #[] #[] rfl rfl (fun j a c h => by simp at h) (fun j a c h => by simp at h)
 | global g => cases e
theorem EV.vo {ρ : Mp} {f : Operand → Value} {ev : Opd → AV} (h : EV ρ f ev) {x : Option Operand} {y : Option Opd} (e : Yok x = some y) : VO ρ (y.map ev) (x.map f) := by
 cases x with
 | none => cases e; trivial
 | some x =>
  obtain ⟨z, hz, rfl⟩ := Option.map_eq_some_iff.1 e
  exact h x z hz
theorem EV.vl {ρ : Mp} {f : Operand → Value} {ev : Opd → AV} (h : EV ρ f ev) : ∀ {xs : List Operand} {ys : List Opd}, qGz xs = some ys → VL ρ (ys.map ev) (xs.map f).toArray
 | [], ys, e => by cases e; exact VL.nil ρ
 | x :: xs, ys, e => by
  simp only [qGz] at e
  obtain ⟨y, hy, e⟩ := Option.bind_eq_some_iff.1 e
  obtain ⟨zs, hz, rfl⟩ := Option.map_eq_some_iff.1 e
  exact VL.cons (h x y hy) (h.vl hz)
theorem EV.parts {ρ : Mp} {f : Operand → Value} {ev : Opd → AV} (h : EV ρ f ev) {place : Nat → Option (Nat × Nat)} : ∀ {ps : List (Nat × Operand)} {q : List (Nat × Nat × Opd)}, Xh4 place ps = some q → q9Z ρ place ev q (ps.map fun x => (x.1, f x.2))
 | [], q, e => by cases e; trivial
 | (i, x) :: ps, q, e => by
  simp only [Xh4] at e
  obtain ⟨pl, hp, e⟩ := Option.bind_eq_some_iff.1 e
  obtain ⟨a, ha, e⟩ := Option.bind_eq_some_iff.1 e
  obtain ⟨rest, hr, rfl⟩ := Option.map_eq_some_iff.1 e
  exact ⟨hp, h x a ha, h.parts hr⟩
theorem YBm {t : TypeId} {n : Nat} (h : szOf P t = some n) : ∃ i, P.info? t = some i ∧ i.size = n := Option.map_eq_some_iff.1 h
theorem Qhj {t : TypeId} {n : Option Nat} (h : agN P t = some n) : ∃ d i, P.underlying t = some d ∧ P.info? t = some i ∧ n = (if isAg d then some i.size else none) := by
 obtain ⟨d, hd, h⟩ := Option.bind_eq_some_iff.1 h
 obtain ⟨i, hi, h⟩ := Option.map_eq_some_iff.1 h
 exact ⟨d, i, hd, hi, h.symm⟩
theorem Kxv {t : TypeId} {zs : List AV} (h : qdW P t = some zs) : ∃ i z, P.info? t = some i ∧ i.zero = some z ∧ absL z.cells.toList = some zs := by
 obtain ⟨i, hi, h⟩ := Option.bind_eq_some_iff.1 h
 obtain ⟨z, hz, h⟩ := Option.bind_eq_some_iff.1 h
 exact ⟨i, z, hi, hz, h⟩
theorem zlY : ∀ (fs : List Field) (pl : List (Nat × Nat)), ZsI P fs = some pl → ∀ w, (fs.mapM fun f => do pure (f.offset, ← sizeOf f.type) : Sem (List (Nat × Nat))).run P w = .ok pl w
 | [], pl, h, w => by
  cases h
  rfl
 | f :: fs, pl, h, w => by
  simp only [ZsI] at h
  obtain ⟨n, hn, h⟩ := Option.bind_eq_some_iff.1 h
  obtain ⟨rest, hr, rfl⟩ := Option.map_eq_some_iff.1 h
  obtain ⟨i, hi, rfl⟩ := YBm hn
  have ih := zlY fs rest hr w
  simp only [List.mapM_cons, Sem.run_bind, sizeOf, typeInfo, run_program, Result.andThen_ok, hi, Sem.run_pure]
  simp only [sizeOf, typeInfo, bind_pure_comp] at ih
  simp only [bind_pure_comp, ih, Result.andThen_ok]
theorem YGU (fs : Array Field) (g : Field → Sem (Nat × Nat)) (l : List (Nat × Nat)) (w : World) (h : (fs.toList.mapM g).run P w = .ok l w) : (fs.mapM g).run P w = .ok l.toArray w := by
 rw [Array.mapM_eq_mapM_toList]
 simp [h]
theorem QL6 {ρ : Mp} {h : List AB} {w : World} (hr : Rel K ρ h w) {f : Operand → Value} {fr : List AV} (hev : EV ρ f (Opd.ev fr)) {op : BinOp} {t : TypeId} {x y : Operand} {co : CO} (hc : cBin P op t x y = some co) {r : AV × List AB} (er : co.run (Opd.ev fr) h = some r) :
  K7r K P ρ h w (do let v ← (do eqGuard op t x y (f x) (f y); binOp op t (f x) (f y)); pure (.value v)) r := by
 unfold cBin at hc
 obtain ⟨a, ha, hc⟩ := Option.bind_eq_some_iff.1 hc
 obtain ⟨b, hb, hc⟩ := Option.bind_eq_some_iff.1 hc
 have va := hev x a ha
 have vb := hev y b hb
 generalize f x = vx at va ⊢
 generalize f y = vy at vb ⊢
 have plain : (.bin op a b : CO).run (Opd.ev fr) h = some r → K7r K P ρ h w (do let v ← (do eqGuard op t x y vx vy; binOp op t vx vy); pure (.value v)) r := fun er => by
  obtain ⟨v, hv, rfl⟩ := Option.map_eq_some_iff.1 er
  exact (JrL op t x y va vb hv).next hr
 split at hc
 ·rename_i hop
  have hopn : op = (if (op == .neq) then .neq else .eql) := by rcases hop with rfl | rfl <;> rfl
  split at hc
  ·cases hc; exact plain er
  ·cases hc; exact plain er
  ·rename_i hu
   cases hc
   simp only [CO.run] at er
   split at er
   ·rename_i p q hp hq
    cases er
    rw [hp] at va
    rw [hq] at vb
    cases va
    cases vb
    have := (KCo (P := P) (ρ := ρ) (op == .neq) t hu x y p q).next hr
    rcases hop with rfl | rfl <;> exact this
   ·cases er
  ·rename_i fs hu
   split at hc
   ·rename_i hg
    obtain ⟨ks, hk, rfl⟩ := Option.map_eq_some_iff.1 hc
    simp only [CO.run] at er
    split at er
    ·rename_i l l' hl hl'
     obtain ⟨q, hq, rfl⟩ := Option.map_eq_some_iff.1 er
     rw [hl] at va
     rw [hl'] at vb
     have := (Z0b (P := P) (op == .neq) 20 t hk (by omega) (by rw [hu]; rfl) hg x y va vb hq).next hr
     rcases hop with rfl | rfl <;> exact this
    ·cases er
   ·cases hc
  ·rename_i n e hu
   split at hc
   ·rename_i hg
    obtain ⟨ks, hk, rfl⟩ := Option.map_eq_some_iff.1 hc
    simp only [CO.run] at er
    split at er
    ·rename_i l l' hl hl'
     obtain ⟨q, hq, rfl⟩ := Option.map_eq_some_iff.1 er
     rw [hl] at va
     rw [hl'] at vb
     have := (Z0b (P := P) (op == .neq) 20 t hk (by omega) (by rw [hu]; rfl) hg x y va vb hq).next hr
     rcases hop with rfl | rfl <;> exact this
    ·cases er
   ·cases hc
  ·split at hc
   ·rename_i hn
    cases hc
    simp only [CO.run] at er
    obtain ⟨q, hq, rfl⟩ := Option.map_eq_some_iff.1 er
    cases hu : P.underlying t with
    | none =>
     rw [hu] at hn
     cases x <;> cases y <;> simp [Ybx] at hn
    | some d =>
     rw [hu] at hn
     have side : ∀ {X : Operand} {A : Opd}, cOpd X = some A → Ybx X (some d) = true → (∃ v, X = .const v) ∧ JeN d (Opd.ev fr A) := by
      intro X A hX hN
      unfold Ybx at hN
      split at hN <;> first
       | (rename_i he; cases he; simp [cOpd, absV, absS] at hX; subst hX; exact ⟨⟨_, rfl⟩, rfl⟩)
       | cases hN
     have hcon : (∃ v, x = .const v) ∨ ∃ v, y = .const v := by
      rcases Bool.or_eq_true_iff.1 hn with q | q
      ·exact .inl (side ha q).1
      ·exact .inr (side hb q).1
     have hside : JeN d (Opd.ev fr a) ∨ JeN d (Opd.ev fr b) := by
      rcases Bool.or_eq_true_iff.1 hn with q | q
      ·exact .inl (side ha q).2
      ·exact .inr (side hb q).2
     have := (Y1t (P := P) (op == .neq) t hu x y hcon va vb hq hside).next hr
     rcases hop with rfl | rfl <;> exact this
   ·cases hc
 ·cases hc; exact plain er
end
end Go.Proofs.Ytpoojfnmhnedpaa
end
