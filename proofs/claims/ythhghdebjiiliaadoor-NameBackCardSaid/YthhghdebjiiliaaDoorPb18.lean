/- Part 18 of what the laws' proofs rest on. No condition. -/
import Derived.ProofKit
import Derived.OpenShut
import Derived.Test.YthhghdebjiiliaaDoorRows
import Derived.LaidMore
import Derived.Stop.Joined
import Derived.Test.YthhghdebjiiliaaDoorPb17
set_option linter.all false
section
namespace Go.Proofs.YthhghdebjiiliaaDoor
open Go.ChangeShapes Go.WideShapes Go.ChangeAt Go.RowKit
section
variable {H : Type} {enc : TypeId × Value → H} {P : Program} {w : World} {base : Nat} {spare : Nat → Bool} {held : Bool}
theorem qqQ {α β : Type} (f : α → Option β) : ∀ (l : List α) (r : List β), l.mapM f = some r → ∀ a ∈ l, ∃ b, f a = some b
 | [], _, _, a, ha => by cases ha
 | x :: l, r, h, a, ha => by
  rw [List.mapM_cons] at h
  cases hx : f x with
  | none => simp [hx] at h
  | some b =>
   cases hl : l.mapM f with
   | none => simp [hx, hl] at h
   | some bs =>
    rcases List.mem_cons.1 ha with rfl | ha
    ·exact ⟨b, hx⟩
    ·exact qqQ f l bs hl a ha
theorem QXp {α : Type} (R : Nat → α → Prop) : ∀ n, (∀ i, i < n → ∃ t, R i t) → ∃ ts : List α, ts.length = n ∧ ∀ i t, ts[i]? = some t → R i t
 | 0, _ => ⟨[], rfl, fun i t h => by simp at h⟩
 | n + 1, h => by
  obtain ⟨ts, hl, ht⟩ := QXp R n fun i hi => h i (by omega)
  obtain ⟨t, h1⟩ := h n (by omega)
  refine ⟨ts ++ [t], by simp [hl], fun i u hu => ?_⟩
  by_cases hi : i < n
  ·rw [List.getElem?_append_left (by omega)] at hu
   exact ht i u hu
  ·have hi2 : i = n := by
    have := (List.getElem?_eq_some_iff.1 hu).1
    simp [hl] at this
    omega
   subst hi2
   rw [List.getElem?_append_right (by omega)] at hu
   simp [hl] at hu
   exact hu ▸ h1
theorem ZFt {fuel : Nat} {T e : TypeId} {n : Nat} (hT : P.underlying T = some (.array n e)) {cs : List Value} {x : DataW H × List MemPlace}
  (h : DataW.trod enc P w base spare held (fuel + 1) T cs = some x) : cs.length = P.cellsOf T ∧ ∀ i, i < n → ∃ y, DataW.trod enc P w base spare held fuel e ((cs.drop (i * P.cellsOf e)).take (P.cellsOf e)) = some y := by
 simp only [DataW.trod, hT] at h
 split at h
 ·rename_i hl
  obtain ⟨xs, hxs, _⟩ := Option.map_eq_some_iff.1 h
  exact ⟨hl, fun i hi => qqQ _ _ _ hxs i (List.mem_range.2 hi)⟩
 ·cases h
theorem zR6 {fuel : Nat} {T : TypeId} {k : IntKind} (hT : P.underlying T = some (.int k)) {cs : List Value} {x : DataW H × List MemPlace}
  (h : DataW.trod enc P w base spare held fuel T cs = some x) : ∃ n, cs = [.int k n] ∧ (Lit.int k n).wf = true := by
 cases fuel with
 | zero => cases h
 | succ fuel =>
  simp only [DataW.trod, hT] at h
  split at h <;> simp_all
theorem XUK {fuel : Nat} {T : TypeId} (hT : P.underlying T = some .string) {cs : List Value} {x : DataW H × List MemPlace}
  (h : DataW.trod enc P w base spare held fuel T cs = some x) : ∃ s : ByteArray, cs = [.string s] ∧ s.size ≤ maxLen := by
 cases fuel with
 | zero => cases h
 | succ fuel =>
  simp only [DataW.trod, hT] at h
  split at h <;> simp_all
theorem qdr {n : Int} (h : (Lit.int .u8 n).wf = true) : Value.int .u8 n = .int .u8 ((UInt8.ofInt n).toNat : Int) := by
 have hb := bounds_u8 h
 congr 1
 simp only [UInt8.ofInt, UInt8.toNat_ofNat']
 omega
theorem Zo0 {n : Int} (h : (Lit.int .i64 n).wf = true) : -9223372036854775808 ≤ n ∧ n ≤ 9223372036854775807 := bounds_i64 h
end
end Go.Proofs.YthhghdebjiiliaaDoor
end
section
namespace Go.Proofs.YthhghdebjiiliaaDoor
open Go.ChangeShapes Go.WideShapes Go.ChangeAt Go.RowKit
section
variable {K : Code → CC → Prop} {ρ : Mp} {h : List AB} {w : World}
theorem In.hz (i : In K ρ h w) : h.map AB.freeze = h := by
 refine List.ext_getElem? fun j => ?_
 rw [List.getElem?_map]
 cases e : h[j]? with
 | none => rfl
 | some B =>
  have := i.frz B (List.mem_of_getElem? e)
  rw [Option.map_some]
  congr 1
  cases B <;> first | rfl | (cases this; done) | (simp only [AB.mut] at this; subst this; rfl)
end
section
variable {H : Type} {enc : TypeId × Value → H} {w : World} {base : Nat} {held : Bool}
theorem YAj {fuel : Nat} {i : Int} {x : DataW H × List MemPlace} (h : DataW.trod enc Tryd.prog w base (fun _ => true) held fuel 5 [.int .u8 i] = some x) : 0 ≤ i ∧ i ≤ 255 := by
 obtain ⟨n, e, hw⟩ := zR6 Tryd.underlying5 h
 cases e
 exact bounds_u8 hw
theorem ZEC {fuel : Nat} {i : Int} {x : DataW H × List MemPlace} (h : DataW.trod enc Tryd.prog w base (fun _ => true) held fuel 3 [.int .i64 i] = some x) : -9223372036854775808 ≤ i ∧ i ≤ 9223372036854775807 := by
 obtain ⟨n, e, hw⟩ := zR6 Tryd.underlying3 h
 cases e
 exact Zo0 hw
end
end Go.Proofs.YthhghdebjiiliaaDoor
end
section
namespace Go.Proofs.YthhghdebjiiliaaDoor
open Go.ChangeShapes Go.WideShapes Go.ChangeAt Go.RowKit
section
variable {H : Type} {enc : TypeId × Value → H} {w : World} {base : Nat} {held : Bool}
theorem qxL {fuel : Nat} {cs : List Value} {x : DataW H × List MemPlace} (h : DataW.trod enc Tryd.prog w base (fun _ => true) held fuel 23 cs = some x) : ∃ i : Dg, cs = (idR.f i).map AV.val := by
 cases fuel with
 | zero => cases h
 | succ fuel =>
  obtain ⟨hl, he⟩ := ZFt Tryd.underlying23 h
  have hl2 : cs.length = 32 := hl.trans (by kernel_rfl)
  have h1 : Tryd.prog.cellsOf 5 = 1 := by kernel_rfl
  obtain ⟨d, hd, hdt⟩ := QXp (fun i (c : UInt8) => cs[i]? = some (.int .u8 (c.toNat : Int))) 32 fun i hi => by
   obtain ⟨y, hy⟩ := he i hi
   rw [h1] at hy
   obtain ⟨n, hn, hw⟩ := zR6 Tryd.underlying5 hy
   refine ⟨UInt8.ofInt n, ?_⟩
   have e : ((cs.drop (i * 1)).take 1)[0]? = some (.int .u8 n) := by rw [hn]; rfl
   rw [List.getElem?_take_of_lt (by omega), List.getElem?_drop, qdr hw] at e
   simpa using e
  refine ⟨⟨d, hd⟩, ?_⟩
  apply List.ext_getElem?
  intro i
  show cs[i]? = ((d.map u8A).map AV.val)[i]?
  rw [List.map_map]
  by_cases hi : i < 32
  ·rw [List.getElem?_map, List.getElem?_eq_getElem (by omega : i < d.length), Option.map_some, hdt i _ (List.getElem?_eq_getElem (by omega : i < d.length))]
   rfl
  ·rw [List.getElem?_eq_none (by omega), List.getElem?_eq_none (by rw [List.length_map]; omega)]
theorem Yqk {v : Value} {l : List Value} (e : v.cells.toList = l) (h : l.length ≠ 1) : v = .agg l.toArray := by
 subst e
 cases v <;> first | (simp [Value.cells] at h; done) | (simp [Value.cells])
end
end Go.Proofs.YthhghdebjiiliaaDoor
end
section
namespace Go.Proofs.YthhghdebjiiliaaDoor
open Go.ChangeShapes Go.WideShapes Go.ChangeAt Go.RowKit
section
variable {H : Type} {enc : TypeId × Value → H} {w : World} {base : Nat} {held : Bool}
theorem ZkJ {fuel : Nat} {s : ByteArray} {x : DataW H × List MemPlace} (h : DataW.trod enc Tryd.prog w base (fun _ => true) held fuel 9 [.string s] = some x) : s.data.toList.length ≤ maxLen := by
 obtain ⟨s', e, hl⟩ := XUK Tryd.underlying9 h
 cases e
 rw [Array.length_toList]
 exact hl
end
end Go.Proofs.YthhghdebjiiliaaDoor
end
section
namespace Go.Proofs.YthhghdebjiiliaaDoor
open Go.ChangeShapes Go.WideShapes Go.ChangeAt Go.RowKit
theorem Tryd.own : ownKnob Tryd.prog.godebug = none := by kernel_rfl
theorem Tryd.laidOut : laidOutB Tryd.prog = true := by kernel_rfl
section
variable {H : Type} {enc : TypeId × Value → H} {P : Program}
theorem JWA (hl : laidOutB P = true) {W W' : World} (hb : Below W.heap.size W W') : ∀ (ts : List TypeId) (vs : List Value) (ds : List (DataW H)) (ps : List MemPlace),
  (∀ t ∈ ts, P.readableRec t = true ∧ t < P.types.size) → DataW.TrodAll enc P W 0 (fun _ => true) true ts vs ds ps → (∀ x ∈ ps, x.block < W.heap.size) →
  DataW.TrodAll enc P W' 0 (fun b => decide (b < W.heap.size)) true ts vs ds ps
 | [], vs, ds, ps, _, h, _ => by
  obtain ⟨rfl, rfl, rfl⟩ := trodAll_nil h
  exact trodAll_mk0
 | t :: ts, vs, ds, ps, ht, h, hp => by
  obtain ⟨v, vs', d, ds', p, p', rfl, rfl, rfl, h0, r0⟩ := trodAll_cons h
  exact trodAll_cons_mk (Below.trod hl (ht t (.head _)).1 (ht t (.head _)).2 h0 hb fun x hx => hp x (List.mem_append.2 (.inl hx)))
   (JWA hl hb ts vs' ds' p' (fun t' h' => ht t' (.tail _ h')) r0 fun x hx => hp x (List.mem_append.2 (.inr hx)))
theorem zCx (hl : laidOutB P = true) {f : Func} {s : ChangeSpec} {W W' : World} {args : Array Value} {ds gs : List (DataW H)} {before : List MemPlace} {tb : TypeId} (hb : P.underlying tb = some .bool)
  (hr : f.resultTypes = #[tb]) (hv : s.vars = []) (hfn : s.fn H (ds ++ gs) = { results := [.lit (.bool true)], args := ds })
  (hp0 : (f.params.toList.all fun t => P.readableRec t && decide (t < P.types.size)) = true)
  (hW : DataW.Whole enc P f.params.toList s.vars false W args.toList ds gs before) (hk : Kept NoS W W') :
  s.post enc P f false true false false W args (.bool true) W' := by
 have hp : ∀ t ∈ f.params.toList, P.readableRec t = true ∧ t < P.types.size := fun t ht => by
  have := List.all_eq_true.1 hp0 t ht
  simpa using this
 have hbw : Below W.heap.size W W' := hk.below (Nat.le_refl _) fun _ _ e => e.elim
 have hlt := hW.lt
 have hW' := hW
 obtain ⟨p, q, hA, hV, rfl, _, _⟩ := hW
 refine ⟨ds, gs, p ++ q, [], p, [], hW', ?_, ?_, ?_, ?_, fun h => by cases h⟩
 ·rw [hfn, hr]
  exact trodAll_cons_mk (shut_bool hb _) trodAll_mk0
 ·rw [hfn]
  exact JWA hl hbw _ _ _ _ hp hA fun x hx => hlt x (List.mem_append.2 (.inl hx))
 ·rw [hfn, hv] 
  rw [hv] at hV
  obtain ⟨rfl, rfl⟩ := trodVars_none hV
  exact hV
 ·exact hbw.frame _
end
end Go.Proofs.YthhghdebjiiliaaDoor
end
section
namespace Go.Proofs.YthhghdebjiiliaaDoor
open Go.ChangeShapes Go.WideShapes Go.ChangeAt Go.RowKit
abbrev JBL : List (String × DataW Unit) := [("unicode.properties", Rows.laid_unicode_properties)]
set_option maxRecDepth 100000 in
theorem YD0 : (Rows.laid_unicode_properties : DataW Unit) = Lib.tabData .u8 Lib.propertiesTab := by kernel_rfl
theorem Jsc (os : Os) (args : Array Value) : laidMetH Tryd.prog JBL ((World.doorLaid Tryd.prog 14 os).forCall (fun _ _ => 0) ⟨#[], args, []⟩).memory :=
 laidMetH_of_parts3 (fuel := 8) (laidMet_of_run' 8 (by kernel_rfl) (by kernel_rfl)) (by kernel_rfl) (by kernel_rfl)
theorem zwi {W : World} (h : laidMetH Tryd.prog JBL W) : ∃ N, GG N W := by
 rw [MakeChecks.laidMetH_plain _ _ _ (by kernel_rfl)] at h
 have h' : laidMet Tryd.prog [("unicode.properties", Lib.tabData .u8 Lib.propertiesTab)] W := by
  rw [← YD0]; exact h
 have ht := Lib.tabIs_of_head (g := 0) (t := 69) (e := 5) (n := 256) (by kernel_rfl) (by kernel_rfl) (by kernel_rfl) (by kernel_rfl) (by kernel_rfl) (by kernel_rfl) h'
 have h0 := ht.cell (g := 0) (by kernel_rfl)
 have hb : ∃ cs e fz, W.heap[0]? = some (.cells cs e fz) := by
  have := h0 0 (by rw [Lib.propertiesTab_length]; decide)
  unfold World.cell? at this
  split at this
  ·rename_i c e fz hb
   exact ⟨c, e, fz, hb⟩
  ·cases this
 obtain ⟨cs, e, fz, hb⟩ := hb
 refine ⟨W.heap.size, Nat.le_refl _, (Array.getElem?_eq_some_iff.1 hb).1, cs, e, fz, hb, fun i hi => ?_⟩
 have := h0 i (by rw [Lib.propertiesTab_length]; exact hi)
 unfold World.cell? at this
 simp only [hb, Option.isSome_none, Bool.false_eq_true, if_false] at this
 simpa using this
end Go.Proofs.YthhghdebjiiliaaDoor
end
