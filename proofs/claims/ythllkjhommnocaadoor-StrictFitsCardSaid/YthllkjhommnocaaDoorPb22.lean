/- Part 22 of what the laws' proofs rest on. No condition. -/
import Derived.ProofKit
import Derived.OpenShut
import Derived.Test.YthllkjhommnocaaDoorRows
import Derived.LaidMore
import Derived.Stop.Joined
import Derived.Lib.LaidTab
import Derived.Test.YthllkjhommnocaaDoorPb21
set_option linter.all false
section
namespace Go.Proofs.YthllkjhommnocaaDoor
open Go.ChangeShapes Go.WideShapes Go.ChangeAt Go.RowKit
section
variable {H : Type} {enc : TypeId × Value → H} {P : Program} {w : World} {base : Nat} {spare : Nat → Bool} {held : Bool}
theorem XUK {fuel : Nat} {T : TypeId} (hT : P.underlying T = some .string) {cs : List Value} {x : DataW H × List MemPlace}
  (h : DataW.trod enc P w base spare held fuel T cs = some x) : ∃ s : ByteArray, cs = [.string s] ∧ s.size ≤ maxLen := by
 cases fuel with
 | zero => cases h
 | succ fuel =>
  simp only [DataW.trod, hT] at h
  split at h <;> simp_all
end
end Go.Proofs.YthllkjhommnocaaDoor
end
section
namespace Go.Proofs.YthllkjhommnocaaDoor
open Go.ChangeShapes Go.WideShapes Go.ChangeAt Go.RowKit
section
variable {K : Code → CC → Prop} {ρ : Mp} {h : List AB} {w : World}
theorem In.hz (i : In K ρ h w) : h.map AB.freeze = h := by
 refine List.ext_getElem? fun j => ?_
 rw [List.getElem?_map]
 cases e : h[j]? with
 | none => rfl
 | some B =>
  have := i.frz B (List.mem_of_getElem? e)
  rw [Option.map_some]
  congr 1
  cases B <;> first | rfl | (cases this; done) | (simp only [AB.mut] at this; subst this; rfl)
end
section
variable {H : Type} {enc : TypeId × Value → H} {w : World} {base : Nat} {held : Bool}
end
end Go.Proofs.YthllkjhommnocaaDoor
end
section
namespace Go.Proofs.YthllkjhommnocaaDoor
open Go.ChangeShapes Go.WideShapes Go.ChangeAt Go.RowKit
section
variable {H : Type} {enc : TypeId × Value → H} {w : World} {base : Nat} {held : Bool}
theorem ZkJ {fuel : Nat} {s : ByteArray} {x : DataW H × List MemPlace} (h : DataW.trod enc Tryd.prog w base (fun _ => true) held fuel 9 [.string s] = some x) : s.data.toList.length ≤ maxLen := by
 obtain ⟨s', e, hl⟩ := XUK Tryd.underlying9 h
 cases e
 rw [Array.length_toList]
 exact hl
end
end Go.Proofs.YthllkjhommnocaaDoor
end
section
namespace Go.Proofs.YthllkjhommnocaaDoor
open Go.ChangeShapes Go.WideShapes Go.ChangeAt Go.RowKit
theorem Tryd.own : ownKnob Tryd.prog.godebug = none := by kernel_rfl
theorem Tryd.laidOut : laidOutB Tryd.prog = true := by kernel_rfl
section
variable {H : Type} {enc : TypeId × Value → H} {P : Program}
theorem JWA (hl : laidOutB P = true) {W W' : World} (hb : Below W.heap.size W W') : ∀ (ts : List TypeId) (vs : List Value) (ds : List (DataW H)) (ps : List MemPlace),
  (∀ t ∈ ts, P.readableRec t = true ∧ t < P.types.size) → DataW.TrodAll enc P W 0 (fun _ => true) true ts vs ds ps → (∀ x ∈ ps, x.block < W.heap.size) →
  DataW.TrodAll enc P W' 0 (fun b => decide (b < W.heap.size)) true ts vs ds ps
 | [], vs, ds, ps, _, h, _ => by
  obtain ⟨rfl, rfl, rfl⟩ := trodAll_nil h
  exact trodAll_mk0
 | t :: ts, vs, ds, ps, ht, h, hp => by
  obtain ⟨v, vs', d, ds', p, p', rfl, rfl, rfl, h0, r0⟩ := trodAll_cons h
  exact trodAll_cons_mk (Below.trod hl (ht t (.head _)).1 (ht t (.head _)).2 h0 hb fun x hx => hp x (List.mem_append.2 (.inl hx)))
   (JWA hl hb ts vs' ds' p' (fun t' h' => ht t' (.tail _ h')) r0 fun x hx => hp x (List.mem_append.2 (.inr hx)))
theorem zCx (hl : laidOutB P = true) {f : Func} {s : ChangeSpec} {W W' : World} {args : Array Value} {ds gs : List (DataW H)} {before : List MemPlace} {tb : TypeId} (hb : P.underlying tb = some .bool)
  (hr : f.resultTypes = #[tb]) (hv : s.vars = []) (hfn : s.fn H (ds ++ gs) = { results := [.lit (.bool true)], args := ds })
  (hp0 : (f.params.toList.all fun t => P.readableRec t && decide (t < P.types.size)) = true)
  (hW : DataW.Whole enc P f.params.toList s.vars false W args.toList ds gs before) (hk : Kept NoS W W') :
  s.post enc P f false true false false W args (.bool true) W' := by
 have hp : ∀ t ∈ f.params.toList, P.readableRec t = true ∧ t < P.types.size := fun t ht => by
  have := List.all_eq_true.1 hp0 t ht
  simpa using this
 have hbw : Below W.heap.size W W' := hk.below (Nat.le_refl _) fun _ _ e => e.elim
 have hlt := hW.lt
 have hW' := hW
 obtain ⟨p, q, hA, hV, rfl, _, _⟩ := hW
 refine ⟨ds, gs, p ++ q, [], p, [], hW', ?_, ?_, ?_, ?_, fun h => by cases h⟩
 ·rw [hfn, hr]
  exact trodAll_cons_mk (shut_bool hb _) trodAll_mk0
 ·rw [hfn]
  exact JWA hl hbw _ _ _ _ hp hA fun x hx => hlt x (List.mem_append.2 (.inl hx))
 ·rw [hfn, hv] 
  rw [hv] at hV
  obtain ⟨rfl, rfl⟩ := trodVars_none hV
  exact hV
 ·exact hbw.frame _
end
end Go.Proofs.YthllkjhommnocaaDoor
end
section
namespace Go.Proofs.YthllkjhommnocaaDoor
open Go.ChangeShapes Go.WideShapes Go.ChangeAt Go.RowKit
abbrev JBL : List (String × DataW Unit) := [("unicode.properties", Rows.laid_unicode_properties)]
theorem Jsc (os : Os) (args : Array Value) : laidMetH Tryd.prog JBL ((World.doorLaid Tryd.prog 14 os).forCall (fun _ _ => 0) ⟨#[], args, []⟩).memory :=
 laidMetH_of_parts3 (fuel := 8) (laidMet_of_run' 8 (by kernel_rfl) (by kernel_rfl)) (by kernel_rfl) (by kernel_rfl)
end Go.Proofs.YthllkjhommnocaaDoor
end
