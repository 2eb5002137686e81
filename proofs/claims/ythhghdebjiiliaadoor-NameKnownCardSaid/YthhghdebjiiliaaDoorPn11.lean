/- Part 11 of what the laws' proofs rest on. No condition. -/
import Derived.Test.YthhghdebjiiliaaDoorRows
import Derived.ProofKit
import Derived.OpenShut
import Derived.Test.YthhghdebjiiliaaDoorPn10
set_option linter.all false
section
namespace Go.Proofs.YthhghdebjiiliaaDoor
open Go.ChangeShapes Go.WideShapes Go.ChangeAt Go.RowKit
theorem Tryd.own : ownKnob Tryd.prog.godebug = none := by kernel_rfl
theorem Tryd.laidOut : laidOutB Tryd.prog = true := by kernel_rfl
section
variable {H : Type} {enc : TypeId × Value → H} {P : Program}
theorem QAG (hl : laidOutB P = true) {W W' : World} (hb : Below W.heap.size W W') : ∀ (ts : List TypeId) (vs : List Value) (ds : List (DataW H)) (ps : List MemPlace),
  (∀ t ∈ ts, P.readableRec t = true ∧ t < P.types.size) → DataW.TrodAll enc P W 0 (fun _ => true) true ts vs ds ps → (∀ x ∈ ps, x.block < W.heap.size) →
  DataW.TrodAll enc P W' 0 (fun b => decide (b < W.heap.size)) true ts vs ds ps
 | [], vs, ds, ps, _, h, _ => by
  obtain ⟨rfl, rfl, rfl⟩ := trodAll_nil h
  exact trodAll_mk0
 | t :: ts, vs, ds, ps, ht, h, hp => by
  obtain ⟨v, vs', d, ds', p, p', rfl, rfl, rfl, h0, r0⟩ := trodAll_cons h
  exact trodAll_cons_mk (Below.trod hl (ht t (.head _)).1 (ht t (.head _)).2 h0 hb fun x hx => hp x (List.mem_append.2 (.inl hx)))
   (QAG hl hb ts vs' ds' p' (fun t' h' => ht t' (.tail _ h')) r0 fun x hx => hp x (List.mem_append.2 (.inr hx)))
theorem JyS (hl : laidOutB P = true) {f : Func} {s : ChangeSpec} {W W' : World} {args : Array Value} {ds gs : List (DataW H)} {before : List MemPlace} {tb : TypeId} (hb : P.underlying tb = some .bool)
  (hr : f.resultTypes = #[tb]) (hv : s.vars = []) (hfn : s.fn H (ds ++ gs) = { results := [.lit (.bool true)], args := ds })
  (hp0 : (f.params.toList.all fun t => P.readableRec t && decide (t < P.types.size)) = true)
  (hW : DataW.Whole enc P f.params.toList s.vars false W args.toList ds gs before) (hk : Kept NoS W W') :
  s.post enc P f false true false false W args (.bool true) W' := by
 have hp : ∀ t ∈ f.params.toList, P.readableRec t = true ∧ t < P.types.size := fun t ht => by
  have := List.all_eq_true.1 hp0 t ht
  simpa using this
 have hbw : Below W.heap.size W W' := hk.below (Nat.le_refl _) fun _ _ e => e.elim
 have hlt := hW.lt
 have hW' := hW
 obtain ⟨p, q, hA, hV, rfl, _, _⟩ := hW
 refine ⟨ds, gs, p ++ q, [], p, [], hW', ?_, ?_, ?_, ?_, fun h => by cases h⟩
 ·rw [hfn, hr]
  exact trodAll_cons_mk (shut_bool hb _) trodAll_mk0
 ·rw [hfn]
  exact QAG hl hbw _ _ _ _ hp hA fun x hx => hlt x (List.mem_append.2 (.inl hx))
 ·rw [hfn, hv] 
  rw [hv] at hV
  obtain ⟨rfl, rfl⟩ := trodVars_none hV
  exact hV
 ·exact hbw.frame _
end
end Go.Proofs.YthhghdebjiiliaaDoor
end
