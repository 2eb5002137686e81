/- 'OrsetKnown': the closed function meets the row. No condition. -/
import Derived.Test.YtfaccliekejngaaGreatCt6
import Derived.Test.YtfaccliekejngaaGreatLaw
namespace Go.Proofs.YtfaccliekejngaaGreat.Closed
open Go.ChangeShapes Go.WideShapes Go.ChangeAt Go.RowKit
theorem known_any (w : World) : Calls Tryz.prog 6 #[] w (fun e w' => e = .returned (.bool true) ∧ Kept NoS w w') :=
  (closed6 w).mono fun e w' h => ⟨h.1, h.2.os, h.2.tape, h.2.output, h.2.size, fun k hk _ => h.2.block k hk⟩
theorem row {H : Type} (enc : TypeId × Value → H) {W : World} {base : Nat} {args : Array Value} {ds gs : List (DataW H)} {before : List MemPlace}
    (_hval : ∀ (j : Nat) t v, Tryz.f6.params[j]? = some t → args[j]? = some v → Value.okWide Tryz.prog W .any base t v)
    (hW : DataW.Whole enc Tryz.prog Tryz.f6.params.toList Rows.orsetKnownSpec.vars false W args.toList ds gs before) :
    Calls Tryz.prog 6 args W fun e W' => ∃ v, e = .returned v ∧ Rows.orsetKnownSpec.post enc Tryz.prog Tryz.f6 false true false false W args v W' := by
  have hW' := hW
  obtain ⟨p, q, hA, hV, rfl, _, _⟩ := hW
  obtain ⟨ha, rfl, rfl⟩ := trodAll_none (show DataW.TrodAll enc Tryz.prog W 0 (fun _ => true) true [] args.toList ds p from hA)
  obtain ⟨rfl, rfl⟩ := trodVars_none hV
  obtain rfl : args = #[] := by simpa using ha
  refine (known_any W).mono ?_
  rintro e W' ⟨rfl, hk⟩
  exact ⟨_, rfl, law_post Tryz.laidOut Tryz.underlying4 rfl rfl rfl (by kernel_rfl) hW' hk⟩
end Go.Proofs.YtfaccliekejngaaGreat.Closed
