/- 'PageKnown': the closed function meets the row. No condition. -/
import Derived.Test.YtbcpcjofkfgjoaaCt5
import Derived.Test.YtbcpcjofkfgjoaaLaw
namespace Go.Proofs.Ytbcpcjofkfgjoaa.Closed
open Go.ChangeShapes Go.WideShapes Go.ChangeAt Go.RowKit
theorem known_any (w : World) : Calls Try.prog 5 #[] w (fun e w' => e = .returned (.bool true) ∧ Kept NoS w w') :=
  (closed5 w).mono fun e w' h => ⟨h.1, h.2.os, h.2.tape, h.2.output, h.2.size, fun k hk _ => h.2.block k hk⟩
theorem row {H : Type} (enc : TypeId × Value → H) {W : World} {base : Nat} {args : Array Value} {ds gs : List (DataW H)} {before : List MemPlace}
    (_hval : ∀ (j : Nat) t v, Try.f5.params[j]? = some t → args[j]? = some v → Value.okWide Try.prog W .any base t v)
    (hW : DataW.Whole enc Try.prog Try.f5.params.toList Rows.pageKnownSpec.vars false W args.toList ds gs before) :
    Calls Try.prog 5 args W fun e W' => ∃ v, e = .returned v ∧ Rows.pageKnownSpec.post enc Try.prog Try.f5 false true false false W args v W' := by
  have hW' := hW
  obtain ⟨p, q, hA, hV, rfl, _, _⟩ := hW
  obtain ⟨ha, rfl, rfl⟩ := trodAll_none (show DataW.TrodAll enc Try.prog W 0 (fun _ => true) true [] args.toList ds p from hA)
  obtain ⟨rfl, rfl⟩ := trodVars_none hV
  obtain rfl : args = #[] := by simpa using ha
  refine (known_any W).mono ?_
  rintro e W' ⟨rfl, hk⟩
  exact ⟨_, rfl, law_post Try.laidOut Try.underlying4 rfl rfl rfl (by kernel_rfl) hW' hk⟩
end Go.Proofs.Ytbcpcjofkfgjoaa.Closed
