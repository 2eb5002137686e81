/- 'WireWrites': the walk meets the row. -/
import Derived.Test.YtpagolhlbceegaaWrites
import Derived.Test.YtpagolhlbceegaaLaw
namespace Go.Proofs.Ytpagolhlbceegaa.WWrites
open Go.ChangeShapes Go.WideShapes Go.ChangeAt Go.RowKit
theorem row {H : Type} (enc : TypeId × Value → H) {W : World} {base : Nat} {args : Array Value} {ds gs : List (DataW H)} {before : List MemPlace}
    (hval : ∀ (j : Nat) t v, Try.f4.params[j]? = some t → args[j]? = some v → Value.okWide Try.prog W .any base t v)
    (hW : DataW.Whole enc Try.prog Try.f4.params.toList Rows.wireWritesSpec.vars false W args.toList ds gs before) :
    Calls Try.prog 4 args W fun e W' => ∃ v, e = .returned v ∧ Rows.wireWritesSpec.post enc Try.prog Try.f4 false true false false W args v W' := by
  have hW' := hW
  obtain ⟨p, q, hA, hV, rfl, _, _⟩ := hW
  obtain ⟨v0, vs0, d0, ds0, p0, q0, hargs, rfl, rfl, h0, r0⟩ := trodAll_cons (show DataW.TrodAll enc Try.prog W 0 (fun _ => true) true [3, 34] args.toList ds p from hA)
  obtain ⟨v1, vs1, d1, ds1, p1, q1, rfl, rfl, rfl, h1, r1⟩ := trodAll_cons r0
  obtain ⟨rfl, rfl, rfl⟩ := trodAll_nil r1
  obtain rfl : args = #[v0, v1] := by cases args; simp_all
  obtain ⟨rfl, rfl⟩ := trodVars_none hV
  obtain ⟨lim, rfl, hlw⟩ := Go.WideShapes.okWide_int Try.underlying3 (hval 0 3 v0 rfl rfl)
  obtain ⟨a1, n1, c1, rfl⟩ := Go.WideShapes.okWide_slice Try.underlying34 (hval 1 34 v1 rfl rfl)
  obtain ⟨f1, hf1⟩ := h1
  obtain ⟨v', hv', ts, hts⟩ := things_open hf1
  obtain rfl : Value.slice a1 n1 c1 = v' := by
    simp [Value.cells] at hv'
    exact hv'
  refine (Calls.mono (R := RetTrue W) ?_ ?_)
  · by_cases hb : lim < 0 ∨ 67108864 < lim
    · exact writes_bad lim _ W hb
    · exact writes_law lim _ ts W (by omega) (by omega) hts
  · rintro e W' ⟨rfl, hk⟩
    exact ⟨_, rfl, law_post Try.laidOut Try.underlying4 rfl rfl rfl (by kernel_rfl) hW' hk⟩
end Go.Proofs.Ytpagolhlbceegaa.WWrites
