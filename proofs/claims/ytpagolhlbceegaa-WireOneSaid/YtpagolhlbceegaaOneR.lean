/- 'WireOne': the walk meets the row. -/
import Derived.Test.YtpagolhlbceegaaOne
import Derived.Test.YtpagolhlbceegaaLaw
namespace Go.Proofs.Ytpagolhlbceegaa.WOne
open Go.ChangeShapes Go.WideShapes Go.ChangeAt Go.RowKit
theorem row {H : Type} (enc : TypeId × Value → H) {W : World} {base : Nat} {args : Array Value} {ds gs : List (DataW H)} {before : List MemPlace}
    (hval : ∀ (j : Nat) t v, Try.f5.params[j]? = some t → args[j]? = some v → Value.okWide Try.prog W .any base t v)
    (hW : DataW.Whole enc Try.prog Try.f5.params.toList Rows.wireOneSpec.vars false W args.toList ds gs before) :
    Calls Try.prog 5 args W fun e W' => ∃ v, e = .returned v ∧ Rows.wireOneSpec.post enc Try.prog Try.f5 false true false false W args v W' := by
  have hW' := hW
  obtain ⟨p, q, hA, hV, rfl, _, _⟩ := hW
  obtain ⟨v0, vs0, d0, ds0, p0, q0, hargs, rfl, rfl, h0, r0⟩ := trodAll_cons (show DataW.TrodAll enc Try.prog W 0 (fun _ => true) true [28, 43] args.toList ds p from hA)
  obtain ⟨v1, vs1, d1, ds1, p1, q1, rfl, rfl, rfl, h1, r1⟩ := trodAll_cons r0
  obtain ⟨rfl, rfl, rfl⟩ := trodAll_nil r1
  obtain rfl : args = #[v0, v1] := by cases args; simp_all
  obtain ⟨rfl, rfl⟩ := trodVars_none hV
  obtain ⟨a0, n0, c0, rfl⟩ := Go.WideShapes.okWide_slice Try.underlying28 (hval 0 28 v0 rfl rfl)
  obtain ⟨a1, n1, c1, rfl⟩ := Go.WideShapes.okWide_slice Try.underlying43 (hval 1 43 v1 rfl rfl)
  obtain ⟨f0, hf0⟩ := h0
  obtain ⟨f1, hf1⟩ := h1
  obtain ⟨w0, hw0, bs, hbs⟩ := bytes_open hf0
  obtain ⟨w1, hw1, xs, hxs, hxi⟩ := ints_open hf1
  obtain rfl : Value.slice a0 n0 c0 = w0 := by
    simp [Value.cells] at hw0
    exact hw0
  obtain rfl : Value.slice a1 n1 c1 = w1 := by
    simp [Value.cells] at hw1
    exact hw1
  refine (one_any _ _ bs xs W hbs hxs hxi).mono ?_
  rintro e W' ⟨rfl, hk⟩
  exact ⟨_, rfl, law_post Try.laidOut Try.underlying4 rfl rfl rfl (by kernel_rfl) hW' hk⟩
end Go.Proofs.Ytpagolhlbceegaa.WOne
