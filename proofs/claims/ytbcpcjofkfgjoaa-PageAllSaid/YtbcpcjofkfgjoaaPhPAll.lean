/- 'PageAll': whatever the input, the law returns true, and everything that was there reads as it did. No condition. -/
import Derived.Test.YtbcpcjofkfgjoaaPh20
set_option linter.all false
section
namespace Go.Proofs.Ytbcpcjofkfgjoaa.pageAll
open Go.ChangeShapes Go.WideShapes Go.ChangeAt Go.RowKit
set_option maxRecDepth 100000 in
theorem row {H : Type} (enc : TypeId × Value → H) {W : World} {base : Nat} {args : Array Value} {ds gs : List (DataW H)} {before : List MemPlace}
  (hval : ∀ (j : Nat) t v, Try.f6.params[j]? = some t → args[j]? = some v → Value.okWide Try.prog W .any base t v)
  (hW : DataW.Whole enc Try.prog Try.f6.params.toList Rows.pageAllSpec.vars false W args.toList ds gs before) :
  Calls Try.prog 6 args W fun e W' => ∃ v, e = .returned v ∧ Rows.pageAllSpec.post enc Try.prog Try.f6 false true false false W args v W' := by
 have hW' := hW
 obtain ⟨p, q, hA, hV, rfl, _, _⟩ := hW
 obtain ⟨v0, vs0, d0, ds0, p0, q0, hargs, rfl, rfl, h0, r0⟩ := trodAll_cons (show DataW.TrodAll enc Try.prog W 0 (fun _ => true) true [22, 3] args.toList ds p from hA)
 obtain ⟨v1, vs1, d1, ds1, p1, q1, rfl, rfl, rfl, h1, r1⟩ := trodAll_cons r0
 obtain ⟨rfl, rfl, rfl⟩ := trodAll_nil r1
 obtain rfl : args = #[v0, v1] := by cases args; simp_all
 obtain ⟨rfl, rfl⟩ := trodVars_none hV
 obtain ⟨a0', n0, c0, rfl⟩ := Go.WideShapes.okWide_slice Try.underlying22 (hval 0 22 v0 rfl rfl)
 obtain ⟨f0, hf0⟩ := h0
 obtain ⟨w0, e0, ⟨xs0, sa0⟩⟩ := Jv0 hf0
 obtain rfl : Value.slice a0' n0 c0 = w0 := by
  simp [Value.cells] at e0
  exact e0
 obtain ⟨i1, rfl⟩ := Go.WideShapes.okWide_int Try.underlying3 (hval 1 3 v1 rfl rfl)
 obtain ⟨f1, hf1⟩ := h1
 have bi1 := ZI1 hf1
 have I0 := In.nil (K := KC Try.prog) W
 obtain ⟨x0, s0, B0, I1, vr0, rd0, ex0, cp0⟩ := I0.sl (r := strR) JfK sa0
 refine (XCm I1 (VL.cons vr0 (VL.cons (.i _ _) (VL.nil _))) (zkb I1.hz rd0 i1 bi1).c).mono ?_
 rintro e W' ⟨rfl, hk⟩
 exact ⟨_, rfl, ZvO Try.laidOut Try.underlying4 rfl rfl rfl (by kernel_rfl) hW' hk⟩
end Go.Proofs.Ytbcpcjofkfgjoaa.pageAll
end
section
namespace Go.Proofs.Ytbcpcjofkfgjoaa.pageAll
open Go.ChangeShapes Go.WideShapes Go.ChangeAt Go.RowKit
set_option maxRecDepth 100000 in
theorem KsG (os : Os) (started : os.Started) (H : Type) (enc : TypeId × Value → H) :
  ReturnsInHanded {} Try.checked os 6 .any (Rows.pageAllSpec.pre6 enc Try.prog Try.f6 Rows.pageAllRow.domain false) (Rows.pageAllSpec.post enc Try.prog Try.f6 false true false false) := by
 refine returnsInHanded_of_change (C := Try.checked) Try.own started (by kernel_rfl) Try.func6
  (ChangeSpec.witness6 (enc := enc) (C := Try.checked) false ⟨#[], #[.slice none 0 0, .int .i64 0], []⟩ 8 (by kernel_rfl) (by kernel_rfl) (by kernel_rfl) (by kernel_rfl)) ?_
 intro W base args ds gs before hval0 hW hcnd _
 have hval : ∀ (j : Nat) t v, Try.f6.params[j]? = some t → args[j]? = some v → Value.okWide Try.prog W .any base t v := hval0
 exact row enc hval hW
theorem over : Rows.pageAllRow.holds Try.pinned (OpenSpec.ofChange Rows.pageAllSpec) :=
 OpenClaim.holds_of_wide 6 Try.f6 rfl rfl rfl rfl rfl rfl rfl ⟨rfl, rfl, rfl, rfl, rfl⟩ rfl rfl rfl rfl rfl (by kernel_rfl) Try.func6 (by kernel_rfl)
  (of_decide_eq_true (by kernel_rfl)) (by unfold Func.isWrapper; first | (rw [if_pos (by decide +kernel)]; kernel_rfl) | (rw [if_neg (by decide +kernel)]; exact ⟨rfl, rfl⟩))
  (fun os started H enc _ => KsG os started H enc)
theorem proved : Rows.PageAllSaid := over
#print axioms proved
end Go.Proofs.Ytbcpcjofkfgjoaa.pageAll
end
