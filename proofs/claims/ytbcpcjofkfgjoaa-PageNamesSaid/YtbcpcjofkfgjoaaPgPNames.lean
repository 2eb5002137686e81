/- 'PageNames': whatever the input, the law returns true, and everything that was there reads as it did. No condition. -/
import Derived.Test.YtbcpcjofkfgjoaaPg20
set_option linter.all false
section
namespace Go.Proofs.Ytbcpcjofkfgjoaa.pageNames
open Go.ChangeShapes Go.WideShapes Go.ChangeAt Go.RowKit
set_option maxRecDepth 100000 in
theorem row {H : Type} (enc : TypeId × Value → H) {W : World} {base : Nat} {args : Array Value} {ds gs : List (DataW H)} {before : List MemPlace}
  (hval : ∀ (j : Nat) t v, Try.f3.params[j]? = some t → args[j]? = some v → Value.okWide Try.prog W .any base t v)
  (hW : DataW.Whole enc Try.prog Try.f3.params.toList Rows.pageNamesSpec.vars false W args.toList ds gs before) :
  Calls Try.prog 3 args W fun e W' => ∃ v, e = .returned v ∧ Rows.pageNamesSpec.post enc Try.prog Try.f3 false true false false W args v W' := by
 have hW' := hW
 obtain ⟨p, q, hA, hV, rfl, _, _⟩ := hW
 obtain ⟨v0, vs0, d0, ds0, p0, q0, hargs, rfl, rfl, h0, r0⟩ := trodAll_cons (show DataW.TrodAll enc Try.prog W 0 (fun _ => true) true [22, 9, 3] args.toList ds p from hA)
 obtain ⟨v1, vs1, d1, ds1, p1, q1, rfl, rfl, rfl, h1, r1⟩ := trodAll_cons r0
 obtain ⟨v2, vs2, d2, ds2, p2, q2, rfl, rfl, rfl, h2, r2⟩ := trodAll_cons r1
 obtain ⟨rfl, rfl, rfl⟩ := trodAll_nil r2
 obtain rfl : args = #[v0, v1, v2] := by cases args; simp_all
 obtain ⟨rfl, rfl⟩ := trodVars_none hV
 obtain ⟨a0', n0, c0, rfl⟩ := Go.WideShapes.okWide_slice Try.underlying22 (hval 0 22 v0 rfl rfl)
 obtain ⟨f0, hf0⟩ := h0
 obtain ⟨w0, e0, ⟨xs0, sa0⟩⟩ := Jv0 hf0
 obtain rfl : Value.slice a0' n0 c0 = w0 := by
  simp [Value.cells] at e0
  exact e0
 obtain ⟨i1, rfl⟩ := Go.WideShapes.okWide_string Try.underlying9 (hval 1 9 v1 rfl rfl)
 obtain ⟨f1, hf1⟩ := h1
 have bi1 := Yqo hf1
 obtain ⟨i2, rfl⟩ := Go.WideShapes.okWide_int Try.underlying3 (hval 2 3 v2 rfl rfl)
 obtain ⟨f2, hf2⟩ := h2
 have bi2 := ZI1 hf2
 have I0 := In.nil (K := KC Try.prog) W
 obtain ⟨x0, s0, B0, I1, vr0, rd0, ex0, cp0⟩ := I0.sl (r := strR) JfK sa0
 refine (XCm I1 (VL.cons vr0 (VL.cons (.s _ _ rfl) (VL.cons (.i _ _) (VL.nil _)))) (Jia I1.hz rd0 i1.data.toList i2).c).mono ?_
 rintro e W' ⟨rfl, hk⟩
 exact ⟨_, rfl, ZvO Try.laidOut Try.underlying4 rfl rfl rfl (by kernel_rfl) hW' hk⟩
end Go.Proofs.Ytbcpcjofkfgjoaa.pageNames
end
section
namespace Go.Proofs.Ytbcpcjofkfgjoaa.pageNames
open Go.ChangeShapes Go.WideShapes Go.ChangeAt Go.RowKit
set_option maxRecDepth 100000 in
theorem KsG (os : Os) (started : os.Started) (H : Type) (enc : TypeId × Value → H) :
  ReturnsInHanded {} Try.checked os 3 .any (Rows.pageNamesSpec.pre6 enc Try.prog Try.f3 Rows.pageNamesRow.domain false) (Rows.pageNamesSpec.post enc Try.prog Try.f3 false true false false) := by
 refine returnsInHanded_of_change (C := Try.checked) Try.own started (by kernel_rfl) Try.func3
  (ChangeSpec.witness6 (enc := enc) (C := Try.checked) false ⟨#[], #[.slice none 0 0, .string ⟨#[]⟩, .int .i64 0], []⟩ 8 (by kernel_rfl) (by kernel_rfl) (by kernel_rfl) (by kernel_rfl)) ?_
 intro W base args ds gs before hval0 hW hcnd _
 have hval : ∀ (j : Nat) t v, Try.f3.params[j]? = some t → args[j]? = some v → Value.okWide Try.prog W .any base t v := hval0
 exact row enc hval hW
theorem over : Rows.pageNamesRow.holds Try.pinned (OpenSpec.ofChange Rows.pageNamesSpec) :=
 OpenClaim.holds_of_wide 3 Try.f3 rfl rfl rfl rfl rfl rfl rfl ⟨rfl, rfl, rfl, rfl, rfl⟩ rfl rfl rfl rfl rfl (by kernel_rfl) Try.func3 (by kernel_rfl)
  (of_decide_eq_true (by kernel_rfl)) (by unfold Func.isWrapper; first | (rw [if_pos (by decide +kernel)]; kernel_rfl) | (rw [if_neg (by decide +kernel)]; exact ⟨rfl, rfl⟩))
  (fun os started H enc _ => KsG os started H enc)
theorem proved : Rows.PageNamesSaid := over
#print axioms proved
end Go.Proofs.Ytbcpcjofkfgjoaa.pageNames
end
