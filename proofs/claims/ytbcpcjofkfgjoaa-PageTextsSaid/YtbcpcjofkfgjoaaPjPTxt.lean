/- 'PageTexts': whatever the input, the law returns true, and everything that was there reads as it did. No condition. -/
import Derived.Test.YtbcpcjofkfgjoaaPj20
set_option linter.all false
section
namespace Go.Proofs.Ytbcpcjofkfgjoaa.pageTexts
open Go.ChangeShapes Go.WideShapes Go.ChangeAt Go.RowKit
set_option maxRecDepth 100000 in
theorem row {H : Type} (enc : TypeId × Value → H) {W : World} {base : Nat} {args : Array Value} {ds gs : List (DataW H)} {before : List MemPlace}
  (hval : ∀ (j : Nat) t v, Try.f8.params[j]? = some t → args[j]? = some v → Value.okWide Try.prog W .any base t v)
  (hW : DataW.Whole enc Try.prog Try.f8.params.toList Rows.pageTextsSpec.vars false W args.toList ds gs before) :
  Calls Try.prog 8 args W fun e W' => ∃ v, e = .returned v ∧ Rows.pageTextsSpec.post enc Try.prog Try.f8 false true false false W args v W' := by
 have hW' := hW
 obtain ⟨p, q, hA, hV, rfl, _, _⟩ := hW
 obtain ⟨v0, vs0, d0, ds0, p0, q0, hargs, rfl, rfl, h0, r0⟩ := trodAll_cons (show DataW.TrodAll enc Try.prog W 0 (fun _ => true) true [33, 9] args.toList ds p from hA)
 obtain ⟨v1, vs1, d1, ds1, p1, q1, rfl, rfl, rfl, h1, r1⟩ := trodAll_cons r0
 obtain ⟨rfl, rfl, rfl⟩ := trodAll_nil r1
 obtain rfl : args = #[v0, v1] := by cases args; simp_all
 obtain ⟨rfl, rfl⟩ := trodVars_none hV
 obtain ⟨c0, rfl, _⟩ := Go.WideShapes.okWide_struct Try.underlying33 (hval 0 33 v0 rfl rfl)
 obtain ⟨f0, hf0⟩ := h0
 obtain ⟨i0, k0, l0, e0⟩ := z42 hf0
 obtain rfl : c0 = #[.int .i64 i0, .string k0, .string l0] := by
  apply Array.toList_inj.1
  simpa [Value.cells] using e0
 obtain ⟨i1, rfl⟩ := Go.WideShapes.okWide_string Try.underlying9 (hval 1 9 v1 rfl rfl)
 obtain ⟨f1, hf1⟩ := h1
 have bi1 := JKu hf1
 have I0 := In.nil (K := KC Try.prog) W
 refine (QgV I0 (VL.cons (QzR (VL.cons (.i _ _) (VL.cons (.s _ _ rfl) (VL.one (.s _ _ rfl))))) (VL.cons (.s _ _ rfl) (VL.nil _))) (YNB I0.hz  i0 k0.data.toList l0.data.toList i1.data.toList).c).mono ?_
 rintro e W' ⟨rfl, hk⟩
 exact ⟨_, rfl, KAS Try.laidOut Try.underlying4 rfl rfl rfl (by kernel_rfl) hW' hk⟩
end Go.Proofs.Ytbcpcjofkfgjoaa.pageTexts
end
section
namespace Go.Proofs.Ytbcpcjofkfgjoaa.pageTexts
open Go.ChangeShapes Go.WideShapes Go.ChangeAt Go.RowKit
set_option maxRecDepth 100000 in
theorem JcD (os : Os) (started : os.Started) (H : Type) (enc : TypeId × Value → H) :
  ReturnsInHanded {} Try.checked os 8 .any (Rows.pageTextsSpec.pre6 enc Try.prog Try.f8 Rows.pageTextsRow.domain false) (Rows.pageTextsSpec.post enc Try.prog Try.f8 false true false false) := by
 refine returnsInHanded_of_change (C := Try.checked) Try.own started (by kernel_rfl) Try.func8
  (ChangeSpec.witness6 (enc := enc) (C := Try.checked) false ⟨#[], #[.agg #[.int .i64 0, .string ⟨#[]⟩, .string ⟨#[]⟩], .string ⟨#[]⟩], []⟩ 8 (by kernel_rfl) (by kernel_rfl) (by kernel_rfl) (by kernel_rfl)) ?_
 intro W base args ds gs before hval0 hW hcnd _
 have hval : ∀ (j : Nat) t v, Try.f8.params[j]? = some t → args[j]? = some v → Value.okWide Try.prog W .any base t v := hval0
 exact row enc hval hW
theorem over : Rows.pageTextsRow.holds Try.pinned (OpenSpec.ofChange Rows.pageTextsSpec) :=
 OpenClaim.holds_of_wide 8 Try.f8 rfl rfl rfl rfl rfl rfl rfl ⟨rfl, rfl, rfl, rfl, rfl⟩ rfl rfl rfl rfl rfl (by kernel_rfl) Try.func8 (by kernel_rfl)
  (of_decide_eq_true (by kernel_rfl)) (by unfold Func.isWrapper; first | (rw [if_pos (by decide +kernel)]; kernel_rfl) | (rw [if_neg (by decide +kernel)]; exact ⟨rfl, rfl⟩))
  (fun os started H enc _ => JcD os started H enc)
theorem proved : Rows.PageTextsSaid := over
#print axioms proved
end Go.Proofs.Ytbcpcjofkfgjoaa.pageTexts
end
