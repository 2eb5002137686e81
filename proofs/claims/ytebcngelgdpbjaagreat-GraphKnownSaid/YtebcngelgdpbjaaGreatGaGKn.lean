/- 'GraphKnown': whatever the input, the law returns true, and everything that was there reads as it did. No condition. -/
import Derived.Test.YtebcngelgdpbjaaGreatGa21
set_option linter.all false
section
namespace Go.Proofs.YtebcngelgdpbjaaGreat.graphKnown
open Go.ChangeShapes Go.WideShapes Go.ChangeAt Go.RowKit
set_option maxRecDepth 100000 in
theorem row {H : Type} (enc : TypeId × Value → H) {W : World} {base : Nat} {args : Array Value} {ds gs : List (DataW H)} {before : List MemPlace}
  (_ : ∀ (j : Nat) t v, Tryz.f5.params[j]? = some t → args[j]? = some v → Value.okWide Tryz.prog W .any base t v)
  (hW : DataW.Whole enc Tryz.prog Tryz.f5.params.toList Rows.graphKnownSpec.vars false W args.toList ds gs before) :
  Calls Tryz.prog 5 args W fun e W' => ∃ v, e = .returned v ∧ Rows.graphKnownSpec.post enc Tryz.prog Tryz.f5 false true false false W args v W' := by
 have hW' := hW
 obtain ⟨p, q, hA, hV, rfl, _, _⟩ := hW
 obtain ⟨hargs, rfl, rfl⟩ := trodAll_nil (show DataW.TrodAll enc Tryz.prog W 0 (fun _ => true) true [] args.toList ds p from hA)
 obtain rfl : args = #[] := by cases args; simp_all
 obtain ⟨rfl, rfl⟩ := trodVars_none hV
 have I0 := In.nil (K := KC Tryz.prog) W
 refine (JtS I0 (VL.nil _) (fc5 [])).mono ?_
 rintro e W' ⟨rfl, hk⟩
 exact ⟨_, rfl, QMh Tryz.laidOut Tryz.underlying4 rfl rfl rfl (by kernel_rfl) hW' hk⟩
end Go.Proofs.YtebcngelgdpbjaaGreat.graphKnown
end
section
namespace Go.Proofs.YtebcngelgdpbjaaGreat.graphKnown
open Go.ChangeShapes Go.WideShapes Go.ChangeAt Go.RowKit
set_option maxRecDepth 100000 in
theorem YWl (os : Os) (started : os.Started) (H : Type) (enc : TypeId × Value → H) :
  ReturnsInHanded {} Tryz.checked os 5 .any (Rows.graphKnownSpec.pre6 enc Tryz.prog Tryz.f5 Rows.graphKnownRow.domain false) (Rows.graphKnownSpec.post enc Tryz.prog Tryz.f5 false true false false) := by
 refine returnsInHanded_of_change (C := Tryz.checked) Tryz.own started (by kernel_rfl) Tryz.func5
  (ChangeSpec.witness6 (enc := enc) (C := Tryz.checked) false ⟨#[], #[], []⟩ 8 (by kernel_rfl) (by kernel_rfl) (by kernel_rfl) (by kernel_rfl)) ?_
 intro W base args ds gs before hval0 hW hcnd _
 have hval : ∀ (j : Nat) t v, Tryz.f5.params[j]? = some t → args[j]? = some v → Value.okWide Tryz.prog W .any base t v := hval0
 exact row enc hval hW
theorem over : Rows.graphKnownRow.holds Tryz.pinned (OpenSpec.ofChange Rows.graphKnownSpec) :=
 OpenClaim.holds_of_wide 5 Tryz.f5 rfl rfl rfl rfl rfl rfl rfl ⟨rfl, rfl, rfl, rfl, rfl⟩ rfl rfl rfl rfl rfl (by kernel_rfl) Tryz.func5 (by kernel_rfl)
  (of_decide_eq_true (by kernel_rfl)) (by unfold Func.isWrapper; first | (rw [if_pos (by decide +kernel)]; kernel_rfl) | (rw [if_neg (by decide +kernel)]; exact ⟨rfl, rfl⟩))
  (fun os started H enc _ => YWl os started H enc)
theorem proved : Rows.GraphKnownSaid := over
#print axioms proved
end Go.Proofs.YtebcngelgdpbjaaGreat.graphKnown
end
