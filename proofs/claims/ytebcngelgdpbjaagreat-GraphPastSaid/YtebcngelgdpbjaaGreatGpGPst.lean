/- 'GraphPast': whatever the input, the law returns true, and everything that was there reads as it did. No condition. -/
import Derived.Test.YtebcngelgdpbjaaGreatGp28
set_option linter.all false
section
namespace Go.Proofs.YtebcngelgdpbjaaGreat.graphPast
open Go.ChangeShapes Go.WideShapes Go.ChangeAt Go.RowKit
set_option maxRecDepth 100000 in
theorem row {H : Type} (enc : TypeId × Value → H) {W : World} {base : Nat} {args : Array Value} {ds gs : List (DataW H)} {before : List MemPlace}
  (hval : ∀ (j : Nat) t v, Tryz.f6.params[j]? = some t → args[j]? = some v → Value.okWide Tryz.prog W .any base t v)
  (hW : DataW.Whole enc Tryz.prog Tryz.f6.params.toList Rows.graphPastSpec.vars false W args.toList ds gs before) :
  Calls Tryz.prog 6 args W fun e W' => ∃ v, e = .returned v ∧ Rows.graphPastSpec.post enc Tryz.prog Tryz.f6 false true false false W args v W' := by
 have hW' := hW
 obtain ⟨p, q, hA, hV, rfl, _, _⟩ := hW
 obtain ⟨v0, vs0, d0, ds0, p0, q0, hargs, rfl, rfl, h0, r0⟩ := trodAll_cons (show DataW.TrodAll enc Tryz.prog W 0 (fun _ => true) true [22, 3] args.toList ds p from hA)
 obtain ⟨v1, vs1, d1, ds1, p1, q1, rfl, rfl, rfl, h1, r1⟩ := trodAll_cons r0
 obtain ⟨rfl, rfl, rfl⟩ := trodAll_nil r1
 obtain rfl : args = #[v0, v1] := by cases args; simp_all
 obtain ⟨rfl, rfl⟩ := trodVars_none hV
 obtain ⟨a0', n0, c0, rfl⟩ := Go.WideShapes.okWide_slice Tryz.underlying22 (hval 0 22 v0 rfl rfl)
 obtain ⟨f0, hf0⟩ := h0
 obtain ⟨w0, e0, ts0, cc0, sv0, sl0, sc0, st0⟩ := zSe hf0
 obtain rfl : Value.slice a0' n0 c0 = w0 := by
  simp [Value.cells] at e0
  exact e0
 obtain ⟨i1, rfl⟩ := Go.WideShapes.okWide_int Tryz.underlying3 (hval 1 3 v1 rfl rfl)
 obtain ⟨f1, hf1⟩ := h1
 have bi1 := QXC hf1
 have In0 := In.nil (K := KC Tryz.prog) W
 obtain ⟨ρe, he, se, Me, I0, vre, rde, oke, cpe, exe⟩ := In0.evs sv0 sl0 sc0 st0
 refine (KAv I0 (VL.cons vre (VL.cons (.i _ _) (VL.nil _))) (Xgb I0.hz rde.ev  i1 bi1).c).mono ?_
 rintro e W' ⟨rfl, hk⟩
 exact ⟨_, rfl, K1O Tryz.laidOut Tryz.underlying4 rfl rfl rfl (by kernel_rfl) hW' hk⟩
end Go.Proofs.YtebcngelgdpbjaaGreat.graphPast
end
section
namespace Go.Proofs.YtebcngelgdpbjaaGreat.graphPast
open Go.ChangeShapes Go.WideShapes Go.ChangeAt Go.RowKit
set_option maxRecDepth 100000 in
theorem qea (os : Os) (started : os.Started) (H : Type) (enc : TypeId × Value → H) :
  ReturnsInHanded {} Tryz.checked os 6 .any (Rows.graphPastSpec.pre6 enc Tryz.prog Tryz.f6 Rows.graphPastRow.domain false) (Rows.graphPastSpec.post enc Tryz.prog Tryz.f6 false true false false) := by
 refine returnsInHanded_of_change (C := Tryz.checked) Tryz.own started (by kernel_rfl) Tryz.func6
  (ChangeSpec.witness6 (enc := enc) (C := Tryz.checked) false ⟨#[], #[.slice none 0 0, .int .i64 0], []⟩ 8 (by kernel_rfl) (by kernel_rfl) (by kernel_rfl) (by kernel_rfl)) ?_
 intro W base args ds gs before hval0 hW hcnd _
 have hval : ∀ (j : Nat) t v, Tryz.f6.params[j]? = some t → args[j]? = some v → Value.okWide Tryz.prog W .any base t v := hval0
 exact row enc hval hW
theorem over : Rows.graphPastRow.holds Tryz.pinned (OpenSpec.ofChange Rows.graphPastSpec) :=
 OpenClaim.holds_of_wide 6 Tryz.f6 rfl rfl rfl rfl rfl rfl rfl ⟨rfl, rfl, rfl, rfl, rfl⟩ rfl rfl rfl rfl rfl (by kernel_rfl) Tryz.func6 (by kernel_rfl)
  (of_decide_eq_true (by kernel_rfl)) (by unfold Func.isWrapper; first | (rw [if_pos (by decide +kernel)]; kernel_rfl) | (rw [if_neg (by decide +kernel)]; exact ⟨rfl, rfl⟩))
  (fun os started H enc _ => qea os started H enc)
theorem proved : Rows.GraphPastSaid := over
#print axioms proved
end Go.Proofs.YtebcngelgdpbjaaGreat.graphPast
end
