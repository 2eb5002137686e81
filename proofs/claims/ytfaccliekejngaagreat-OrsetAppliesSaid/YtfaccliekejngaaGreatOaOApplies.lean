/- 'OrsetApplies': whatever the input, the law returns true, and everything that was there reads as it did. No condition. -/
import Derived.Test.YtfaccliekejngaaGreatOa28
set_option linter.all false
section
namespace Go.Proofs.YtfaccliekejngaaGreat.orsetApplies
open Go.ChangeShapes Go.WideShapes Go.ChangeAt Go.RowKit
set_option maxRecDepth 100000 in
theorem row {H : Type} (enc : TypeId × Value → H) {W : World} {base : Nat} {args : Array Value} {ds gs : List (DataW H)} {before : List MemPlace}
  (hval : ∀ (j : Nat) t v, Tryz.f5.params[j]? = some t → args[j]? = some v → Value.okWide Tryz.prog W .any base t v)
  (hW : DataW.Whole enc Tryz.prog Tryz.f5.params.toList Rows.orsetAppliesSpec.vars false W args.toList ds gs before) :
  Calls Tryz.prog 5 args W fun e W' => ∃ v, e = .returned v ∧ Rows.orsetAppliesSpec.post enc Tryz.prog Tryz.f5 false true false false W args v W' := by
 have hW' := hW
 obtain ⟨p, q, hA, hV, rfl, _, _⟩ := hW
 obtain ⟨v0, vs0, d0, ds0, p0, q0, hargs, rfl, rfl, h0, r0⟩ := trodAll_cons (show DataW.TrodAll enc Tryz.prog W 0 (fun _ => true) true [28, 38] args.toList ds p from hA)
 obtain ⟨v1, vs1, d1, ds1, p1, q1, rfl, rfl, rfl, h1, r1⟩ := trodAll_cons r0
 obtain ⟨rfl, rfl, rfl⟩ := trodAll_nil r1
 obtain rfl : args = #[v0, v1] := by cases args; simp_all
 obtain ⟨rfl, rfl⟩ := trodVars_none hV
 obtain ⟨c0, rfl, _⟩ := Go.WideShapes.okWide_struct Tryz.underlying28 (hval 0 28 v0 rfl rfl)
 obtain ⟨f0, hf0⟩ := h0
 obtain ⟨g0, a0, b0, e0, ⟨zs0, sg0⟩, ⟨xs0, sa0⟩, ⟨ys0, sb0⟩⟩ := qja hf0
 obtain rfl : c0 = #[g0, a0, b0] := by
  apply Array.toList_inj.1
  simpa [Value.cells] using e0
 obtain ⟨c1, rfl, _⟩ := Go.WideShapes.okWide_struct Tryz.underlying38 (hval 1 38 v1 rfl rfl)
 obtain ⟨f1, hf1⟩ := h1
 obtain ⟨g1, k1, a1, b1, e1, ⟨zs1, sg1⟩, ⟨ws1, sk1⟩, ⟨xs1, sa1⟩, ⟨ys1, sb1⟩⟩ := Y9X hf1
 obtain rfl : c1 = #[g1, k1, a1, b1] := by
  apply Array.toList_inj.1
  simpa [Value.cells] using e1
 have I0 := In.nil (K := KC Tryz.prog) W
 obtain ⟨x0, s0, B0, I1, vr0, rd0, ex0, cp0⟩ := I0.sl (r := qdS) KQd sg0
 obtain ⟨x1, s1, B1, I2, vr1, rd1, ex1, cp1⟩ := I1.sl (r := intR) Jg9 sa0
 obtain ⟨x2, s2, B2, I3, vr2, rd2, ex2, cp2⟩ := I2.sl (r := dotR) KRP sb0
 obtain ⟨x3, s3, B3, I4, vr3, rd3, ex3, cp3⟩ := I3.sl (r := qdS) KQd sg1
 obtain ⟨x4, s4, B4, I5, vr4, rd4, ex4, cp4⟩ := I4.sl (r := dotR) KRP sk1
 obtain ⟨x5, s5, B5, I6, vr5, rd5, ex5, cp5⟩ := I5.sl (r := intR) Jg9 sa1
 obtain ⟨x6, s6, B6, I7, vr6, rd6, ex6, cp6⟩ := I6.sl (r := dotR) KRP sb1
 refine (QWy I7 (VL.cons (zki (VL.cons (vr0.ext (ex1.trans (ex2.trans (ex3.trans (ex4.trans (ex5.trans (ex6))))))) (VL.cons (vr1.ext (ex2.trans (ex3.trans (ex4.trans (ex5.trans (ex6)))))) (VL.one (vr2.ext (ex3.trans (ex4.trans (ex5.trans (ex6))))))))) (VL.cons (zki (VL.cons (vr3.ext (ex4.trans (ex5.trans (ex6)))) (VL.cons (vr4.ext (ex5.trans (ex6))) (VL.cons (vr5.ext (ex6)) (VL.one vr6))))) (VL.nil _))) (QJP I7.hz ((((((rd0.app [B1]).app [B2]).app [B3]).app [B4]).app [B5]).app [B6]) (((((rd1.app [B2]).app [B3]).app [B4]).app [B5]).app [B6]) ((((rd2.app [B3]).app [B4]).app [B5]).app [B6]) (((rd3.app [B4]).app [B5]).app [B6]) ((rd4.app [B5]).app [B6]) (rd5.app [B6]) rd6).c).mono ?_
 rintro e W' ⟨rfl, hk⟩
 exact ⟨_, rfl, QPP Tryz.laidOut Tryz.underlying4 rfl rfl rfl (by kernel_rfl) hW' hk⟩
end Go.Proofs.YtfaccliekejngaaGreat.orsetApplies
end
section
namespace Go.Proofs.YtfaccliekejngaaGreat.orsetApplies
open Go.ChangeShapes Go.WideShapes Go.ChangeAt Go.RowKit
set_option maxRecDepth 100000 in
theorem Xyp (os : Os) (started : os.Started) (H : Type) (enc : TypeId × Value → H) :
  ReturnsInHanded {} Tryz.checked os 5 .any (Rows.orsetAppliesSpec.pre6 enc Tryz.prog Tryz.f5 Rows.orsetAppliesRow.domain false) (Rows.orsetAppliesSpec.post enc Tryz.prog Tryz.f5 false true false false) := by
 refine returnsInHanded_of_change (C := Tryz.checked) Tryz.own started (by kernel_rfl) Tryz.func5
  (ChangeSpec.witness6 (enc := enc) (C := Tryz.checked) false ⟨#[], #[.agg #[.slice none 0 0, .slice none 0 0, .slice none 0 0], .agg #[.slice none 0 0, .slice none 0 0, .slice none 0 0, .slice none 0 0]], []⟩ 8 (by kernel_rfl) (by kernel_rfl) (by kernel_rfl) (by kernel_rfl)) ?_
 intro W base args ds gs before hval0 hW hcnd _
 have hval : ∀ (j : Nat) t v, Tryz.f5.params[j]? = some t → args[j]? = some v → Value.okWide Tryz.prog W .any base t v := hval0
 exact row enc hval hW
theorem over : Rows.orsetAppliesRow.holds Tryz.pinned (OpenSpec.ofChange Rows.orsetAppliesSpec) :=
 OpenClaim.holds_of_wide 5 Tryz.f5 rfl rfl rfl rfl rfl rfl rfl ⟨rfl, rfl, rfl, rfl, rfl⟩ rfl rfl rfl rfl rfl (by kernel_rfl) Tryz.func5 (by kernel_rfl)
  (of_decide_eq_true (by kernel_rfl)) (by unfold Func.isWrapper; first | (rw [if_pos (by decide +kernel)]; kernel_rfl) | (rw [if_neg (by decide +kernel)]; exact ⟨rfl, rfl⟩))
  (fun os started H enc _ => Xyp os started H enc)
theorem proved : Rows.OrsetAppliesSaid := over
#print axioms proved
end Go.Proofs.YtfaccliekejngaaGreat.orsetApplies
end
