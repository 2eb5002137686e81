/- 'MediaEncodes': whatever the input, the law returns true, and everything that was there reads as it did. No condition. -/
import Derived.Test.YtpoojfnmhnedpaaMe21
set_option linter.all false
section
namespace Go.Proofs.Ytpoojfnmhnedpaa.mediaEncodes
open Go.ChangeShapes Go.WideShapes Go.ChangeAt Go.RowKit
set_option maxRecDepth 100000 in
theorem row {H : Type} (enc : TypeId × Value → H) {W : World} {base : Nat} {args : Array Value} {ds gs : List (DataW H)} {before : List MemPlace}
  (hval : ∀ (j : Nat) t v, Try.f3.params[j]? = some t → args[j]? = some v → Value.okWide Try.prog W .any base t v)
  (hW : DataW.Whole enc Try.prog Try.f3.params.toList Rows.mediaEncodesSpec.vars false W args.toList ds gs before) :
  Calls Try.prog 3 args W fun e W' => ∃ v, e = .returned v ∧ Rows.mediaEncodesSpec.post enc Try.prog Try.f3 false true false false W args v W' := by
 have hW' := hW
 obtain ⟨p, q, hA, hV, rfl, _, _⟩ := hW
 obtain ⟨v0, vs0, d0, ds0, p0, q0, hargs, rfl, rfl, h0, r0⟩ := trodAll_cons (show DataW.TrodAll enc Try.prog W 0 (fun _ => true) true [28] args.toList ds p from hA)
 obtain ⟨rfl, rfl, rfl⟩ := trodAll_nil r0
 obtain rfl : args = #[v0] := by cases args; simp_all
 obtain ⟨rfl, rfl⟩ := trodVars_none hV
 obtain ⟨c0, rfl, _⟩ := Go.WideShapes.okWide_struct Try.underlying28 (hval 0 28 v0 rfl rfl)
 obtain ⟨f0, hf0⟩ := h0
 obtain ⟨mk0, mt0, mc0, lv0, sv0, e0, bk0, bc0, ⟨xs0, sl0, bl0⟩, ⟨ys0, ss0, bs0⟩⟩ := YVW hf0
 obtain rfl : c0 = ((AV.i .i64 mk0 :: .s mt0 :: deR.f mc0).map AV.val ++ [lv0, sv0]).toArray := by
  have q : c0.toList = (AV.i .i64 mk0 :: .s mt0 :: deR.f mc0).map AV.val ++ [lv0, sv0] := e0
  rw [← q, Array.toArray_toList]
 have I0 := In.nil (K := KC Try.prog) W
 obtain ⟨x0, s0, B0, I1, vr0, rd0, ex0, cp0⟩ := I0.sl (r := deR) YgR sl0
 obtain ⟨x1, s1, B1, I2, vr1, rd1, ex1, cp1⟩ := I1.sl (r := deR) YgR ss0
 refine (q6l I2 (VL.cons (qpv (vr0.ext (ex1)) vr1 mk0 mt0 mc0) (VL.nil _)) (KQQ I2.hz (rd0.app [B1]) rd1 mk0 mt0 mc0 bk0 bc0 bl0 bs0).c).mono ?_
 rintro e W' ⟨rfl, hk⟩
 exact ⟨_, rfl, KJV Try.laidOut Try.underlying4 rfl rfl rfl (by kernel_rfl) hW' hk⟩
end Go.Proofs.Ytpoojfnmhnedpaa.mediaEncodes
end
section
namespace Go.Proofs.Ytpoojfnmhnedpaa.mediaEncodes
open Go.ChangeShapes Go.WideShapes Go.ChangeAt Go.RowKit
set_option maxRecDepth 100000 in
theorem qwC (os : Os) (started : os.Started) (H : Type) (enc : TypeId × Value → H) :
  ReturnsInHanded {} Try.checked os 3 .any (Rows.mediaEncodesSpec.pre6 enc Try.prog Try.f3 Rows.mediaEncodesRow.domain false) (Rows.mediaEncodesSpec.post enc Try.prog Try.f3 false true false false) := by
 refine returnsInHanded_of_change (C := Try.checked) Try.own started (by kernel_rfl) Try.func3
  (ChangeSpec.witness6 (enc := enc) (C := Try.checked) false ⟨#[], #[.agg #[.int .i64 0, .string ⟨#[]⟩, .int .i64 0, .int .u8 0, .int .u8 0, .int .u8 0, .int .u8 0, .int .u8 0, .int .u8 0, .int .u8 0, .int .u8 0, .int .u8 0, .int .u8 0, .int .u8 0, .int .u8 0, .int .u8 0, .int .u8 0, .int .u8 0, .int .u8 0, .int .u8 0, .int .u8 0, .int .u8 0, .int .u8 0, .int .u8 0, .int .u8 0, .int .u8 0, .int .u8 0, .int .u8 0, .int .u8 0, .int .u8 0, .int .u8 0, .int .u8 0, .int .u8 0, .int .u8 0, .int .u8 0, .int .i64 0, .string ⟨#[]⟩, .slice none 0 0, .slice none 0 0]], []⟩ 8 (by kernel_rfl) (by kernel_rfl) (by kernel_rfl) (by kernel_rfl)) ?_
 intro W base args ds gs before hval0 hW hcnd _
 have hval : ∀ (j : Nat) t v, Try.f3.params[j]? = some t → args[j]? = some v → Value.okWide Try.prog W .any base t v := hval0
 exact row enc hval hW
theorem over : Rows.mediaEncodesRow.holds Try.pinned (OpenSpec.ofChange Rows.mediaEncodesSpec) :=
 OpenClaim.holds_of_wide 3 Try.f3 rfl rfl rfl rfl rfl rfl rfl ⟨rfl, rfl, rfl, rfl, rfl⟩ rfl rfl rfl rfl rfl (by kernel_rfl) Try.func3 (by kernel_rfl)
  (of_decide_eq_true (by kernel_rfl)) (by unfold Func.isWrapper; first | (rw [if_pos (by decide +kernel)]; kernel_rfl) | (rw [if_neg (by decide +kernel)]; exact ⟨rfl, rfl⟩))
  (fun os started H enc _ => qwC os started H enc)
theorem proved : Rows.MediaEncodesSaid := over
#print axioms proved
end Go.Proofs.Ytpoojfnmhnedpaa.mediaEncodes
end
