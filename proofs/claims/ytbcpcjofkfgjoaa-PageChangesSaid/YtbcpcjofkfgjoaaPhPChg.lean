/- 'PageChanges': whatever the input, the law returns true, and everything that was there reads as it did. No condition. -/
import Derived.Test.YtbcpcjofkfgjoaaPh20
set_option linter.all false
section
namespace Go.Proofs.Ytbcpcjofkfgjoaa.pageChanges
open Go.ChangeShapes Go.WideShapes Go.ChangeAt Go.RowKit
set_option maxRecDepth 100000 in
theorem row {H : Type} (enc : TypeId × Value → H) {W : World} {base : Nat} {args : Array Value} {ds gs : List (DataW H)} {before : List MemPlace}
  (hval : ∀ (j : Nat) t v, Try.f7.params[j]? = some t → args[j]? = some v → Value.okWide Try.prog W .any base t v)
  (hW : DataW.Whole enc Try.prog Try.f7.params.toList Rows.pageChangesSpec.vars false W args.toList ds gs before) :
  Calls Try.prog 7 args W fun e W' => ∃ v, e = .returned v ∧ Rows.pageChangesSpec.post enc Try.prog Try.f7 false true false false W args v W' := by
 have hW' := hW
 obtain ⟨p, q, hA, hV, rfl, _, _⟩ := hW
 obtain ⟨v0, vs0, d0, ds0, p0, q0, hargs, rfl, rfl, h0, r0⟩ := trodAll_cons (show DataW.TrodAll enc Try.prog W 0 (fun _ => true) true [22, 47, 3] args.toList ds p from hA)
 obtain ⟨v1, vs1, d1, ds1, p1, q1, rfl, rfl, rfl, h1, r1⟩ := trodAll_cons r0
 obtain ⟨v2, vs2, d2, ds2, p2, q2, rfl, rfl, rfl, h2, r2⟩ := trodAll_cons r1
 obtain ⟨rfl, rfl, rfl⟩ := trodAll_nil r2
 obtain rfl : args = #[v0, v1, v2] := by cases args; simp_all
 obtain ⟨rfl, rfl⟩ := trodVars_none hV
 obtain ⟨a0', n0, c0, rfl⟩ := Go.WideShapes.okWide_slice Try.underlying22 (hval 0 22 v0 rfl rfl)
 obtain ⟨f0, hf0⟩ := h0
 obtain ⟨w0, e0, ⟨xs0, sa0⟩⟩ := Jv0 hf0
 obtain rfl : Value.slice a0' n0 c0 = w0 := by
  simp [Value.cells] at e0
  exact e0
 obtain ⟨a1', n1, c1, rfl⟩ := Go.WideShapes.okWide_slice Try.underlying47 (hval 1 47 v1 rfl rfl)
 obtain ⟨f1, hf1⟩ := h1
 obtain ⟨w1, e1, us1, ls1, hu1, sb1, sc1⟩ := Y4m hf1
 obtain rfl : Value.slice a1' n1 c1 = w1 := by
  simp [Value.cells] at e1
  exact e1
 obtain ⟨i2, rfl⟩ := Go.WideShapes.okWide_int Try.underlying3 (hval 2 3 v2 rfl rfl)
 obtain ⟨f2, hf2⟩ := h2
 have bi2 := ZI1 hf2
 have I0 := In.nil (K := KC Try.prog) W
 obtain ⟨x0, s0, B0, I1, vr0, rd0, ex0, cp0⟩ := I0.sl (r := strR) JfK sa0
 obtain ⟨ρ1, h1', ss1, I2, hss1, hj1⟩ := In.sls (r := strR) JfK us1 ls1 I1 hu1 sc1
 obtain ⟨x2, s2, B2, I3, vr2, rd2, ok2⟩ := I2.slN (vs := us1) (ss := ss1) (by rw [hss1, hu1]) sb1 (fun j s u a b => by
  have hl := (List.getElem?_eq_some_iff.1 a).1
  exact (hj1 j s u _ a b (List.getElem?_eq_getElem (by omega))).1)
 refine (XCm I3 (VL.cons ((vr0.ext (fun k y hk => by rw [List.getElem?_append_left (List.getElem?_eq_some_iff.1 hk).1]; exact hk)).ext (Ext.push _ _)) (VL.cons vr2 (VL.cons (.i _ _) (VL.nil _)))) (Xt4 (ls := ls1) I3.hz ((rd0.app h1').app [B2]) rd2 (fun j hj => ?_) i2 bi2).c).mono ?_
 ·have hu : j < us1.length := by omega
  have hl : j < ls1.length := by omega
  obtain ⟨_, q2, q3, _⟩ := hj1 j ss1[j] us1[j] ls1[j] (List.getElem?_eq_getElem hj) (List.getElem?_eq_getElem hu) (List.getElem?_eq_getElem hl)
  have e1 : ss1.getD j .ns = ss1[j] := by rw [List.getD_eq_getElem?_getD, List.getElem?_eq_getElem hj]; rfl
  have e2 : ls1.getD j [] = ls1[j] := by rw [List.getD_eq_getElem?_getD, List.getElem?_eq_getElem hl]; rfl
  rw [e1, e2]
  exact ⟨q2.app [B2], AV.ok_mono (fun i q => by simp only [decide_eq_true_eq, List.length_append, List.length_singleton] at q ⊢; omega) _ q3⟩
 rintro e W' ⟨rfl, hk⟩
 exact ⟨_, rfl, ZvO Try.laidOut Try.underlying4 rfl rfl rfl (by kernel_rfl) hW' hk⟩
end Go.Proofs.Ytbcpcjofkfgjoaa.pageChanges
end
section
namespace Go.Proofs.Ytbcpcjofkfgjoaa.pageChanges
open Go.ChangeShapes Go.WideShapes Go.ChangeAt Go.RowKit
set_option maxRecDepth 100000 in
theorem KsG (os : Os) (started : os.Started) (H : Type) (enc : TypeId × Value → H) :
  ReturnsInHanded {} Try.checked os 7 .any (Rows.pageChangesSpec.pre6 enc Try.prog Try.f7 Rows.pageChangesRow.domain false) (Rows.pageChangesSpec.post enc Try.prog Try.f7 false true false false) := by
 refine returnsInHanded_of_change (C := Try.checked) Try.own started (by kernel_rfl) Try.func7
  (ChangeSpec.witness6 (enc := enc) (C := Try.checked) false ⟨#[], #[.slice none 0 0, .slice none 0 0, .int .i64 0], []⟩ 8 (by kernel_rfl) (by kernel_rfl) (by kernel_rfl) (by kernel_rfl)) ?_
 intro W base args ds gs before hval0 hW hcnd _
 have hval : ∀ (j : Nat) t v, Try.f7.params[j]? = some t → args[j]? = some v → Value.okWide Try.prog W .any base t v := hval0
 exact row enc hval hW
theorem over : Rows.pageChangesRow.holds Try.pinned (OpenSpec.ofChange Rows.pageChangesSpec) :=
 OpenClaim.holds_of_wide 7 Try.f7 rfl rfl rfl rfl rfl rfl rfl ⟨rfl, rfl, rfl, rfl, rfl⟩ rfl rfl rfl rfl rfl (by kernel_rfl) Try.func7 (by kernel_rfl)
  (of_decide_eq_true (by kernel_rfl)) (by unfold Func.isWrapper; first | (rw [if_pos (by decide +kernel)]; kernel_rfl) | (rw [if_neg (by decide +kernel)]; exact ⟨rfl, rfl⟩))
  (fun os started H enc _ => KsG os started H enc)
theorem proved : Rows.PageChangesSaid := over
#print axioms proved
end Go.Proofs.Ytbcpcjofkfgjoaa.pageChanges
end
