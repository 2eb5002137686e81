/- 'NameBack': whatever the input, where unicode.properties reads as the program's text lays it, the law returns true, and everything that was there reads as it did; the card ties the listed variable to the program's text. -/
import Derived.Clock
import Derived.Test.YthhghdebjiiliaaDoorTie
import Derived.Test.YthhghdebjiiliaaDoorCards
import Derived.SevenTiedAt
import Derived.Test.YthhghdebjiiliaaDoorPb18
set_option linter.all false
section
namespace Go.Proofs.YthhghdebjiiliaaDoor.nameBack
open Go.ChangeShapes Go.WideShapes Go.ChangeAt Go.RowKit
set_option maxRecDepth 100000 in
theorem row {H : Type} (enc : TypeId × Value → H) {W : World} {base : Nat} {args : Array Value} {ds gs : List (DataW H)} {before : List MemPlace}
  (hval : ∀ (j : Nat) t v, Tryd.f5.params[j]? = some t → args[j]? = some v → Value.okWide Tryd.prog W .any base t v)
  (hW : DataW.Whole enc Tryd.prog Tryd.f5.params.toList Rows.nameBackSpec.vars false W args.toList ds gs before) (g0 : ∃ N, GG N W) :
  Calls Tryd.prog 5 args W fun e W' => ∃ v, e = .returned v ∧ Rows.nameBackSpec.post enc Tryd.prog Tryd.f5 false true false false W args v { W' with os := W.os } ∧ Go.Clock.Later W.os W'.os := by
 have hW' := hW
 obtain ⟨p, q, hA, hV, rfl, _, _⟩ := hW
 obtain ⟨v0, vs0, d0, ds0, p0, q0, hargs, rfl, rfl, h0, r0⟩ := trodAll_cons (show DataW.TrodAll enc Tryd.prog W 0 (fun _ => true) true [23, 9, 3, 5] args.toList ds p from hA)
 obtain ⟨v1, vs1, d1, ds1, p1, q1, rfl, rfl, rfl, h1, r1⟩ := trodAll_cons r0
 obtain ⟨v2, vs2, d2, ds2, p2, q2, rfl, rfl, rfl, h2, r2⟩ := trodAll_cons r1
 obtain ⟨v3, vs3, d3, ds3, p3, q3, rfl, rfl, rfl, h3, r3⟩ := trodAll_cons r2
 obtain ⟨rfl, rfl, rfl⟩ := trodAll_nil r3
 obtain rfl : args = #[v0, v1, v2, v3] := by cases args; simp_all
 obtain ⟨rfl, rfl⟩ := trodVars_none hV
 obtain ⟨f0, hf0⟩ := h0
 obtain ⟨i0, e0⟩ := qxL hf0
 obtain rfl : v0 = .agg ((idR.f i0).map AV.val).toArray := Yqk e0 (by rw [List.length_map, idR.len]; decide)
 obtain ⟨i1, rfl⟩ := Go.WideShapes.okWide_string Tryd.underlying9 (hval 1 9 v1 rfl rfl)
 obtain ⟨f1, hf1⟩ := h1
 have bi1 := ZkJ hf1
 obtain ⟨i2, rfl⟩ := Go.WideShapes.okWide_int Tryd.underlying3 (hval 2 3 v2 rfl rfl)
 obtain ⟨f2, hf2⟩ := h2
 have bi2 := ZEC hf2
 obtain ⟨i3, rfl⟩ := Go.WideShapes.okWide_int Tryd.underlying5 (hval 3 5 v3 rfl rfl)
 obtain ⟨f3, hf3⟩ := h3
 have bi3 := YAj hf3
 have I0 := In.nil (K := KC Tryd.prog) W g0
 refine (JJB I0 (VL.cons (zea (KFG _ _ (Xom i0))) (VL.cons (.s _ _ rfl) (VL.cons (.i _ _) (VL.cons (.i _ _) (VL.nil _))))) (XZl I0.hz  i0 i1.data.toList i2 bi2 i3 bi3).c).mono ?_
 rintro e W' ⟨rfl, hk⟩
 have ho : ({ W' with os := W.os } : World) = W' := by
  have := hk.os
  cases W'
  simp_all
 exact ⟨_, rfl, by rw [ho]; exact zCx Tryd.laidOut Tryd.underlying4 rfl rfl rfl (by kernel_rfl) hW' hk, by rw [hk.os]; exact Go.Clock.Later.refl _⟩
end Go.Proofs.YthhghdebjiiliaaDoor.nameBack
end
section
namespace Go.Proofs.YthhghdebjiiliaaDoor.nameBack
open Go.ChangeShapes Go.WideShapes Go.ChangeAt Go.RowKit Go.Clock
set_option maxRecDepth 100000 in
theorem KKk (os : Os) (started : os.Started) (H : Type) (enc : TypeId × Value → H) (F : Stop.Interp) :
  ReturnsInHanded { calm := true } Tryd.checked os 5 .any (fun w args => (Rows.nameBackSpec.pre enc Tryd.prog Tryd.f5 Rows.nameBackRow.domain false w args ∧ laidMetH Tryd.prog JBL w) ∧ sizedMet enc Tryd.prog Tryd.f5 (OpenSpec.ofChange Rows.nameBackSpec) false w args)
   ((OpenSpec.ofChange Rows.nameBackSpec).postWith enc Tryd.prog Tryd.f5 F (outsideKept [.timePasses]) false true false) := by
 refine returns_of_change (C := Tryd.checked) (X := fun w _ => laidMetH Tryd.prog JBL w) (fun _ _ _ hh h => h.of_heap hh) Tryd.own started (by kernel_rfl) Tryd.func5
  (witness_at (enc := enc) (C := Tryd.checked) (os := os) (X := fun w _ => laidMetH Tryd.prog JBL w) (World.doorLaid Tryd.prog 14 os) #[.agg #[.int .u8 0, .int .u8 0, .int .u8 0, .int .u8 0, .int .u8 0, .int .u8 0, .int .u8 0, .int .u8 0, .int .u8 0, .int .u8 0, .int .u8 0, .int .u8 0, .int .u8 0, .int .u8 0, .int .u8 0, .int .u8 0, .int .u8 0, .int .u8 0, .int .u8 0, .int .u8 0, .int .u8 0, .int .u8 0, .int .u8 0, .int .u8 0, .int .u8 0, .int .u8 0, .int .u8 0, .int .u8 0, .int .u8 0, .int .u8 0, .int .u8 0, .int .u8 0], .string ⟨#[]⟩, .int .i64 0, .int .u8 0] 8 rfl (World.shaped_of_RefB (by kernel_rfl) (by kernel_rfl)) (by kernel_rfl) (by kernel_rfl) (by kernel_rfl) (Jsc os _)) ?_
 intro W base args ds gs before hval0 hW _ _ hL _
 have hval : ∀ (j : Nat) t v, Tryd.f5.params[j]? = some t → args[j]? = some v → Value.okWide Tryd.prog W .any base t v := hval0
 exact row enc hval hW (zwi hL)
theorem over : Rows.nameBackRow.holds Tryd.pinned (OpenSpec.ofChange Rows.nameBackSpec) :=
 holds_of_wide_time 5 Tryd.f5 rfl rfl rfl rfl rfl rfl rfl ⟨rfl, rfl, rfl, rfl, rfl⟩ rfl rfl rfl rfl rfl (by kernel_rfl) Tryd.func5 (by kernel_rfl)
  (of_decide_eq_true (by kernel_rfl)) (by unfold Func.isWrapper; first | (rw [if_pos (by decide +kernel)]; kernel_rfl) | (rw [if_neg (by decide +kernel)]; exact ⟨rfl, rfl⟩))
  (fun os started H enc _ F => KKk os started H enc F)
theorem proved : Rows.NameBackCardSaid :=
 Claim7.holds_tied_plain_at .later [] [.data] true Rows.nameBackCard.stood.harness false over (fun _ h => by cases h) (by kernel_rfl) (fun _ h => by cases h) nameBack_row_tie rfl ⟨rfl, rfl⟩ (by kernel_rfl) rfl
  (fun f fn hf hfn => by
   obtain rfl : f = 5 := Option.some.inj ((show Tryd.prog.funcNamed "entrepot/entrepotlaw03.NameBack" = some 5 by kernel_rfl).symm.trans hf) |>.symm
   obtain rfl : fn = Tryd.f5 := (Option.some.inj (Tryd.func5.symm.trans hfn)).symm
   exact ⟨by kernel_rfl, fun j t ht => by
    have hall : (Tryd.f5.params.toList.all fun u => !Tryd.prog.wantsStandIn u) = true := by kernel_rfl
    have h2 : Tryd.prog.wantsStandIn t = false := by simpa using List.all_eq_true.1 hall t (Array.mem_toList_iff.2 (Array.mem_of_getElem? ht))
    exact h2⟩)
  (by kernel_rfl)
#print axioms proved
end Go.Proofs.YthhghdebjiiliaaDoor.nameBack
end
