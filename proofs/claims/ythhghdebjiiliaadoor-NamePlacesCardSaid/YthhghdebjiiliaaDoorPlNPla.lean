/- 'NamePlaces': whatever the input, where unicode.properties reads as the program's text lays it, the law returns true, and everything that was there reads as it did; the card ties the listed variable to the program's text. -/
import Derived.Test.YthhghdebjiiliaaDoorTie
import Derived.Test.YthhghdebjiiliaaDoorCards
import Derived.SevenTiedAt
import Derived.Test.YthhghdebjiiliaaDoorPl17
set_option linter.all false
section
namespace Go.Proofs.YthhghdebjiiliaaDoor.namePlaces
open Go.ChangeShapes Go.WideShapes Go.ChangeAt Go.RowKit
set_option maxRecDepth 100000 in
theorem row {H : Type} (enc : TypeId × Value → H) {W : World} {base : Nat} {args : Array Value} {ds gs : List (DataW H)} {before : List MemPlace}
  (hval : ∀ (j : Nat) t v, Tryd.f7.params[j]? = some t → args[j]? = some v → Value.okWide Tryd.prog W .any base t v)
  (hW : DataW.Whole enc Tryd.prog Tryd.f7.params.toList Rows.namePlacesSpec.vars false W args.toList ds gs before) (g0 : ∃ N, GG N W) :
  Calls Tryd.prog 7 args W fun e W' => ∃ v, e = .returned v ∧ Rows.namePlacesSpec.post enc Tryd.prog Tryd.f7 false true false false W args v W' := by
 have hW' := hW
 obtain ⟨p, q, hA, hV, rfl, _, _⟩ := hW
 obtain ⟨v0, vs0, d0, ds0, p0, q0, hargs, rfl, rfl, h0, r0⟩ := trodAll_cons (show DataW.TrodAll enc Tryd.prog W 0 (fun _ => true) true [9, 9] args.toList ds p from hA)
 obtain ⟨v1, vs1, d1, ds1, p1, q1, rfl, rfl, rfl, h1, r1⟩ := trodAll_cons r0
 obtain ⟨rfl, rfl, rfl⟩ := trodAll_nil r1
 obtain rfl : args = #[v0, v1] := by cases args; simp_all
 obtain ⟨rfl, rfl⟩ := trodVars_none hV
 obtain ⟨i0, rfl⟩ := Go.WideShapes.okWide_string Tryd.underlying9 (hval 0 9 v0 rfl rfl)
 obtain ⟨f0, hf0⟩ := h0
 have bi0 := ZnE hf0
 obtain ⟨i1, rfl⟩ := Go.WideShapes.okWide_string Tryd.underlying9 (hval 1 9 v1 rfl rfl)
 obtain ⟨f1, hf1⟩ := h1
 have bi1 := ZnE hf1
 have I0 := In.nil (K := KC Tryd.prog) W g0
 refine (q1S I0 (VL.cons (.s _ _ rfl) (VL.cons (.s _ _ rfl) (VL.nil _))) (ZHX I0.hz  i0.data.toList i1.data.toList).c).mono ?_
 rintro e W' ⟨rfl, hk⟩
 exact ⟨_, rfl, Z0h Tryd.laidOut Tryd.underlying4 rfl rfl rfl (by kernel_rfl) hW' hk⟩
end Go.Proofs.YthhghdebjiiliaaDoor.namePlaces
end
section
namespace Go.Proofs.YthhghdebjiiliaaDoor.namePlaces
open Go.ChangeShapes Go.WideShapes Go.ChangeAt Go.RowKit
set_option maxRecDepth 100000 in
theorem X0k (os : Os) (started : os.Started) (H : Type) (enc : TypeId × Value → H) :
  ReturnsInHanded {} Tryd.checked os 7 .any (fun w args => (Rows.namePlacesSpec.pre enc Tryd.prog Tryd.f7 Rows.namePlacesRow.domain false w args ∧ laidMetH Tryd.prog qKB w) ∧ sizedMet enc Tryd.prog Tryd.f7 (OpenSpec.ofChange Rows.namePlacesSpec) false w args)
   (Rows.namePlacesSpec.post enc Tryd.prog Tryd.f7 false true false false) := by
 refine returnsInHanded_of_change_and (C := Tryd.checked) (X := fun w _ => laidMetH Tryd.prog qKB w) (fun _ _ _ hh h => h.of_heap hh) Tryd.own started (by kernel_rfl) Tryd.func7
  (ChangeSpec.witness_shaped (enc := enc) (C := Tryd.checked) (os := os) (X := fun w _ => laidMetH Tryd.prog qKB w) false (World.doorLaid Tryd.prog 14 os) #[.string ⟨#[]⟩, .string ⟨#[]⟩] 8 rfl (World.shaped_of_RefB (by kernel_rfl) (by kernel_rfl)) (by kernel_rfl) (by kernel_rfl) (by kernel_rfl) (zTJ os _)) ?_
 intro W base args ds gs before hval0 hW _ _ hL _
 have hval : ∀ (j : Nat) t v, Tryd.f7.params[j]? = some t → args[j]? = some v → Value.okWide Tryd.prog W .any base t v := hval0
 exact row enc hval hW (YF3 hL)
theorem over : Rows.namePlacesRow.holds Tryd.pinned (OpenSpec.ofChange Rows.namePlacesSpec) :=
 OpenClaim.holds_of_wide 7 Tryd.f7 rfl rfl rfl rfl rfl rfl rfl ⟨rfl, rfl, rfl, rfl, rfl⟩ rfl rfl rfl rfl rfl (by kernel_rfl) Tryd.func7 (by kernel_rfl)
  (of_decide_eq_true (by kernel_rfl)) (by unfold Func.isWrapper; first | (rw [if_pos (by decide +kernel)]; kernel_rfl) | (rw [if_neg (by decide +kernel)]; exact ⟨rfl, rfl⟩))
  (fun os started H enc _ => X0k os started H enc)
theorem proved : Rows.NamePlacesCardSaid :=
 Claim7.holds_tied_plain_at .later [] [.data] true Rows.namePlacesCard.stood.harness false over (fun _ h => by cases h) (by kernel_rfl) (fun _ h => by cases h) namePlaces_row_tie rfl ⟨rfl, rfl⟩ (by kernel_rfl) rfl
  (fun f fn hf hfn => by
   obtain rfl : f = 7 := Option.some.inj ((show Tryd.prog.funcNamed "entrepot/entrepotlaw03.NamePlaces" = some 7 by kernel_rfl).symm.trans hf) |>.symm
   obtain rfl : fn = Tryd.f7 := (Option.some.inj (Tryd.func7.symm.trans hfn)).symm
   exact ⟨by kernel_rfl, fun j t ht => by
    have hall : (Tryd.f7.params.toList.all fun u => !Tryd.prog.wantsStandIn u) = true := by kernel_rfl
    have h2 : Tryd.prog.wantsStandIn t = false := by simpa using List.all_eq_true.1 hall t (Array.mem_toList_iff.2 (Array.mem_of_getElem? ht))
    exact h2⟩)
  (by kernel_rfl)
#print axioms proved
end Go.Proofs.YthhghdebjiiliaaDoor.namePlaces
end
