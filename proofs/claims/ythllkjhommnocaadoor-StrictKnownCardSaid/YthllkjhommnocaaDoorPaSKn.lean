/- 'StrictKnown': whatever the input, where unicode.properties reads as the program's text lays it, the law returns true, and everything that was there reads as it did; the card ties the listed variable to the program's text. -/
import Derived.Test.YthllkjhommnocaaDoorTie
import Derived.Test.YthllkjhommnocaaDoorCards
import Derived.SevenTiedAt
import Derived.Test.YthllkjhommnocaaDoorPa15
set_option linter.all false
section
namespace Go.Proofs.YthllkjhommnocaaDoor.strictKnown
open Go.ChangeShapes Go.WideShapes Go.ChangeAt Go.RowKit
set_option maxRecDepth 100000 in
theorem row {H : Type} (enc : TypeId × Value → H) {W : World} {base : Nat} {args : Array Value} {ds gs : List (DataW H)} {before : List MemPlace}
  (_ : ∀ (j : Nat) t v, Tryd.f4.params[j]? = some t → args[j]? = some v → Value.okWide Tryd.prog W .any base t v)
  (hW : DataW.Whole enc Tryd.prog Tryd.f4.params.toList Rows.strictKnownSpec.vars false W args.toList ds gs before) :
  Calls Tryd.prog 4 args W fun e W' => ∃ v, e = .returned v ∧ Rows.strictKnownSpec.post enc Tryd.prog Tryd.f4 false true false false W args v W' := by
 have hW' := hW
 obtain ⟨p, q, hA, hV, rfl, _, _⟩ := hW
 obtain ⟨hargs, rfl, rfl⟩ := trodAll_nil (show DataW.TrodAll enc Tryd.prog W 0 (fun _ => true) true [] args.toList ds p from hA)
 obtain rfl : args = #[] := by cases args; simp_all
 obtain ⟨rfl, rfl⟩ := trodVars_none hV
 have I0 := In.nil (K := KC Tryd.prog) W
 refine (qTk I0 (VL.nil _) (fc4 [])).mono ?_
 rintro e W' ⟨rfl, hk⟩
 exact ⟨_, rfl, JyS Tryd.laidOut Tryd.underlying4 rfl rfl rfl (by kernel_rfl) hW' hk⟩
end Go.Proofs.YthllkjhommnocaaDoor.strictKnown
end
section
namespace Go.Proofs.YthllkjhommnocaaDoor.strictKnown
open Go.ChangeShapes Go.WideShapes Go.ChangeAt Go.RowKit
set_option maxRecDepth 100000 in
theorem Zt3 (os : Os) (started : os.Started) (H : Type) (enc : TypeId × Value → H) :
  ReturnsInHanded {} Tryd.checked os 4 .any (fun w args => (Rows.strictKnownSpec.pre enc Tryd.prog Tryd.f4 Rows.strictKnownRow.domain false w args ∧ laidMetH Tryd.prog KD6 w) ∧ sizedMet enc Tryd.prog Tryd.f4 (OpenSpec.ofChange Rows.strictKnownSpec) false w args)
   (Rows.strictKnownSpec.post enc Tryd.prog Tryd.f4 false true false false) := by
 refine returnsInHanded_of_change_and (C := Tryd.checked) (X := fun w _ => laidMetH Tryd.prog KD6 w) (fun _ _ _ hh h => h.of_heap hh) Tryd.own started (by kernel_rfl) Tryd.func4
  (ChangeSpec.witness_shaped (enc := enc) (C := Tryd.checked) (os := os) (X := fun w _ => laidMetH Tryd.prog KD6 w) false (World.doorLaid Tryd.prog 14 os) #[] 8 rfl (World.shaped_of_RefB (by kernel_rfl) (by kernel_rfl)) (by kernel_rfl) (by kernel_rfl) (by kernel_rfl) (qgw os _)) ?_
 intro W base args ds gs before hval0 hW _ _ hL _
 have hval : ∀ (j : Nat) t v, Tryd.f4.params[j]? = some t → args[j]? = some v → Value.okWide Tryd.prog W .any base t v := hval0
 exact row enc hval hW
theorem over : Rows.strictKnownRow.holds Tryd.pinned (OpenSpec.ofChange Rows.strictKnownSpec) :=
 OpenClaim.holds_of_wide 4 Tryd.f4 rfl rfl rfl rfl rfl rfl rfl ⟨rfl, rfl, rfl, rfl, rfl⟩ rfl rfl rfl rfl rfl (by kernel_rfl) Tryd.func4 (by kernel_rfl)
  (of_decide_eq_true (by kernel_rfl)) (by unfold Func.isWrapper; first | (rw [if_pos (by decide +kernel)]; kernel_rfl) | (rw [if_neg (by decide +kernel)]; exact ⟨rfl, rfl⟩))
  (fun os started H enc _ => Zt3 os started H enc)
theorem proved : Rows.StrictKnownCardSaid :=
 Claim7.holds_tied_plain_at .later [] [.data] true Rows.strictKnownCard.stood.harness true over (fun _ h => by cases h) (by kernel_rfl) (fun _ h => by cases h) strictKnown_row_tie rfl ⟨rfl, rfl⟩ (by kernel_rfl) rfl
  (fun f fn hf hfn => by
   obtain rfl : f = 4 := Option.some.inj ((show Tryd.prog.funcNamed "entrepot/entrepotlaw12.StrictKnown" = some 4 by kernel_rfl).symm.trans hf) |>.symm
   obtain rfl : fn = Tryd.f4 := (Option.some.inj (Tryd.func4.symm.trans hfn)).symm
   exact ⟨by kernel_rfl, fun j t ht => by
    have hall : (Tryd.f4.params.toList.all fun u => !Tryd.prog.wantsStandIn u) = true := by kernel_rfl
    have h2 : Tryd.prog.wantsStandIn t = false := by simpa using List.all_eq_true.1 hall t (Array.mem_toList_iff.2 (Array.mem_of_getElem? ht))
    exact h2⟩)
  (by kernel_rfl)
#print axioms proved
end Go.Proofs.YthllkjhommnocaaDoor.strictKnown
end
