/- 'StrictFits': whatever the input, where unicode.properties reads as the program's text lays it, the law returns true, and everything that was there reads as it did; the card ties the listed variable to the program's text. -/
import Derived.Test.YthllkjhommnocaaDoorTie
import Derived.Test.YthllkjhommnocaaDoorCards
import Derived.SevenTiedAt
import Derived.Test.YthllkjhommnocaaDoorPb22
set_option linter.all false
section
namespace Go.Proofs.YthllkjhommnocaaDoor.strictFits
open Go.ChangeShapes Go.WideShapes Go.ChangeAt Go.RowKit
set_option maxRecDepth 100000 in
theorem row {H : Type} (enc : TypeId × Value → H) {W : World} {base : Nat} {args : Array Value} {ds gs : List (DataW H)} {before : List MemPlace}
  (hval : ∀ (j : Nat) t v, Tryd.f3.params[j]? = some t → args[j]? = some v → Value.okWide Tryd.prog W .any base t v)
  (hW : DataW.Whole enc Tryd.prog Tryd.f3.params.toList Rows.strictFitsSpec.vars false W args.toList ds gs before) :
  Calls Tryd.prog 3 args W fun e W' => ∃ v, e = .returned v ∧ Rows.strictFitsSpec.post enc Tryd.prog Tryd.f3 false true false false W args v W' := by
 have hW' := hW
 obtain ⟨p, q, hA, hV, rfl, _, _⟩ := hW
 obtain ⟨v0, vs0, d0, ds0, p0, q0, hargs, rfl, rfl, h0, r0⟩ := trodAll_cons (show DataW.TrodAll enc Tryd.prog W 0 (fun _ => true) true [9, 9] args.toList ds p from hA)
 obtain ⟨v1, vs1, d1, ds1, p1, q1, rfl, rfl, rfl, h1, r1⟩ := trodAll_cons r0
 obtain ⟨rfl, rfl, rfl⟩ := trodAll_nil r1
 obtain rfl : args = #[v0, v1] := by cases args; simp_all
 obtain ⟨rfl, rfl⟩ := trodVars_none hV
 obtain ⟨i0, rfl⟩ := Go.WideShapes.okWide_string Tryd.underlying9 (hval 0 9 v0 rfl rfl)
 obtain ⟨f0, hf0⟩ := h0
 have bi0 := ZkJ hf0
 obtain ⟨i1, rfl⟩ := Go.WideShapes.okWide_string Tryd.underlying9 (hval 1 9 v1 rfl rfl)
 obtain ⟨f1, hf1⟩ := h1
 have bi1 := ZkJ hf1
 have I0 := In.nil (K := KC Tryd.prog) W
 refine (JJB I0 (VL.cons (.s _ _ rfl) (VL.cons (.s _ _ rfl) (VL.nil _))) (Zpa I0.hz  i0.data.toList i1.data.toList).c).mono ?_
 rintro e W' ⟨rfl, hk⟩
 exact ⟨_, rfl, zCx Tryd.laidOut Tryd.underlying4 rfl rfl rfl (by kernel_rfl) hW' hk⟩
end Go.Proofs.YthllkjhommnocaaDoor.strictFits
end
section
namespace Go.Proofs.YthllkjhommnocaaDoor.strictFits
open Go.ChangeShapes Go.WideShapes Go.ChangeAt Go.RowKit
set_option maxRecDepth 100000 in
theorem KKk (os : Os) (started : os.Started) (H : Type) (enc : TypeId × Value → H) :
  ReturnsInHanded {} Tryd.checked os 3 .any (fun w args => (Rows.strictFitsSpec.pre enc Tryd.prog Tryd.f3 Rows.strictFitsRow.domain false w args ∧ laidMetH Tryd.prog JBL w) ∧ sizedMet enc Tryd.prog Tryd.f3 (OpenSpec.ofChange Rows.strictFitsSpec) false w args)
   (Rows.strictFitsSpec.post enc Tryd.prog Tryd.f3 false true false false) := by
 refine returnsInHanded_of_change_and (C := Tryd.checked) (X := fun w _ => laidMetH Tryd.prog JBL w) (fun _ _ _ hh h => h.of_heap hh) Tryd.own started (by kernel_rfl) Tryd.func3
  (ChangeSpec.witness_shaped (enc := enc) (C := Tryd.checked) (os := os) (X := fun w _ => laidMetH Tryd.prog JBL w) false (World.doorLaid Tryd.prog 14 os) #[.string { data := #[] }, .string { data := #[] }] 8 rfl (World.shaped_of_RefB (by kernel_rfl) (by kernel_rfl)) (by kernel_rfl) (by kernel_rfl) (by kernel_rfl) (Jsc os _)) ?_
 intro W base args ds gs before hval0 hW _ _ hL _
 have hval : ∀ (j : Nat) t v, Tryd.f3.params[j]? = some t → args[j]? = some v → Value.okWide Tryd.prog W .any base t v := hval0
 exact row enc hval hW
theorem over : Rows.strictFitsRow.holds Tryd.pinned (OpenSpec.ofChange Rows.strictFitsSpec) :=
 OpenClaim.holds_of_wide 3 Tryd.f3 rfl rfl rfl rfl rfl rfl rfl ⟨rfl, rfl, rfl, rfl, rfl⟩ rfl rfl rfl rfl rfl (by kernel_rfl) Tryd.func3 (by kernel_rfl)
  (of_decide_eq_true (by kernel_rfl)) (by unfold Func.isWrapper; first | (rw [if_pos (by decide +kernel)]; kernel_rfl) | (rw [if_neg (by decide +kernel)]; exact ⟨rfl, rfl⟩))
  (fun os started H enc _ => KKk os started H enc)
theorem proved : Rows.StrictFitsCardSaid :=
 Claim7.holds_tied_plain_at .later [] [.data] true Rows.strictFitsCard.stood.harness true over (fun _ h => by cases h) (by kernel_rfl) (fun _ h => by cases h) strictFits_row_tie rfl ⟨rfl, rfl⟩ (by kernel_rfl) rfl
  (fun f fn hf hfn => by
   obtain rfl : f = 3 := Option.some.inj ((show Tryd.prog.funcNamed "entrepot/entrepotlaw12.StrictFits" = some 3 by kernel_rfl).symm.trans hf) |>.symm
   obtain rfl : fn = Tryd.f3 := (Option.some.inj (Tryd.func3.symm.trans hfn)).symm
   exact ⟨by kernel_rfl, fun j t ht => by
    have hall : (Tryd.f3.params.toList.all fun u => !Tryd.prog.wantsStandIn u) = true := by kernel_rfl
    have h2 : Tryd.prog.wantsStandIn t = false := by simpa using List.all_eq_true.1 hall t (Array.mem_toList_iff.2 (Array.mem_of_getElem? ht))
    exact h2⟩)
  (by kernel_rfl)
#print axioms proved
end Go.Proofs.YthllkjhommnocaaDoor.strictFits
end
