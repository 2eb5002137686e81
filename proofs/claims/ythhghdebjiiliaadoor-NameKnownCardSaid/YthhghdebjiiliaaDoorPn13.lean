/- Part 13 of what the laws' proofs rest on. No condition. -/
import Derived.LaidMore
import Derived.Stop.Joined
import Derived.Test.YthhghdebjiiliaaDoorPn12
set_option linter.all false
section
namespace Go.Proofs.YthhghdebjiiliaaDoor
open Go.RowKit Go.Lib
def isPr (c : Int) : Bool := (Lib.propertiesTab.getD c.toNat 0).toNat &&& 128 != 0
theorem QXZ (q : Nat) : ((q : Int) != 0) = (q != 0) := by
 by_cases hq : q = 0
 ·subst hq; rfl
 ·have h1 : ((q : Int) != 0) = true := by simp; omega
  have h2 : (q != 0) = true := by simp; omega
  rw [h1, h2]
set_option maxHeartbeats 2000000 in
set_option maxRecDepth 1000000 in
theorem YKg (c : Nat) (w : World) (hc : c < 256) (hcell : w.cell? ⟨0, c, none⟩ = some (.int .u8 (Lib.propertiesTab.getD c 0))) :
  Calls Tryd.prog 35 #[.int .i32 c] w fun e w' => e = .returned (.bool (isPr c)) ∧ w' = w := by
 obtain ⟨-, -, -, p4, p5⟩ := Lib.props_all ⟨c, hc⟩
 simp only at p4 p5
 unfold isPr
 rw [Int.toNat_natCast]
 generalize Lib.propertiesTab.getD c 0 = pv at *
 have hand : bits .and .u8 pv 128 = ((pv.toNat &&& 128 : Nat) : Int) := u8_and pv 128 p4 p5 (by decide) (by decide)
 generalize pv.toNat &&& 128 = q at *
 have hcz : (c : Int) ≤ 255 := by omega
 have hcz2 : (c : Int) < 256 := by omega
 go_enter Tryd.func35, Tryd.ntmps35
 go_wp2
 all_goals (go_ret; refine ⟨congrArg Ending.returned ?_, rfl⟩; show Value.bool _ = Value.bool _; refine congrArg Value.bool ?_; exact QXZ q)
theorem JTM {N : Nat} {w : World} (g : GG N w) {c : Nat} (hc : c < 256) : w.cell? ⟨0, c, none⟩ = some (.int .u8 (Lib.propertiesTab.getD c 0)) := by
 obtain ⟨_, _, cs, e, fz, h1, h2⟩ := g
 unfold World.cell?
 simp only [h1, Option.isSome_none, Bool.false_eq_true, if_false]
 exact h2 c hc
theorem XUd {h : List AB} (c : Nat) (hc : c < 256) : FnC Tryd.prog 35 [.i .i32 c] h (.b (isPr c)) h := by
 refine ⟨⟨_, _, Tryd.func35, by decide, rfl⟩, fun ρ w vals hr hv => ?_⟩
 obtain ⟨N, g⟩ := hr.gl.some
 obtain ⟨hs, hvv⟩ := hv
 obtain ⟨l⟩ := vals
 match l, hs, hvv with
 | [x], _, hvv =>
  have hx := hvv 0 _ x rfl rfl
  cases hx
  refine (YKg c w hc (JTM g hc)).mono ?_
  rintro e' w' ⟨rfl, rfl⟩
  exact ⟨_, ρ, rfl, .b _, hr, (Eff.refl ρ h w').p (Ext.refl _) (by rw [hr.len]; exact Nat.le_refl _)⟩
def zHy (args : List AV) (_ : GT) (_ : Nat) : Option (AV × HE) :=
 match args with
 | [.i .i32 c] => match c with
  | .ofNat n => match Nat.blt n 256 with
   | true => some (.b (isPr (.ofNat n)), .z)
   | false => none
  | .negSucc _ => none
 | _ => none
theorem zVL : NvOk Tryd.prog 35 zHy := fun args g h v e hg q => by
 unfold zHy at q
 split at q
 ·split at q
  ·rename_i n
   split at q
   ·rename_i hn
    cases q
    exact ⟨XUd n (by rw [Nat.blt_eq] at hn; exact hn), trivial⟩
   ·cases q
  ·cases q
 ·cases q
end Go.Proofs.YthhghdebjiiliaaDoor
end
section
namespace Go.Proofs.YthhghdebjiiliaaDoor
def tl0 : List (Option TC) := [none, none, none, none, some (.cf w4), none, none, none, some (.cf w8), some (.cf w9), none, some (.cf w11), none, some (.cf w13), some (.cf w14), some (.cf w15)]
theorem ta0 : AllN Tryd.prog 0 tl0 := (AllN.skip (AllN.skip (AllN.skip (AllN.skip (AllN.cons Tryd.func4 sw4 (AllN.skip (AllN.skip (AllN.skip (AllN.cons Tryd.func8 sw8 (AllN.cons Tryd.func9 sw9 (AllN.skip (AllN.cons Tryd.func11 sw11 (AllN.skip (AllN.cons Tryd.func13 sw13 (AllN.cons Tryd.func14 sw14 (AllN.cons Tryd.func15 sw15 trivial))))))))))))))))
def tl1 : List (Option TC) := [some (.cf w16), some (.cf w17), some (.cf w18), some (.cf w19), none, none, none, some (.cf w23), some (.cf w24), some (.cf w25), some (.cf w26), none, none, some (.cf w29), some (.cf w30), some (.cf w31)]
theorem ta1 : AllN Tryd.prog 16 tl1 := (AllN.cons Tryd.func16 sw16 (AllN.cons Tryd.func17 sw17 (AllN.cons Tryd.func18 sw18 (AllN.cons Tryd.func19 sw19 (AllN.skip (AllN.skip (AllN.skip (AllN.cons Tryd.func23 sw23 (AllN.cons Tryd.func24 sw24 (AllN.cons Tryd.func25 sw25 (AllN.cons Tryd.func26 sw26 (AllN.skip (AllN.skip (AllN.cons Tryd.func29 sw29 (AllN.cons Tryd.func30 sw30 (AllN.cons Tryd.func31 sw31 trivial))))))))))))))))
def tl2 : List (Option TC) := [some (.cf w32), some (.cf w33), some (.cf w34), some (.nv zHy), some (.cf w36), some (.cf w37), some (.cf w38), some (.cf w39), some (.cf w40), some (.cf w41), some (.cf w42), none, some (.cf w44), some (.cf w45), some (.cf w46), some (.cf w47)]
theorem ta2 : AllN Tryd.prog 32 tl2 := (AllN.cons Tryd.func32 sw32 (AllN.cons Tryd.func33 sw33 (AllN.cons Tryd.func34 sw34 (AllN.nv zVL (AllN.cons Tryd.func36 sw36 (AllN.cons Tryd.func37 sw37 (AllN.cons Tryd.func38 sw38 (AllN.cons Tryd.func39 sw39 (AllN.cons Tryd.func40 sw40 (AllN.cons Tryd.func41 sw41 (AllN.cons Tryd.func42 sw42 (AllN.skip (AllN.cons Tryd.func44 sw44 (AllN.cons Tryd.func45 sw45 (AllN.cons Tryd.func46 sw46 (AllN.cons Tryd.func47 sw47 trivial))))))))))))))))
def tl3 : List (Option TC) := [none, some (.cf w49), some (.cf w50), some (.cf w51), none, none, some (.cf w54), some (.cf w55), none, none, none, none, none, none, none, none]
theorem ta3 : AllN Tryd.prog 48 tl3 := (AllN.skip (AllN.cons Tryd.func49 sw49 (AllN.cons Tryd.func50 sw50 (AllN.cons Tryd.func51 sw51 (AllN.skip (AllN.skip (AllN.cons Tryd.func54 sw54 (AllN.cons Tryd.func55 sw55 (AllN.skip (AllN.skip (AllN.skip (AllN.skip (AllN.skip (AllN.skip (AllN.skip (AllN.skip trivial))))))))))))))))
def tls : List (List (Option TC)) := [tl0, tl1, tl2, tl3]
noncomputable def TT : TB := tabn tls
theorem zL3 : KO5 Tryd.prog TT := zzm tls (AllNs.cons ta0 (AllNs.cons ta1 (AllNs.cons ta2 (AllNs.cons ta3 trivial))))
end Go.Proofs.YthhghdebjiiliaaDoor
end
section
namespace Go.Proofs.YthhghdebjiiliaaDoor
theorem ct4 : runT TT 60 w4 = true := by kernel_rfl
theorem fc4 (h : List AB) : FnC Tryd.prog 4 [] h (.b true) h := FnC.closed (by kernel_rfl) zL3 60 4 (by kernel_rfl) ct4 h
end Go.Proofs.YthhghdebjiiliaaDoor
end
section
namespace Go.Proofs.YthhghdebjiiliaaDoor
open Go.ChangeShapes Go.WideShapes Go.ChangeAt Go.RowKit
abbrev KD6 : List (String × DataW Unit) := [("unicode.properties", Rows.laid_unicode_properties)]
set_option maxRecDepth 100000 in
theorem Qgo : (Rows.laid_unicode_properties : DataW Unit) = Lib.tabData .u8 Lib.propertiesTab := by kernel_rfl
theorem qgw (os : Os) (args : Array Value) : laidMetH Tryd.prog KD6 ((World.doorLaid Tryd.prog 14 os).forCall (fun _ _ => 0) ⟨#[], args, []⟩).memory :=
 laidMetH_of_parts3 (fuel := 8) (laidMet_of_run' 8 (by kernel_rfl) (by kernel_rfl)) (by kernel_rfl) (by kernel_rfl)
theorem Zm2 {W : World} (h : laidMetH Tryd.prog KD6 W) : ∃ N, GG N W := by
 rw [MakeChecks.laidMetH_plain _ _ _ (by kernel_rfl)] at h
 have h' : laidMet Tryd.prog [("unicode.properties", Lib.tabData .u8 Lib.propertiesTab)] W := by
  rw [← Qgo]; exact h
 have ht := Lib.tabIs_of_head (g := 0) (t := 69) (e := 5) (n := 256) (by kernel_rfl) (by kernel_rfl) (by kernel_rfl) (by kernel_rfl) (by kernel_rfl) (by kernel_rfl) h'
 have h0 := ht.cell (g := 0) (by kernel_rfl)
 have hb : ∃ cs e fz, W.heap[0]? = some (.cells cs e fz) := by
  have := h0 0 (by rw [Lib.propertiesTab_length]; decide)
  unfold World.cell? at this
  split at this
  ·rename_i c e fz hb
   exact ⟨c, e, fz, hb⟩
  ·cases this
 obtain ⟨cs, e, fz, hb⟩ := hb
 refine ⟨W.heap.size, Nat.le_refl _, (Array.getElem?_eq_some_iff.1 hb).1, cs, e, fz, hb, fun i hi => ?_⟩
 have := h0 i (by rw [Lib.propertiesTab_length]; exact hi)
 unfold World.cell? at this
 simp only [hb, Option.isSome_none, Bool.false_eq_true, if_false] at this
 simpa using this
end Go.Proofs.YthhghdebjiiliaaDoor
end
