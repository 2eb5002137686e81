/- The reader's Num, walked. -/
import Derived.Test.YtpagolhlbceegaaWireE
namespace Go.Proofs.Ytpagolhlbceegaa
open Go.RowKit

set_option maxRecDepth 100000 in
set_option maxHeartbeats 1000000 in
theorem rNum_any (r q : Nat) (v : Value) (bs : List UInt8) (s : RSt) (w : World) (h : RdAt w r q v bs s) (hb : bs.length ≤ 4294967296) :
    Calls Try.prog 39 #[.pointer (some ⟨r, 0, none⟩)] w (NumPost w r q v bs (rdNum bs s)) := by
  have c0 := h.hr.at 0 rfl
  have c1 := h.hr.at 1 rfl
  have c2 := h.hr.at 2 rfl
  have d0 := h.hq.at 0 rfl
  have hle := h.le
  obtain ⟨ao, cap, hv, hcap1, hcap2⟩ := Sl.form h.own.rd
  subst hv
  obtain ⟨pos, err, ea⟩ := s
  dsimp only at *
  have H := Lib.hid h
  clear h
  by_cases he : err = 0
  · subst he
    have hf : ((0 : Int) != 0) = false := rfl
    by_cases hpos : pos < bs.length
    · obtain ⟨c, hc⟩ := some_at bs hpos
      obtain ⟨b, off, rfl, hcell⟩ := Sl.get (i := pos) (u := byteV c) H.out.own.rd (by simp [bytesV, hc])
      unfold byteV at hcell
      have hc256 := c.toNat_lt
      have hrd : rdNum bs ⟨pos, 0, ea⟩ = rdNumC bs ⟨pos, 0, ea⟩ c.toNat := by simp only [rdNum, hc, if_true]
      have HR := Lib.hid hrd
      have HC := Lib.hid hc
      clear hrd hc
      have hp0 : (0 : Int) ≤ pos := by omega
      have hp1 : (pos : Int) < bs.length := by omega
      by_cases hc1 : 199 < c.toNat
      · have HF : Hid (rdNum bs ⟨pos, 0, ea⟩ = (0, ⟨pos, 5, pos⟩)) := by rw [HR.out, rdNumC, if_pos hc1]; exact rfl
        go_enter Try.func39, Try.ntmps39
        go_wp2_with (go_at_call 54; refine (rnone_any r q 0 _ c0 d0).mono ?_; rintro e w' ⟨rfl, rfl⟩)
        go_quiet (fail)
        go_wp2_with fail
        go_quiet (fail)
        go_wp2_with fail
        refine region_tail 8 (by kernel_rfl) (by kernel_rfl) ?_; simp only [List.take_succ_cons, List.take_zero, List.drop_succ_cons, List.drop_zero]; (repeat still_step); refine wpStill_nil ?_
        go_wp2_with (go_at_call 55; refine (fails_first q 5 pos 0 ea _ _ (H.out.hq.drewN _) rfl).mono ?_; rintro e w2 ⟨rfl, hq2, hk2⟩)
        go_ret
        rw [HF.out]
        have := rfail (H.out.keptN ((Kept.refl NoS w).drewN _)) hq2 hk2
        exact ⟨rfl, this.1, (((Kept.refl NoS w).drewN _).ofN).trans this.2⟩
      · by_cases hc2 : bs.length < pos + 1 + (c.toNat - 191)
        · have HF : Hid (rdNum bs ⟨pos, 0, ea⟩ = (0, ⟨pos, 6, pos⟩)) := by rw [HR.out, rdNumC, if_neg hc1, if_pos hc2]; exact rfl
          have hc3 : 192 ≤ c.toNat := by omega
          go_enter Try.func39, Try.ntmps39
          go_wp2_with (go_at_call 54; refine (rnone_any r q 0 _ c0 d0).mono ?_; rintro e w' ⟨rfl, rfl⟩)
          go_quiet (fail)
          go_wp2_with fail
          go_quiet (fail)
          go_wp2_with fail
          go_quiet (fail)
          go_wp2_with fail
          refine region_tail 8 (by kernel_rfl) (by kernel_rfl) ?_; simp only [List.take_succ_cons, List.take_zero, List.drop_succ_cons, List.drop_zero]; (repeat still_step); refine wpStill_nil ?_
          go_wp2_with (go_at_call 55; refine (fails_first q 6 pos 0 ea _ _ (H.out.hq.drewN _) rfl).mono ?_; rintro e w2 ⟨rfl, hq2, hk2⟩)
          go_ret
          rw [HF.out]
          have := rfail (H.out.keptN ((Kept.refl NoS w).drewN _)) hq2 hk2
          exact ⟨rfl, this.1, (((Kept.refl NoS w).drewN _).ofN).trans this.2⟩
        · by_cases hc3 : c.toNat < 192
          · have HF : Hid (rdNum bs ⟨pos, 0, ea⟩ = ((c.toNat : Int), (⟨pos + 1, 0, ea⟩ : RSt))) := by rw [HR.out, rdNumC, if_neg hc1, if_neg hc2, if_pos hc3]; exact rfl
            have fr2 := H.out.hr.free 2
            go_enter Try.func39, Try.ntmps39
            go_wp2_with (go_at_call 54; refine (rnone_any r q 0 _ c0 d0).mono ?_; rintro e w' ⟨rfl, rfl⟩)
            go_quiet (fail)
            go_wp2_with fail
            go_quiet (fail)
            go_wp2_with fail
            all_goals
              go_quiet (fail)
              go_wp2_with fail
              go_ret
              rw [HF.out]
              exact ⟨rfl, (radv (H.out.keptN ((Kept.refl NoS w).drewN _)) (pos + 1) (↑pos + 1) (by omega) (by omega)).1, (((Kept.refl NoS w).drewN _).ofN).trans (radv (H.out.keptN ((Kept.refl NoS w).drewN _)) (pos + 1) (↑pos + 1) (by omega) (by omega)).2⟩
          · exact rNum_many r q b off cap bs pos ea c w H.out hb HC.out (by omega) (by omega) (by omega)
    · have hfin : rdNum bs ⟨pos, 0, ea⟩ = (0, ⟨pos, 6, pos⟩) := by simp [rdNum, List.getElem?_eq_none (by omega : bs.length ≤ pos)]
      have HF := Lib.hid hfin
      have ht : decide ((bs.length : Int) ≤ pos) = true := by simp; omega
      clear hfin
      go_enter Try.func39, Try.ntmps39
      go_wp2_with (go_at_call 54; refine (rnone_any r q 0 _ c0 d0).mono ?_; rintro e w' ⟨rfl, rfl⟩)
      go_quiet (fail)
      go_wp2_with fail
      refine region_tail 8 (by kernel_rfl) (by kernel_rfl) ?_
      simp only [List.take_succ_cons, List.take_zero, List.drop_succ_cons, List.drop_zero]
      repeat still_step
      refine wpStill_nil ?_
      go_wp2_with (go_at_call 55; refine (fails_first q 6 pos 0 ea _ _ (H.out.hq.drewN _) rfl).mono ?_; rintro e w2 ⟨rfl, hq2, hk2⟩)
      go_ret
      rw [HF.out]
      have := rfail (H.out.keptN ((Kept.refl NoS w).drewN _)) hq2 hk2
      exact ⟨rfl, this.1, (((Kept.refl NoS w).drewN _).ofN).trans this.2⟩
  · have hfin : rdNum bs ⟨pos, err, ea⟩ = (0, ⟨pos, err, ea⟩) := by simp [rdNum, he]
    have HF := Lib.hid hfin
    have he1 : (err != 0) = true := by simpa using he
    clear hfin
    go_enter Try.func39, Try.ntmps39
    go_wp2_with (go_at_call 54; refine (rnone_any r q err _ c0 d0).mono ?_; rintro e w' ⟨rfl, rfl⟩)
    go_ret
    rw [HF.out]
    exact ⟨rfl, H.out, Kept.refl _ _⟩
end Go.Proofs.Ytpagolhlbceegaa
