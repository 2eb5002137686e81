/- 'WireKnown' and 'awake': the chapter's examples, walked. -/
import Derived.Test.YtpagolhlbceegaaWireK
namespace Go.Proofs.Ytpagolhlbceegaa
open Go.RowKit

theorem rdB_new (w : World) (l : List UInt8) (c : Array Value) (n : Nat) (hc : c = (bytesV l).toArray) (hn : n = l.length) (hm : n ≤ maxLen) : RdB (w.alloc (.cells c 5)) (.slice (some ⟨w.heap.size, 0, none⟩) n n) l := by
  subst hc
  subst hn
  refine .inr ⟨_, 0, l.length, rfl, Nat.le_refl _, hm, fun i u hu => ?_⟩
  rw [(Blk.new w _ _).cell]
  simpa using hu
theorem new_kept {w w1 : World} (o : Obj) (h : Kept NoS (w.alloc o) w1) : Kept NoS w w1 := ((Kept.refl NoS w).alloc o).trans h

set_option maxHeartbeats 1000000 in
theorem awake_any (w : World) : Calls Try.prog 14 #[] w (RetTrue w) := by
  go_enter Try.func14, Try.ntmps14
  go_wp2_with fail
  refine (form_true 0 _ [0] _ (rdB_new _ [0] _ _ (by kernel_rfl) rfl (by decide)) ⟨by decide, by decide⟩ (by decide) (by kernel_rfl) (by decide) (by kernel_rfl)).mono ?_
  rintro e w1 ⟨rfl, hk1⟩
  have hc1 := (new_kept _ hk1)
  clear hk1
  go_wp2_with fail
  refine (form_true 191 _ [191] _ (rdB_new _ [191] _ _ (by kernel_rfl) rfl (by decide)) ⟨by decide, by decide⟩ (by decide) (by kernel_rfl) (by decide) (by kernel_rfl)).mono ?_
  rintro e w2 ⟨rfl, hk2⟩
  have hc2 := hc1.trans (new_kept _ hk2)
  clear hk2
  go_wp2_with fail
  refine (form_true 192 _ [192, 192] _ (rdB_new _ [192, 192] _ _ (by kernel_rfl) rfl (by decide)) ⟨by decide, by decide⟩ (by decide) (by kernel_rfl) (by decide) (by kernel_rfl)).mono ?_
  rintro e w3 ⟨rfl, hk3⟩
  have hc3 := hc2.trans (new_kept _ hk3)
  clear hk3
  go_wp2_with fail
  refine (form_true 256 _ [193, 1, 0] _ (rdB_new _ [193, 1, 0] _ _ (by kernel_rfl) rfl (by decide)) ⟨by decide, by decide⟩ (by decide) (by kernel_rfl) (by decide) (by kernel_rfl)).mono ?_
  rintro e w4 ⟨rfl, hk4⟩
  have hc4 := hc3.trans (new_kept _ hk4)
  clear hk4
  go_wp2_with fail
  refine (fails_true 0 0 5 0 _ [192, 5] _ (rdB_new _ [192, 5] _ _ (by kernel_rfl) rfl (by decide)) (by decide) _ (by kernel_rfl) (.inl ⟨rfl, rfl⟩)).mono ?_
  rintro e w5 ⟨rfl, hk5⟩
  have hc5 := hc4.trans (new_kept _ hk5)
  clear hk5
  go_wp2_with fail
  refine (fails_true 4 0 4 2 _ [1, 2, 7] _ (rdB_new _ [1, 2, 7] _ _ (by kernel_rfl) rfl (by decide)) (by decide) _ (by kernel_rfl) (.inr (.inr (.inl ⟨rfl, rfl⟩)))).mono ?_
  rintro e w6 ⟨rfl, hk6⟩
  have hc6 := hc5.trans (new_kept _ hk6)
  clear hk6
  go_wp2_with fail
  go_ret
  exact ⟨rfl, hc6⟩
end Go.Proofs.Ytpagolhlbceegaa
