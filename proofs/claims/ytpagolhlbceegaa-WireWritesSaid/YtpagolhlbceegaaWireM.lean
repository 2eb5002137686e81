/- 'WireKnown', walked: the law itself. -/
import Derived.Test.YtpagolhlbceegaaWireL
namespace Go.Proofs.Ytpagolhlbceegaa
open Go.RowKit

theorem kept_fresh {S : Nat → Prop} {a b c : World} (h : Kept NoS a b) (k : Kept S b c) (hs : ∀ i, S i → a.heap.size ≤ i) : Kept NoS a c :=
  h.step k fun i hi e => by have := hs i e; omega
theorem put_fresh {B p q : Nat} {v v' : Value} {w : World} (hB : B ≤ w.heap.size) (h : ∀ k, WrB p q v k → B ≤ k) (hv : v'.ownBlock = v.ownBlock ∨ ∃ k, v'.ownBlock = some k ∧ w.heap.size ≤ k) : ∀ k, WrB p q v' k → B ≤ k := by
  rintro k (e | e | e)
  · exact h k (.inl e)
  · exact h k (.inr (.inl e))
  · rcases hv with hv | ⟨m, hv, hm⟩
    · exact h k (.inr (.inr (hv ▸ e)))
    · rw [hv] at e; cases e; omega
theorem put_apart {X : Nat → Prop} {p q : Nat} {v v' : Value} {w : World} (h : ∀ k, X k → ¬ WrB p q v k) (hx : ∀ k, X k → k < w.heap.size) (hv : v'.ownBlock = v.ownBlock ∨ ∃ k, v'.ownBlock = some k ∧ w.heap.size ≤ k) : ∀ k, X k → ¬ WrB p q v' k := by
  rintro k hk (e | e | e)
  · exact h k hk (.inl e)
  · exact h k hk (.inr (.inl e))
  · rcases hv with hv | ⟨m, hv, hm⟩
    · exact h k hk (.inr (.inr (hv ▸ e)))
    · rw [hv] at e; cases e; have := hx k hk; omega
theorem nil_fresh {B p q : Nat} (hp : B ≤ p) (hq : B ≤ q) : ∀ k, WrB p q (.slice none 0 0) k → B ≤ k := by
  rintro k (rfl | rfl | e)
  · exact hp
  · exact hq
  · simp [Value.ownBlock] at e

set_option maxRecDepth 100000 in
set_option maxHeartbeats 2000000 in
theorem known_any (w : World) : Calls Try.prog 3 #[] w (RetTrue w) := by
  go_enter Try.func3, Try.ntmps3
  go_wp2_with fail
  refine (newWriter_any 5 w (by decide) (by decide)).mono ?_
  rintro e w1 ⟨p, q, rfl, hw1, hk1, hp1, hq1⟩
  go_wp2_with fail
  refine (newWriter_any 3 w1 (by decide) (by decide)).mono ?_
  rintro e w2 ⟨p2, q2, rfl, hx2, hk2, hp2, hq2⟩
  go_wp2_with fail
  refine (newWriter_bad (-1) w2 (by decide)).mono ?_
  rintro e w' ⟨rfl, rfl⟩
  go_wp2_with fail
  refine (wText_any p q 5 _ [] 0 w2 (hw1.keptN hk2) (by decide) ⟨#[97, 98, 99]⟩ (by decide)).mono ?_
  rw [(by kernel_rfl : wput 5 [] 0 (encNum (⟨#[97, 98, 99]⟩ : ByteArray).size ++ (⟨#[97, 98, 99]⟩ : ByteArray).data.toList) true = ([3, 97, 98, 99], 0))]
  rintro e w3 ⟨v3, rfl, hw3, hk3, hv3⟩
  have s1 := hk1.size
  have s2 := hk2.size
  have s3 := hk3.size
  have f3 := put_fresh (B := w.heap.size) (by omega) (nil_fresh hp1 hq1) hv3
  have ax2 : ∀ k, WrB p2 q2 (.slice none 0 0) k → ¬ WrB p q (.slice none 0 0) k := fun k hk e => by
    have h1 := hw1.lt k e
    have h2 := nil_fresh hp2 hq2 k hk
    omega
  have ax3 := put_apart ax2 hx2.lt hv3
  have hx3 := hx2.kept hk3 ax2
  have hc3 := kept_fresh (hk1.trans hk2) hk3 (nil_fresh hp1 hq1)
  go_wp2_with fail
  refine (wNum_any p q 5 _ _ 0 w3 hw3 (by decide) (-1) ⟨by decide, by decide⟩).mono ?_
  rw [(by kernel_rfl : wput 5 [3, 97, 98, 99] 0 (encNum (-1)) (decide (0 ≤ (-1 : Int))) = ([3, 97, 98, 99], 3))]
  rintro e w4 ⟨v4, rfl, hw4, hk4, hv4⟩
  have s4 := hk4.size
  have f4 := put_fresh (B := w.heap.size) (by omega) f3 hv4
  have ax4 := put_apart ax3 hx3.lt hv4
  have hx4 := hx3.kept hk4 ax3
  have hc4 := kept_fresh hc3 hk4 f3
  go_wp2_with fail
  refine (wNum_any p q 5 _ _ 3 w4 hw4 (by decide) 1 ⟨by decide, by decide⟩).mono ?_
  rw [(by kernel_rfl : wput 5 [3, 97, 98, 99] 3 (encNum 1) (decide (0 ≤ (1 : Int))) = ([3, 97, 98, 99], 3))]
  rintro e w5 ⟨v5, rfl, hw5, hk5, hv5⟩
  have s5 := hk5.size
  have f5 := put_fresh (B := w.heap.size) (by omega) f4 hv5
  have hx5 := hx4.kept hk5 ax4
  have hc5 := kept_fresh hc4 hk5 f4
  go_wp2_with fail
  refine (wText_any p2 q2 3 _ [] 0 w5 hx5 (by decide) ⟨#[97, 98, 99]⟩ (by decide)).mono ?_
  rw [(by kernel_rfl : wput 3 [] 0 (encNum (⟨#[97, 98, 99]⟩ : ByteArray).size ++ (⟨#[97, 98, 99]⟩ : ByteArray).data.toList) true = ([], 4))]
  rintro e w6 ⟨v6, rfl, hx6, hk6, hv6⟩
  have ay5 : ∀ k, WrB p q v5 k → ¬ WrB p2 q2 (.slice none 0 0) k := fun k hk e => put_apart ax4 hx4.lt hv5 k e hk
  have hw6 := hw5.kept hk6 ay5
  have hc6 := kept_fresh hc5 hk6 (nil_fresh (by omega) (by omega))
  go_wp2_with fail
  refine (wDone_any p q 5 _ _ _ _ hw6 (by decide)).mono ?_
  rintro e w7 ⟨v7, rfl, ho7, hk7, hn7⟩
  have hc7 := hc6.trans hk7
  go_wp2_with fail
  refine (form_true 255 _ [192, 255] _ (rdB_new _ [192, 255] _ _ (by kernel_rfl) rfl (by decide)) ⟨by decide, by decide⟩ (by decide) (by kernel_rfl) (by decide) (by kernel_rfl)).mono ?_
  rintro e w8 ⟨rfl, hk8⟩
  have hc8 := hc7.trans (new_kept _ hk8)
  clear hk8
  go_wp2_with fail
  refine (form_true 9223372036854775807 _ [199, 127, 255, 255, 255, 255, 255, 255, 255] _ (rdB_new _ [199, 127, 255, 255, 255, 255, 255, 255, 255] _ _ (by kernel_rfl) rfl (by decide)) ⟨by decide, by decide⟩ (by decide) (by kernel_rfl) (by decide) (by kernel_rfl)).mono ?_
  rintro e w9 ⟨rfl, hk9⟩
  have hc9 := hc8.trans (new_kept _ hk9)
  clear hk9
  go_wp2_with fail
  refine (fails_true 0 0 6 0 _ [192] _ (rdB_new _ [192] _ _ (by kernel_rfl) rfl (by decide)) (by decide) _ (by kernel_rfl) (.inl ⟨rfl, rfl⟩)).mono ?_
  rintro e w10 ⟨rfl, hk10⟩
  have hc10 := hc9.trans (new_kept _ hk10)
  clear hk10
  go_wp2_with fail
  refine (fails_true 0 0 5 0 _ [200] _ (rdB_new _ [200] _ _ (by kernel_rfl) rfl (by decide)) (by decide) _ (by kernel_rfl) (.inl ⟨rfl, rfl⟩)).mono ?_
  rintro e w11 ⟨rfl, hk11⟩
  have hc11 := hc10.trans (new_kept _ hk11)
  clear hk11
  go_wp2_with fail
  refine (fails_true 0 0 5 0 _ [193, 0, 9] _ (rdB_new _ [193, 0, 9] _ _ (by kernel_rfl) rfl (by decide)) (by decide) _ (by kernel_rfl) (.inl ⟨rfl, rfl⟩)).mono ?_
  rintro e w12 ⟨rfl, hk12⟩
  have hc12 := hc11.trans (new_kept _ hk12)
  clear hk12
  go_wp2_with fail
  refine (fails_true 1 9 6 0 _ [3, 97] _ (rdB_new _ [3, 97] _ _ (by kernel_rfl) rfl (by decide)) (by decide) _ (by kernel_rfl) (.inr (.inl ⟨rfl, rfl⟩))).mono ?_
  rintro e w13 ⟨rfl, hk13⟩
  have hc13 := hc12.trans (new_kept _ hk13)
  clear hk13
  go_wp2_with fail
  refine (fails_true 1 2 4 0 _ [3, 97, 98, 99] _ (rdB_new _ [3, 97, 98, 99] _ _ (by kernel_rfl) rfl (by decide)) (by decide) _ (by kernel_rfl) (.inr (.inl ⟨rfl, rfl⟩))).mono ?_
  rintro e w14 ⟨rfl, hk14⟩
  have hc14 := hc13.trans (new_kept _ hk14)
  clear hk14
  go_wp2_with fail
  refine (fails_true 6 0 5 0 _ [2] _ (rdB_new _ [2] _ _ (by kernel_rfl) rfl (by decide)) (by decide) _ (by kernel_rfl) (.inr (.inr (.inr ⟨rfl, rfl⟩)))).mono ?_
  rintro e w15 ⟨rfl, hk15⟩
  have hc15 := hc14.trans (new_kept _ hk15)
  clear hk15
  go_wp2_with fail
  refine (awake_any _).mono ?_
  rintro e w16 ⟨rfl, hk16⟩
  go_wp2_with fail
  go_ret
  exact ⟨rfl, hc15.trans hk16⟩
end Go.Proofs.Ytpagolhlbceegaa
