/- The chapter's examples: the law's own helpers, walked. -/
import Derived.Test.YtpagolhlbceegaaWireG
namespace Go.Proofs.Ytpagolhlbceegaa
open Go.RowKit

theorem str_eq (a b : List UInt8) : (a == b) = decide (a = b) := by
  rw [Bool.eq_iff_iff]
  simp
set_option maxHeartbeats 400000 in
theorem sameBytes_any (x y : Value) (a b : List UInt8) (w : World) (hx : RdB w x a) (hy : RdB w y b) : Calls Try.prog 33 #[x, y] w fun e w' => e = .returned (.bool (decide (a = b))) ∧ w = w' := by
  have h1 := hx.conv
  have h2 := hy.conv
  have hE := Lib.hid (str_eq a b)
  go_enter Try.func33, Try.ntmps33
  go_wp2
  go_ret
  exact ⟨ret_bool hE.out, rfl⟩

def RetTrue (w : World) (e : Ending) (w' : World) : Prop := e = .returned (.bool true) ∧ Kept NoS w w'
set_option maxRecDepth 100000 in
set_option maxHeartbeats 1000000 in
theorem form_true (n : Int) (x : Value) (want : List UInt8) (w : World) (hx : RdB w x want) (hn : I64 n) (h0 : 0 ≤ n) (henc : encNum n = want) (hlen : want.length ≤ 9) (hrd : rdNum want ⟨0, 0, 0⟩ = (n, ⟨want.length, 0, 0⟩)) :
    Calls Try.prog 12 #[.int .i64 n, x] w (RetTrue w) := by
  have hput : wput 20 [] 0 (encNum n) (decide (0 ≤ n)) = (want, 0) := by
    rw [henc]; unfold wput; rw [if_pos rfl, if_pos (by simpa using h0), if_neg (by simp; omega)]; simp
  have HP := Lib.hid hput
  have HR := Lib.hid hrd
  clear hput hrd henc
  go_enter Try.func12, Try.ntmps12
  go_wp2_with fail
  refine (newWriter_any 20 w (by decide) (by decide)).mono ?_
  rintro e w1 ⟨p, q, rfl, hw1, hk1, hp1, hq1⟩
  go_wp2_with fail
  refine (newReader_any x want w1 (hx.keptN hk1) (by omega)).mono ?_
  rintro e w2 ⟨r, q2, v, rfl, hr2, hk2, hn2⟩
  have hw2 := hw1.keptN hk2
  go_wp2_with fail
  refine (wNum_any p q 20 _ _ _ _ hw2 (by simp) n hn).mono ?_
  rw [HP.out]
  rintro e w3 ⟨v3, rfl, hw3, hk3, hv3⟩
  have hr3 := hr2.kept hk3 fun k hk e => by
    have h1 := hn2 k hk
    have h2 := hw1.lt k e
    omega
  go_wp2_with fail
  refine (wDone_any p q 20 _ _ _ _ hw3 (by omega)).mono ?_
  rintro e w4 ⟨v4, rfl, ho4, hk4, hn4⟩
  have hr4 := hr3.keptN hk4
  have hkk : Kept NoS w w3 := (hk1.trans hk2).step hk3 fun i hi e => by
    rcases e with rfl | rfl | e
    · omega
    · omega
    · simp [Value.ownBlock] at e
  have hx4 : RdB w4 x want := (hx.keptN hkk).keptN hk4
  go_wp2_with fail
  refine (sameBytes_any v4 x want want w4 ho4.rd hx4).mono ?_
  rintro e w' ⟨rfl, rfl⟩
  have ht : decide (want = want) = true := by simp
  go_wp2_with fail
  refine (rNum_any r q2 v want _ w4 hr4 (by omega)).mono ?_
  rw [HR.out]
  rintro e w5 ⟨rfl, hr5, hk5⟩
  go_wp2_with fail
  refine (rEnd_any r q2 v want _ w5 hr5).mono ?_
  rintro e w6 ⟨rfl, hk6⟩
  have hend : rdEnd want ⟨want.length, 0, 0⟩ = (0, 0) := by simp [rdEnd]
  rw [hend]
  go_wp2_with fail
  refine (rRest_any r q2 v want _ w6 (hr5.keptN hk6)).mono ?_
  rintro e w7 ⟨rfl, m, rfl⟩
  have hrest : rdRest want ⟨want.length, 0, 0⟩ = 0 := by simp [rdRest]
  rw [hrest]
  go_wp2_with fail
  go_ret
  refine ⟨rfl, (Kept.trans (Kept.step (hkk.trans hk4) hk5 fun i hi e => ?_) hk6).drewN m⟩
  have h1 := hn2 r (.inl rfl)
  have h2 := hn2 q2 (.inr (.inl rfl))
  have h3 := hk1.size
  rcases e with rfl | rfl <;> omega

set_option maxRecDepth 100000 in
set_option maxHeartbeats 1000000 in
theorem fails_true (kind most e a : Int) (x : Value) (bs : List UInt8) (w : World) (hx : RdB w x bs) (hlen : bs.length ≤ 9) (s : RSt) (hend : rdEnd bs s = (e, a))
    (hk : (kind = 0 ∧ (rdNum bs ⟨0, 0, 0⟩).2 = s) ∨ (kind = 1 ∧ (rdBytes bs ⟨0, 0, 0⟩ most).2 = s) ∨ (kind = 4 ∧ (rdDot bs ⟨0, 0, 0⟩).2 = s) ∨ (kind = 6 ∧ (rdBool bs ⟨0, 0, 0⟩).2 = s)) :
    Calls Try.prog 13 #[.int .i64 kind, .int .i64 most, .int .i64 e, .int .i64 a, x] w (RetTrue w) := by
  have HE := Lib.hid hend
  clear hend
  rcases hk with ⟨rfl, hs⟩ | ⟨rfl, hs⟩ | ⟨rfl, hs⟩ | ⟨rfl, hs⟩
  all_goals
    have HS := Lib.hid hs
    clear hs
    go_enter Try.func13, Try.ntmps13
    go_wp2_with fail
    refine (newReader_any x bs w hx (by omega)).mono ?_
    rintro e1 w1 ⟨r, q, v, rfl, hr1, hk1, hn1⟩
    go_wp2_with (first | (go_at_call 39; refine (rNum_any r q v bs _ _ hr1 (by omega)).mono ?_; rintro e2 w2 ⟨rfl, hr2, hk2⟩) | (go_at_call 40; refine (rText_any r q v bs _ most _ hr1 (by omega)).mono ?_; rintro e2 w2 ⟨rfl, hr2, hk2⟩) | (go_at_call 43; refine (rDot_any r q v bs _ _ hr1 (by omega)).mono ?_; rintro e2 w2 ⟨rfl, hr2, hk2⟩) | (go_at_call 45; refine (rBool_any r q v bs _ _ hr1 (by omega)).mono ?_; rintro e2 w2 ⟨rfl, hr2, hk2⟩) | (go_at_call 46; refine (rEnd_any r q v bs _ _ hr2).mono ?_; rw [HS.out, HE.out]; rintro e3 w3 ⟨rfl, hk3⟩))
    go_ret
    refine ⟨ret_bool (by simp), Kept.trans (Kept.step hk1 hk2 fun i hi e => ?_) hk3⟩
    have h1 := hn1 r (.inl rfl)
    have h2 := hn1 q (.inr (.inl rfl))
    rcases e with rfl | rfl <;> omega
end Go.Proofs.Ytpagolhlbceegaa
