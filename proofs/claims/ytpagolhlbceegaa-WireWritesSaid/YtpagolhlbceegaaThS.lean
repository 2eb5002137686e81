/- What is read of a thing, held against it, walked. -/
import Derived.Test.YtpagolhlbceegaaThW
import Derived.Test.YtpagolhlbceegaaWireO
namespace Go.Proofs.Ytpagolhlbceegaa
open Go.RowKit

theorem take_eq_step (xs ys : List Int) {k : Nat} {x y : Int} (hx : xs[k]? = some x) (hy : ys[k]? = some y) (h : xs.take k = ys.take k) : (x == y) = decide (xs.take (k + 1) = ys.take (k + 1)) := by
  rw [List.take_add_one, List.take_add_one, hx, hy, h, Bool.eq_iff_iff]
  simp
set_option maxHeartbeats 1000000 in
theorem sameInts_any (a b : Value) (xs ys : List Int) (w : World) (ha : RdI w a xs) (hb : RdI w b ys) : Calls Try.prog 60 #[a, b] w fun e w' => e = .returned (.bool (decide (xs = ys))) ∧ Kept NoS w w' := by
  obtain ⟨ao, acap, rfl, ha1, ha2⟩ := ha.form
  obtain ⟨bo, bcap, rfl, hb1, hb2⟩ := hb.form
  unfold maxLen at ha2 hb2
  have HA := Lib.hid ha
  have HB := Lib.hid hb
  clear ha hb
  by_cases hl : xs.length = ys.length
  · have HL := Lib.hid hl
    have hl1 : ((xs.length : Int) == ys.length) = true := by simp [hl]
    have hl2 : xs.length ≤ ys.length := by omega
    have hl3 : ys.length ≤ xs.length := by omega
    clear hl
    go_enter Try.func60, Try.ntmps60
    go_wp2_with fail
    go_loopw [5, 6] (fun s i wr => ∃ (k : Nat) (B : Bool), i = .int .i64 k ∧ s = .bool B ∧ k ≤ xs.length ∧ B = decide (xs.take k = ys.take k) ∧ Kept NoS w wr) (fun _ i _ => (xs.length - intOf i).toNat)
    case atStart => exact ⟨0, true, rfl, rfl, by omega, by simp, Kept.refl _ _⟩
    case round =>
      obtain ⟨k, B, rfl, rfl, hk, hB, hkw⟩ := hrel
      cases B with
      | false =>
        have hne : xs ≠ ys := fun e => by subst e; simp at hB
        have HN : Hid (decide (xs = ys) = false) := decide_eq_false hne
        clear hB hne
        go_wp2_with fail
        go_ret
        exact ⟨ret_bool HN.out.symm, hkw⟩
      | true =>
        have hEq : xs.take k = ys.take k := of_decide_eq_true hB.symm
        have HQ := Lib.hid hEq
        clear hB hEq
        by_cases hlt : k < xs.length
        · obtain ⟨x, hx⟩ := some_at xs hlt
          obtain ⟨y, hy⟩ := some_at ys (by omega : k < ys.length)
          obtain ⟨c1, o1, rfl, hc1⟩ := (HA.out.keptN hkw).get hx
          obtain ⟨c2, o2, rfl, hc2⟩ := (HB.out.keptN hkw).get hy
          have HS := Lib.hid (take_eq_step xs ys hx hy HQ.out)
          have hk0 : (0 : Int) ≤ k := by omega
          have hk1 : (k : Int) < xs.length := by omega
          have hk2 : (k : Int) < ys.length := by omega
          clear hx hy
          go_wp2_with fail
          go_quiet (fail)
          go_wp2_with fail
          refine ⟨⟨k + 1, _, by go_num, rfl, by omega, HS.out, hkw.drewN nq⟩, by simp [intOf]; omega⟩
        · have HN : Hid (decide (xs = ys) = true) := by
            have h1 := HQ.out
            rw [List.take_of_length_le (by omega), List.take_of_length_le (by omega)] at h1
            exact decide_eq_true h1
          go_wp2_with fail
          go_ret
          exact ⟨ret_bool HN.out.symm, hkw⟩
  · have HN : Hid (decide (xs = ys) = false) := decide_eq_false fun e => hl (by rw [e])
    have hl1 : ((xs.length : Int) == ys.length) = false := by simp; omega
    clear hl
    go_enter Try.func60, Try.ntmps60
    go_wp2_with fail
    go_loop [5, 6] (fun s i => s = .bool false ∧ i = .int .i64 0) (fun _ _ => 0)
    case atStart => exact ⟨rfl, rfl⟩
    case round =>
      obtain ⟨rfl, rfl⟩ := hrel
      go_wp2_with fail
      go_ret
      exact ⟨ret_bool HN.out.symm, Kept.refl _ _⟩
end Go.Proofs.Ytpagolhlbceegaa
