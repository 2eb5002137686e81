/- The document's writer: vectors. -/
import Derived.Test.YtpagolhlbceegaaRefE
namespace Go.Proofs.Ytpagolhlbceegaa
open Go.RowKit

theorem encNums_cut (xs : List Int) (h : xs.any (fun n => decide (n < 0)) = false) : encNums (xs.map cutN) = encNums xs := by
  unfold encNums
  induction xs with
  | nil => rfl
  | cons x xs ih =>
    rw [List.any_cons, Bool.or_eq_false_iff] at h
    have hx : ¬ x < 0 := by simpa using h.1
    rw [List.map_cons, List.flatMap_cons, List.flatMap_cons, ih h.2]
    unfold cutN
    rw [if_neg hx]
theorem wput_cuts (lim : Int) (bs : List UInt8) (err : Int) (a : List UInt8) (xs : List Int) : wput lim bs err (a ++ encNums (xs.map cutN)) (!xs.any (fun n => decide (n < 0))) = wput lim bs err (a ++ encNums xs) (!xs.any (fun n => decide (n < 0))) := by
  cases h : xs.any (fun n => decide (n < 0)) with
  | false => rw [encNums_cut xs h]
  | true => rfl
set_option maxRecDepth 100000 in
set_option maxHeartbeats 1000000 in
theorem refWVector_any (x : Nat) (lim : Int) (v : Value) (bs : List UInt8) (err : Int) (w : World) (h : RfAt w x lim v bs err) (hb : bs.length ≤ 4294967296) (y : Value) (xs : List Int) (hy : RdI w y xs) (hs : xs.length ≤ 16777216) (hi : ∀ n ∈ xs, I64 n) :
    Calls Try.prog 29 #[.pointer (some ⟨x, 0, none⟩), y] w (RfPost w x lim v (wput lim bs err (encNum xs.length ++ encNums xs) (!xs.any (fun n => decide (n < 0))))) := by
  obtain ⟨yo, ycap, rfl, hyc, hyc2⟩ := hy.form
  unfold maxLen at hyc2
  have HL : Hid (∀ k, (encNums ((xs.take k).map cutN)).length ≤ 150994944) := fun k => by
    have := encNums_len ((xs.take k).map cutN)
    rw [List.length_map, List.length_take] at this
    omega
  have HI := Lib.hid hi
  have HY := Lib.hid hy
  have hl := encNum_len xs.length
  clear hi hy
  go_enter Try.func29, Try.ntmps29
  go_wp2_with fail
  refine (refNum_any xs.length w (by omega) (by omega)).mono ?_
  rintro e w1 ⟨v1, rfl, ho1, hk1, hf1⟩
  go_wp2_with fail
  go_loopw [5, 6] (fun s i wr => ∃ k : Nat, i = .int .i64 k ∧ k ≤ xs.length ∧ OwnB wr s (encNum xs.length ++ encNums ((xs.take k).map cutN)) ∧ Kept NoS w wr ∧ ∀ j, s.ownBlock = some j → w.heap.size ≤ j) (fun _ i _ => (xs.length - intOf i).toNat)
  case atStart => exact ⟨0, rfl, by omega, by simpa [encNums] using ho1, hk1, hf1⟩
  case round =>
    obtain ⟨k, rfl, hk, ho, hkw, hf⟩ := hrel
    by_cases hlt : k < xs.length
    · obtain ⟨n, hn⟩ := some_at xs hlt
      have HN : Hid (0 ≤ cutN n ∧ cutN n ≤ 9223372036854775807) := cutN_bd (HI.out n (List.mem_of_getElem? hn))
      obtain ⟨b1, o1, rfl, hc1⟩ := (HY.out.keptN hkw).get hn
      have t0 : decide ((k : Int) < xs.length) = true := by simp; omega
      have mn := cutN_max n
      have hl1 := encNum_len (cutN n)
      have hl2 := HL.out k
      have HT : Hid (encNums ((xs.take (k + 1)).map cutN) = encNums ((xs.take k).map cutN) ++ encNum (cutN n)) := by
        show _ = _
        rw [List.take_add_one, hn]
        simp [encNums]
      clear hn
      go_wp2_with (first | (go_at_call 53; (with_reducible refine (refNum_any _ _ HN.out.1 HN.out.2).mono ?_); rintro e w2 ⟨v2, rfl, ho2, hk2, hf2⟩) | (at_builtin; refine wpList_appB rfl (.tmp 16) (.tmp 22) _ rfl u5 _ rfl (ho.keptN hk2) _ (encNum (cutN n)) rfl (RdB.src ho2.rd) ?_ ?_; rotate_left; intro v3 w3 ho3 hg3; obtain ⟨hk3, hf3⟩ := Grew.fresh (hkw.trans hk2) hf hg3))
      · refine ⟨⟨k + 1, by go_num, by omega, ?_, hk3, hf3⟩, by simp [intOf]; omega⟩
        rw [HT.out, ← List.append_assoc]
        exact ho3
      · simp only [List.length_append]; omega
    · have hkl : k = xs.length := by omega
      subst hkl
      have t0 : decide ((xs.length : Int) < xs.length) = false := by simp
      rw [List.take_length] at ho
      have hl2 := HL.out xs.length
      rw [List.take_length] at hl2
      have hP := refPut_any x lim v bs err _ (h.keptN hkw) hb u5 _ ho.rd (by rw [List.length_append]; omega) _ xs (HY.out.keptN hkw)
      rw [wput_cuts] at hP
      have HP := Lib.hid hP
      have HK := Lib.hid hkw
      clear hP hlt hkw hf ho h
      go_wp2_with fail
      refine HP.out.mono ?_
      intro e w2 hp
      have hp2 := hp.from HK.out
      obtain ⟨v2, rfl, r2⟩ := hp2
      have HR := Lib.hid r2
      clear r2 hp
      go_wp2_with fail
      go_ret
      exact ⟨v2, rfl, HR.out⟩
end Go.Proofs.Ytpagolhlbceegaa
