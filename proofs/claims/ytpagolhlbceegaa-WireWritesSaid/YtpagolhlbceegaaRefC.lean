/- The document's writer: each kind. -/
import Derived.Test.YtpagolhlbceegaaRefB
import Derived.Test.YtpagolhlbceegaaOne
namespace Go.Proofs.Ytpagolhlbceegaa
open Go.RowKit

theorem wput_neg (lim : Int) (bs : List UInt8) (err : Int) (a b : List UInt8) : wput lim bs err a false = wput lim bs err b false := rfl
theorem rdI_lit (w : World) (xs : List Int) (c : Array Value) (n : Nat) (hc : c = (xs.map (Value.int .i64)).toArray) (hn : n = xs.length) (hm : n ≤ maxLen) : RdI (w.alloc (.cells c 3)) (.slice (some ⟨w.heap.size, 0, none⟩) n n) xs := by
  subst hc hn
  refine .inr ⟨_, 0, _, rfl, Nat.le_refl _, hm, fun i u hu => ?_⟩
  rw [(Blk.new w _ _).cell]
  simpa using hu
theorem RfPost.from {w w1 w2 : World} {x : Nat} {lim : Int} {v : Value} {r : List UInt8 × Int} {e : Ending} (h : RfPost w1 x lim v r e w2) (hk : Kept NoS w w1) : RfPost w x lim v r e w2 := by
  obtain ⟨v', h1, h2, h3, h4⟩ := h
  refine ⟨v', h1, h2, hk.ofN.trans h3, ?_⟩
  rcases h4 with e | ⟨k, e, e2⟩
  · exact .inl e
  · exact .inr ⟨k, e, Nat.le_trans hk.size e2⟩
set_option maxHeartbeats 1000000 in
theorem refWNum_any (x : Nat) (lim : Int) (v : Value) (bs : List UInt8) (err : Int) (w : World) (h : RfAt w x lim v bs err) (hb : bs.length ≤ 4294967296) (n : Int) (hn : I64 n) :
    Calls Try.prog 17 #[.pointer (some ⟨x, 0, none⟩), .int .i64 n] w (RfPost w x lim v (wput lim bs err (encNum n) (decide (0 ≤ n)))) := by
  have h1 := hn.1
  have h2 := hn.2
  have hl := encNum_len n
  have hl0 := encNum_len 0
  by_cases hs : 0 ≤ n
  · rw [decide_eq_true hs]
    go_enter Try.func17, Try.ntmps17
    go_wp2_with fail
    refine (refNum_any n w hs h2).mono ?_
    rintro e w1 ⟨v1, rfl, ho1, hk1, hf1⟩
    go_wp2_with fail
    have hka : Kept NoS w1 (w1.alloc (.cells #[.int .i64 n] 3)) := (Kept.refl NoS w1).alloc _
    have hP := refPut_any x lim v bs err _ ((h.keptN hk1).keptN hka) hb v1 (encNum n) (ho1.rd.keptN hka) (by omega) _ [n] (rdI_lit w1 [n] _ 1 rfl rfl (by decide))
    rw [show (!([n] : List Int).any (fun n => decide (n < 0))) = true by simp; omega] at hP
    refine hP.mono ?_
    intro e w2 hp
    have hp2 := hp.from (hk1.trans hka)
    obtain ⟨v2, rfl, r2⟩ := hp2
    have HR := Lib.hid r2
    clear r2 hp hP
    go_wp2_with fail
    go_ret
    exact ⟨v2, rfl, HR.out⟩
  · rw [decide_eq_false hs, wput_neg lim bs err (encNum n) (encNum 0)]
    have hs' : n ≤ 0 := by omega
    go_enter Try.func17, Try.ntmps17
    go_wp2_with fail
    refine (refNum_any 0 w (by decide) (by decide)).mono ?_
    rintro e w1 ⟨v1, rfl, ho1, hk1, hf1⟩
    go_wp2_with fail
    have hka : Kept NoS w1 (w1.alloc (.cells #[.int .i64 n] 3)) := (Kept.refl NoS w1).alloc _
    have hP := refPut_any x lim v bs err _ ((h.keptN hk1).keptN hka) hb v1 (encNum 0) (ho1.rd.keptN hka) (by omega) _ [n] (rdI_lit w1 [n] _ 1 rfl rfl (by decide))
    rw [show (!([n] : List Int).any (fun n => decide (n < 0))) = false by simp; omega] at hP
    refine hP.mono ?_
    intro e w2 hp
    have hp2 := hp.from (hk1.trans hka)
    obtain ⟨v2, rfl, r2⟩ := hp2
    have HR := Lib.hid r2
    clear r2 hp hP
    go_wp2_with fail
    go_ret
    exact ⟨v2, rfl, HR.out⟩
set_option maxHeartbeats 1000000 in
theorem refBytes_any (b : Value) (xs : List UInt8) (w : World) (hB : RdB w b xs) (hx : xs.length ≤ 4294967296) : Calls Try.prog 22 #[b] w (NewB w (encNum xs.length ++ xs) (fun v' => v')) := by
  obtain ⟨ao, cap, rfl⟩ := hB.form
  have hl := encNum_len xs.length
  go_enter Try.func22, Try.ntmps22
  go_wp2_with (first | (go_at_call 53; refine (refNum_any xs.length w (by omega) (by omega)).mono ?_; rintro e w1 ⟨v1, rfl, ho1, hk1, hf1⟩) | (at_builtin; refine wpList_appB rfl (.tmp 5) (.tmp 6) _ rfl _ (encNum xs.length) rfl ho1 _ xs rfl (RdB.src (hB.keptN hk1)) ?_ ?_; rotate_left; intro v2 w2 ho2 hg2; replace hg2 : Grew w1 w2 v1 v2 := hg2))
  · obtain ⟨h1, h2⟩ := Grew.fresh hk1 hf1 hg2
    go_ret
    exact ⟨v2, rfl, ho2, h1, h2⟩
  · omega
set_option maxHeartbeats 1000000 in
theorem refWText_any (x : Nat) (lim : Int) (v : Value) (bs : List UInt8) (err : Int) (w : World) (h : RfAt w x lim v bs err) (hb : bs.length ≤ 4294967296) (s : List UInt8) (hs : s.length ≤ 1048576) :
    Calls Try.prog 18 #[.pointer (some ⟨x, 0, none⟩), .string ⟨s.toArray⟩] w (RfPost w x lim v (wput lim bs err (encNum s.length ++ s) true)) := by
  have hl := encNum_len s.length
  obtain ⟨b0, n0, c0, w0, hcv, hB0, hk0, hs0⟩ := conv_bytes w s (by omega)
  go_enter Try.func18, Try.ntmps18
  go_wp2_with fail
  refine (refBytes_any _ s w0 hB0 (by omega)).mono ?_
  rintro e w1 ⟨v1, rfl, ho1, hk1, hf1⟩
  go_wp2_with fail
  have hP := refPut_any x lim v bs err _ ((h.keptN hk0).keptN hk1) hb v1 (encNum s.length ++ s) ho1.rd (by rw [List.length_append]; omega) (.slice none 0 0) [] (Sl.nil _)
  rw [show (!([] : List Int).any (fun n => decide (n < 0))) = true from rfl] at hP
  refine hP.mono ?_
  intro e w2 hp
  have hp2 := hp.from (hk0.trans hk1)
  obtain ⟨v2, rfl, r2⟩ := hp2
  have HR := Lib.hid r2
  clear r2 hp hP
  go_wp2_with fail
  go_ret
  exact ⟨v2, rfl, HR.out⟩
set_option maxHeartbeats 1000000 in
theorem refWBool_any (x : Nat) (lim : Int) (v : Value) (bs : List UInt8) (err : Int) (w : World) (h : RfAt w x lim v bs err) (hb : bs.length ≤ 4294967296) (b : Bool) :
    Calls Try.prog 31 #[.pointer (some ⟨x, 0, none⟩), .bool b] w (RfPost w x lim v (wput lim bs err [boolB b] true)) := by
  have hka : ∀ c : Array Value, Kept NoS w (w.alloc (.cells c 5)) := fun c => (Kept.refl NoS w).alloc _
  cases b
  all_goals
    go_enter Try.func31, Try.ntmps31
    go_wp2_with fail
  · have hP := refPut_any x lim v bs err _ (h.keptN (hka #[.int .u8 0])) hb _ [boolB false] (ownB_lit w [boolB false] _ 1 rfl rfl (by decide)).rd (by decide) (.slice none 0 0) [] (Sl.nil _)
    rw [show (!([] : List Int).any (fun n => decide (n < 0))) = true from rfl] at hP
    refine hP.mono ?_
    intro e w2 hp
    have hp2 := hp.from (hka #[.int .u8 0])
    obtain ⟨v2, rfl, r2⟩ := hp2
    have HR := Lib.hid r2
    clear r2 hp hP
    go_wp2_with fail
    go_ret
    exact ⟨v2, rfl, HR.out⟩
  · have hP := refPut_any x lim v bs err _ (h.keptN (hka #[.int .u8 1])) hb _ [boolB true] (ownB_lit w [boolB true] _ 1 rfl rfl (by decide)).rd (by decide) (.slice none 0 0) [] (Sl.nil _)
    rw [show (!([] : List Int).any (fun n => decide (n < 0))) = true from rfl] at hP
    refine hP.mono ?_
    intro e w2 hp
    have hp2 := hp.from (hka #[.int .u8 1])
    obtain ⟨v2, rfl, r2⟩ := hp2
    have HR := Lib.hid r2
    clear r2 hp hP
    go_wp2_with fail
    go_ret
    exact ⟨v2, rfl, HR.out⟩
end Go.Proofs.Ytpagolhlbceegaa
