/- The form of dots and of vectors. -/
import Derived.Test.YtpagolhlbceegaaWireA
namespace Go.Proofs.Ytpagolhlbceegaa
open Go.RowKit

set_option maxHeartbeats 400000 in
theorem neg_any (n : Int) (w : World) : Calls Try.prog 63 #[.int .i64 n] w fun e w' => e = .returned (.bool (decide (n < 0))) ∧ w = w' := by
  go_enter Try.func63, Try.ntmps63
  go_wp2
  go_ret
  exact ⟨rfl, rfl⟩

theorem any_hit {α : Type} (p : α → Bool) (xs : List α) {k : Nat} {x : α} (hx : xs[k]? = some x) (hp : p x = true) : xs.any p = true :=
  List.any_eq_true.2 ⟨x, List.mem_of_getElem? hx, hp⟩
theorem any_take_miss {α : Type} (p : α → Bool) (xs : List α) {k : Nat} {x : α} (hx : xs[k]? = some x) (hp : p x = false) (h : (xs.take k).any p = false) : (xs.take (k + 1)).any p = false := by
  rw [List.take_add_one, List.any_append, h, hx]
  simp [hp]
set_option maxHeartbeats 400000 in
theorem indexNeg (v : Value) (xs : List Int) (w : World) (hv : RdI w v xs) :
    Calls Try.prog 64 #[v, .func (.func 63) #[] #[]] w fun e w' => (∃ i : Int, e = .returned (.int .i64 i) ∧ decide (0 ≤ i) = xs.any (fun n => decide (n < 0))) ∧ w = w' := by
  obtain ⟨ao, cap, rfl, hc1, hc2, hcell⟩ := hv.at
  unfold maxLen at hc2
  have HC := Lib.hid hcell
  clear hcell hv
  go_enter Try.func64, Try.ntmps64
  go_wp2
  go_loop [5, 8] (fun _ i => ∃ k : Nat, k ≤ xs.length ∧ i = .int .i64 k ∧ (xs.take k).any (fun n => decide (n < 0)) = false) (fun _ i => (xs.length - intOf i).toNat)
  case atStart => exact ⟨0, by omega, rfl, by simp⟩
  case round =>
    obtain ⟨k, hk, rfl, hany⟩ := hrel
    have HA := Lib.hid hany
    clear hany
    by_cases hlt : k < xs.length
    · obtain ⟨x, hx⟩ := some_at xs hlt
      obtain ⟨b, off, rfl, hcx⟩ := HC.out k x hx
      have HX := Lib.hid hx
      clear hx
      go_wp2_with (go_at_call 63; refine (neg_any x _).mono ?_; rintro e w' ⟨rfl, rfl⟩)
      · go_ret
        exact ⟨⟨(k : Int), rfl, by rw [any_hit _ xs HX.out (by simpa using ‹x < 0›)]; simp⟩, rfl⟩
      · exact ⟨⟨k + 1, by omega, by go_num, any_take_miss _ xs HX.out (by simpa using ‹0 ≤ x›) HA.out⟩, by simp [intOf]; omega⟩
    · go_wp2
      go_ret
      exact ⟨⟨-1, rfl, by have := HA.out; rw [List.take_of_length_le (by omega)] at this; rw [this]; rfl⟩, rfl⟩

set_option maxHeartbeats 400000 in
theorem containsNeg (v : Value) (xs : List Int) (w : World) (hv : RdI w v xs) :
    Calls Try.prog 62 #[v, .func (.func 63) #[] #[]] w fun e w' => e = .returned (.bool (xs.any (fun n => decide (n < 0)))) ∧ w = w' := by
  go_enter Try.func62, Try.ntmps62
  go_wp2_with (go_at_call 64; refine (indexNeg v xs _ hv).mono ?_; rintro e w' ⟨⟨i, rfl, hi⟩, rfl⟩; have HI := Lib.hid hi; clear hi)
  go_ret
  exact ⟨ret_bool HI.out, rfl⟩

theorem OwnB.new {w : World} {v : Value} {bs : List UInt8} (h : OwnB w v bs) : ¬ IsB v.ownBlock w.heap.size := fun e => by
  have := owns_lt h e
  omega
theorem FormPost.own {w : World} {v : Value} {bs enc : List UInt8} {ok : Bool} {e : Ending} {w' : World} (h : FormPost w v bs enc ok e w') : ∃ v', e = .returned (.tuple #[v', .bool ok]) ∧ OwnB w' v' (bs ++ enc) ∧ Grew w w' v v' := h

theorem FormPost.drewN {w : World} {v : Value} {bs enc : List UInt8} {ok : Bool} {e : Ending} {w' : World} (h : FormPost w v bs enc ok e w') (n : Nat) : FormPost w v bs enc ok e (w'.drewN n) := by
  obtain ⟨v', h1, h2, h3⟩ := h
  exact ⟨v', h1, h2.keptN ((Kept.refl _ _).drewN n), h3.kept ((Kept.refl _ _).drewN n)⟩
set_option maxRecDepth 100000 in
set_option maxHeartbeats 1000000 in
theorem form_dot (r n : Int) (v : Value) (bs : List UInt8) (w : World) (hr1 : -9223372036854775808 ≤ r) (hr2 : r ≤ 9223372036854775807) (hn1 : -9223372036854775808 ≤ n) (hn2 : n ≤ 9223372036854775807)
    (hown : OwnB w v bs) (hb : bs.length ≤ 1099511627000) :
    Calls Try.prog 61 #[v, .iface 42 (.agg #[.int .i64 r, .int .i64 n])] w (FormPost w v bs (encNum r ++ encNum n) (decide (0 ≤ r) && decide (0 ≤ n))) := by
  have hta := run_ta_yes 20 42 Try.underlying42 (by simp) (.agg #[.int .i64 r, .int .i64 n])
  have hta1 := run_ta_no 20 42 3 Try.underlying3 (by simp) (by decide) zero_int (.agg #[.int .i64 r, .int .i64 n])
  have hta2 := run_ta_no 20 42 9 Try.underlying9 (by simp) (by decide) zero_str (.agg #[.int .i64 r, .int .i64 n])
  have hta3 := run_ta_no 20 42 28 Try.underlying28 (by simp) (by decide) zero_bytes (.agg #[.int .i64 r, .int .i64 n])
  have hta4 := run_ta_no 20 42 40 Try.underlying40 (by simp) (by decide) zero_id (.agg #[.int .i64 r, .int .i64 n])
  have hlr := encNum_len r
  have hln := encNum_len n
  have key : ∀ (R N : Bool), decide (0 ≤ r) = R → decide (0 ≤ n) = N → Calls Try.prog 61 #[v, .iface 42 (.agg #[.int .i64 r, .int .i64 n])] w (FormPost w v bs (encNum r ++ encNum n) (R && N)) := by
    intro R N hR hN
    go_enter Try.func61, Try.ntmps61
    go_wp2_with fail
    refine (form_num r v bs _ hr1 hr2 (hown.alloc _) (by omega)).mono ?_
    rintro e w1 ⟨v1, rfl, ho1, hg1⟩
    have hb1 : Blk w1 w.heap.size #[.int .i64 r, .int .i64 n] 42 := (Blk.new w _ _).kept hg1.1 hown.new
    have hc0 := hb1.cell 0
    have hc1 := hb1.cell 1
    simp only [List.getElem?_toArray, List.getElem?_cons_zero, List.getElem?_cons_succ] at hc0 hc1
    go_wp2_with fail
    refine (form_num n v1 _ _ hn1 hn2 ho1 (by simp only [List.length_append]; omega)).mono ?_
    rintro e w2 ⟨v2, rfl, ho2, hg2⟩
    have hn2 : ¬ IsB v1.ownBlock w.heap.size := fun e => by
      rcases hg1.2 with h | ⟨k, h, h2⟩
      · unfold IsB at e; rw [h] at e; exact hown.new e
      · unfold IsB at e; rw [h] at e; simp at h2; cases e; omega
    have hb2 := hb1.kept hg2.1 hn2
    have hd0 := hb2.cell 0
    have hd1 := hb2.cell 1
    simp only [List.getElem?_toArray, List.getElem?_cons_zero, List.getElem?_cons_succ] at hd0 hd1
    have HB : Hid (Blk w1 w.heap.size #[.int .i64 r, .int .i64 n] 42) := hb1
    clear hb1 hb2 hc0 hc1
    go_wp2_with fail
    have hfin : FormPost w v bs (encNum r ++ encNum n) (R && N) (.returned (.tuple #[v2, .bool (R && N)])) w2 :=
      ⟨v2, rfl, by rw [← List.append_assoc]; exact ho2, Grew.trans ((Grew.refl w v).alloc _) (Grew.trans hg1 hg2)⟩
    have HF := Lib.hid hfin
    clear hfin ho1 ho2 hg1 hg2 HB
    cases R
    · have hR' : ¬ 0 ≤ r := by simpa using hR
      go_quiet (fail)
      go_wp2
      go_ret2
      exact HF.out.drewN _
    · go_quiet (fail)
      go_wp2
      go_ret2
      exact HF.out.drewN _
  exact key _ _ rfl rfl

/-- The numbers of a vector, one behind the other. -/
def encNums (xs : List Int) : List UInt8 := xs.flatMap encNum
theorem encNums_take (xs : List Int) {k : Nat} {x : Int} (hx : xs[k]? = some x) : encNums (xs.take (k + 1)) = encNums (xs.take k) ++ encNum x := by
  unfold encNums
  rw [List.take_add_one, List.flatMap_append, hx]
  simp
theorem encNums_len (xs : List Int) : (encNums xs).length ≤ 9 * xs.length := by
  unfold encNums
  induction xs with
  | nil => simp
  | cons x xs ih => have := encNum_len x; simp only [List.flatMap_cons, List.length_append, List.length_cons]; omega
def I64 (n : Int) : Prop := -9223372036854775808 ≤ n ∧ n ≤ 9223372036854775807
set_option maxRecDepth 100000 in
set_option maxHeartbeats 1000000 in
theorem form_vec (x : Value) (xs : List Int) (v : Value) (bs : List UInt8) (w : World) (hx : RdI w x xs) (hd : ∀ k, x.ownBlock = some k → v.ownBlock ≠ some k) (hs : xs.length ≤ 68719476736) (hi : ∀ n ∈ xs, I64 n)
    (hown : OwnB w v bs) (hb : bs.length ≤ 4294967296) :
    Calls Try.prog 61 #[v, .iface 43 x] w (FormPost w v bs (encNum xs.length ++ encNums xs) (!xs.any (fun n => decide (n < 0)))) := by
  obtain ⟨ao, cap, rfl, hc1, hc2⟩ := hx.form
  unfold maxLen at hc2
  have hta := run_ta_yes 20 43 Try.underlying43 (by simp) (.slice ao xs.length cap)
  have hta1 := run_ta_no 20 43 3 Try.underlying3 (by simp) (by decide) zero_int (.slice ao xs.length cap)
  have hta2 := run_ta_no 20 43 9 Try.underlying9 (by simp) (by decide) zero_str (.slice ao xs.length cap)
  have hta3 := run_ta_no 20 43 28 Try.underlying28 (by simp) (by decide) zero_bytes (.slice ao xs.length cap)
  have hta4 := run_ta_no 20 43 40 Try.underlying40 (by simp) (by decide) zero_id (.slice ao xs.length cap)
  have hta5 := run_ta_no 20 43 42 Try.underlying42 (by simp) (by decide) zero_dot (.slice ao xs.length cap)
  have hl := encNum_len xs.length
  have hll := encNums_len
  have HI := Lib.hid hi
  have HL := Lib.hid hll
  clear hi hll
  go_enter Try.func61, Try.ntmps61
  go_wp2_with fail
  refine (form_num xs.length v bs _ (by omega) (by omega) hown (by omega)).mono ?_
  rintro e w1 ⟨v1, rfl, ho1, hg1⟩
  have HX := Lib.hid hx
  have HD := Lib.hid hd
  clear hx hd
  go_wp2_with fail
  go_loopw [0, 15, 130] (fun s _ c wr => ∃ k : Nat, k ≤ xs.length ∧ c = .int .i64 k ∧ OwnB wr s (bs ++ encNum xs.length ++ encNums (xs.take k)) ∧ Grew w wr v s) (fun _ _ c _ => (xs.length - intOf c).toNat)
  case atStart => exact ⟨0, by omega, rfl, by simpa [encNums] using ho1, hg1⟩
  case round =>
    obtain ⟨k, hk, rfl, ho2, hg2⟩ := hrel
    by_cases hlt : k < xs.length
    · obtain ⟨y, hy⟩ := some_at xs hlt
      obtain ⟨b, off, rfl, hcx⟩ := (HX.out.kept hg2.1 fun k hk e => HD.out k hk e).get hy
      have hyb := HI.out y (List.mem_of_getElem? hy)
      have hlen := HL.out (xs.take k)
      have HY := Lib.hid hy
      clear hy
      go_wp2_with fail
      refine (form_num y u0 _ _ hyb.1 hyb.2 ho2 (by simp only [List.length_append, List.length_take] at hlen ⊢; omega)).mono ?_
      rintro e w3 ⟨v3, rfl, ho3, hg3⟩
      go_wp2_with fail
      refine ⟨⟨k + 1, by omega, by go_num, ?_, Grew.trans hg2 hg3⟩, by simp [intOf]; omega⟩
      rw [encNums_take xs HY.out, ← List.append_assoc]
      exact ho3
    · go_wp2_with (go_at_call 62; refine (containsNeg _ xs _ (HX.out.kept hg2.1 fun k hk e => HD.out k hk e)).mono ?_; rintro e w' ⟨rfl, rfl⟩)
      go_ret2
      refine ⟨u0, rfl, ?_, hg2⟩
      rw [List.take_of_length_le (by omega), List.append_assoc] at ho2
      exact ho2
end Go.Proofs.Ytpagolhlbceegaa
