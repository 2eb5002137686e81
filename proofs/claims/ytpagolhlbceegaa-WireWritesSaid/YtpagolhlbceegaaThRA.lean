/- 'reads' at every kind; 'long'. -/
import Derived.Test.YtpagolhlbceegaaThR0
import Derived.Test.YtpagolhlbceegaaThR1
import Derived.Test.YtpagolhlbceegaaThR2
import Derived.Test.YtpagolhlbceegaaThR3
import Derived.Test.YtpagolhlbceegaaThR4
import Derived.Test.YtpagolhlbceegaaThR5
import Derived.Test.YtpagolhlbceegaaThR6
namespace Go.Proofs.Ytpagolhlbceegaa
open Go.RowKit

set_option maxRecDepth 100000 in
set_option maxHeartbeats 1000000 in
theorem readsX (r q : Nat) (v vB vV : Value) (bs : List UInt8) (s : RSt) (t : Th) (w : World) (h : RdAt w r q v bs s) (hk : thKnown t = false) : Calls Try.prog 48 #[.pointer (some ⟨r, 0, none⟩), .agg (thC t vB vV).toArray] w (BoolPost w r q v bs (rdThing bs s t)) := by
  have hbx := Blk.new w (thC t vB vV).toArray 45
  have c0 : (w.alloc (.cells (thC t vB vV).toArray 45)).cell? ⟨w.heap.size, 0, none⟩ = some (.int .i64 t.kind) := by rw [hbx.cell]; simp [thC]
  have hn : t.kind < 0 ∨ 6 < t.kind := by
    simp [thKnown] at hk
    omega
  have HT : Hid (rdThing bs s t = (true, s)) := by
    show rdThing bs s t = (true, s)
    unfold rdThing; simp only [show ¬ t.kind = 0 by omega, show ¬ t.kind = 1 by omega, show ¬ t.kind = 2 by omega, show ¬ t.kind = 3 by omega, show ¬ t.kind = 4 by omega, show ¬ t.kind = 5 by omega, show ¬ t.kind = 6 by omega, or_self, if_false]
  have k0 : (t.kind == 0) = false := by simp; omega
  have k1 : (t.kind == 1) = false := by simp; omega
  have k2 : (t.kind == 2) = false := by simp; omega
  have k3 : (t.kind == 3) = false := by simp; omega
  have k4 : (t.kind == 4) = false := by simp; omega
  have k5 : (t.kind == 5) = false := by simp; omega
  have k6 : (t.kind == 6) = false := by simp; omega
  clear hbx hk hn
  generalize (thC t vB vV).toArray = cs at *
  go_enter Try.func48, Try.ntmps48
  go_wp2_with fail
  go_ret
  rw [HT.out]
  exact ⟨rfl, h.keptN ((Kept.refl NoS w).alloc _), (Kept.refl _ w).alloc _⟩
theorem reads_any (W : World) (r q : Nat) (v vB vV : Value) (bs : List UInt8) (s : RSt) (t : Th) (w : World) (H0 : RH W r q v vB vV bs s t w) : Calls Try.prog 48 #[.pointer (some ⟨r, 0, none⟩), .agg (thC t vB vV).toArray] w (BoolPost w r q v bs (rdThing bs s t)) := by
  by_cases h0 : t.kind = 0
  · exact reads0 W r q v vB vV bs s t w H0 h0
  by_cases h1 : t.kind = 1
  · exact reads1 W r q v vB vV bs s t w H0 h1
  by_cases h2 : t.kind = 2
  · exact reads2 W r q v vB vV bs s t w H0 h2
  by_cases h3 : t.kind = 3
  · exact reads3 W r q v vB vV bs s t w H0 h3
  by_cases h4 : t.kind = 4
  · exact reads4 W r q v vB vV bs s t w H0 h4
  by_cases h5 : t.kind = 5
  · exact reads5 W r q v vB vV bs s t w H0 h5
  by_cases h6 : t.kind = 6
  · exact reads6 W r q v vB vV bs s t w H0 h6
  exact readsX r q v vB vV bs s t w H0.h (by simp [thKnown]; omega)

/-- Things that came in, at a place: the cells of one. -/
theorem things_at {w : World} {ao : Option Addr} {m cap : Nat} {ts : List Th} (h : RdL ThR 39 w (.slice ao m cap) ts) {i : Nat} {t : Th} (ht : ts[i]? = some t) :
    ∃ b off vB vV, ao = some ⟨b, off, none⟩ ∧ w.rangeAt b (off + i * 39) (thC t vB vV) ∧ RdB w vB t.b ∧ RdI w vV t.v ∧ ThOk t := by
  obtain ⟨cs, h1, h2, h3⟩ := h
  obtain ⟨vB, vV, h4, h5, h6, h7⟩ := h3 i t ht
  have hlen := thC_len (t := t) (vB := vB) (vV := vV) h7.d
  have hi : i < ts.length := (List.getElem?_eq_some_iff.1 ht).1
  have hget : ∀ j u, (thC t vB vV)[j]? = some u → cs[i * 39 + j]? = some u := fun j u hu => by
    have hj : j < 39 := by
      have := (List.getElem?_eq_some_iff.1 hu).1
      omega
    rw [← h4, List.getElem?_take_of_lt hj, List.getElem?_drop] at hu
    exact hu
  obtain ⟨b, off, rfl, _⟩ := Sl.get h1 (hget 0 (.int .i64 t.kind) (by simp [thC]))
  refine ⟨b, off, vB, vV, rfl, fun j u hu => ?_, h5, h6, h7⟩
  obtain ⟨b', off', e, hc⟩ := Sl.get h1 (hget j u hu)
  cases e
  rw [Nat.add_assoc]
  exact hc

def longT (ts : List Th) : Bool := (ts.take 31).any (fun t => decide (60 < t.b.length) || decide (60 < t.v.length)) || decide (30 < ts.length)
theorem longT_small {ts : List Th} (h : longT ts = false) : ts.length ≤ 30 ∧ ∀ t ∈ ts, t.b.length ≤ 60 ∧ t.v.length ≤ 60 := by
  unfold longT at h
  simp only [Bool.or_eq_false_iff, decide_eq_false_iff_not] at h
  refine ⟨by omega, fun t ht => ?_⟩
  have h1 := h.1
  rw [List.take_of_length_le (by omega), List.any_eq_false] at h1
  have := h1 t ht
  simp at this
  omega
theorem longT_yes {ts : List Th} {k : Nat} (hk : k + 1 ≤ 31) (h : (ts.take (k + 1)).any (fun t => decide (60 < t.b.length) || decide (60 < t.v.length)) = true) : longT ts = true := by
  unfold longT
  rw [Bool.or_eq_true]
  left
  rw [List.any_eq_true] at h ⊢
  obtain ⟨t, ht, h1⟩ := h
  refine ⟨t, ?_, h1⟩
  have : ts.take (k + 1) = (ts.take 31).take (k + 1) := by rw [List.take_take, Nat.min_eq_left hk]
  rw [this] at ht
  exact List.mem_of_mem_take ht
theorem longT_end {ts : List Th} {k : Nat} (hk : k = ts.length ∨ k = 31) (h : (ts.take k).any (fun t => decide (60 < t.b.length) || decide (60 < t.v.length)) = false) : longT ts = decide (30 < ts.length) := by
  unfold longT
  have : ts.take 31 = ts.take k ∨ 31 < ts.length := by
    rcases hk with rfl | rfl
    · by_cases h31 : ts.length ≤ 31
      · left
        rw [List.take_of_length_le h31, List.take_of_length_le (Nat.le_refl _)]
      · right; omega
    · left; rfl
  rcases this with e | e
  · rw [e, h]
    rfl
  · simp [show 30 < ts.length by omega]
set_option maxHeartbeats 1000000 in
theorem long_any (l : Value) (ts : List Th) (w : World) (hl : RdL ThR 39 w l ts) : Calls Try.prog 16 #[l] w fun e w' => e = .returned (.bool (longT ts)) ∧ Kept NoS w w' := by
  obtain ⟨ao, cap, rfl, hc1, hc2⟩ : ∃ ao cap, l = .slice ao ts.length cap ∧ ts.length ≤ cap ∧ cap ≤ maxLen := by
    obtain ⟨cs, h1, _⟩ := hl
    exact h1.form
  unfold maxLen at hc2
  have HL := Lib.hid hl
  clear hl
  go_enter Try.func16, Try.ntmps16
  go_wp2_with fail
  go_loopw [3] (fun i wr => ∃ k : Nat, i = .int .i64 k ∧ k ≤ ts.length ∧ k ≤ 31 ∧ (ts.take k).any (fun t => decide (60 < t.b.length) || decide (60 < t.v.length)) = false ∧ Kept NoS w wr) (fun i _ => (31 - intOf i).toNat)
  case atStart => exact ⟨0, rfl, by omega, by omega, by simp, Kept.refl _ _⟩
  case round =>
    obtain ⟨k, rfl, hk, hk31, hany, hkw⟩ := hrel
    have HA := Lib.hid hany
    clear hany
    by_cases hlt : k < ts.length ∧ k < 31
    · obtain ⟨hlt1, hlt2⟩ := hlt
      obtain ⟨t, ht⟩ := some_at ts hlt1
      obtain ⟨b, off, vB, vV, rfl, hr, hB, hV, hok⟩ := things_at (HL.out.keptN ThR.stays hkw) ht
      obtain ⟨aB, cB, rfl⟩ := hB.form
      obtain ⟨aV, cV, rfl, _, _⟩ := hV.form
      have c2 : wr.cell? ⟨b, off + k * 39 + 2, none⟩ = some (.slice aB t.b.length cB) := hr 2 _ (by simp [thC])
      have c37 : wr.cell? ⟨b, off + k * 39 + 37, none⟩ = some (.slice aV t.v.length cV) := hr 37 _ (thC_d hok.d 2 (by decide))
      have HT := Lib.hid ht
      have t0 : decide ((k : Int) < ts.length) = true := by simp; omega
      have t1 : decide ((k : Int) < 31) = true := by simp; omega
      clear ht hr hB hV
      have hany1 : ((ts.take (k + 1)).any fun t => decide (60 < t.b.length) || decide (60 < t.v.length)) = (decide (60 < t.b.length) || decide (60 < t.v.length)) := by
        rw [List.take_add_one, HT.out, List.any_append, HA.out]
        simp
      have HX := Lib.hid hany1
      have HLT : Hid ((decide (60 < t.b.length) || decide (60 < t.v.length)) = true → longT ts = true) := fun hc => longT_yes (k := k) (by omega) (by rw [HX.out]; exact hc)
      clear hany1
      by_cases hb60 : 60 < t.b.length
      · have HR : Hid (longT ts = true) := HLT.out (by simp [hb60])
        go_wp2_with fail
        all_goals go_ret
        all_goals exact ⟨ret_bool HR.out.symm, hkw⟩
      · by_cases hv60 : 60 < t.v.length
        · have HR : Hid (longT ts = true) := HLT.out (by simp [hv60])
          go_wp2_with fail
          all_goals go_ret
          all_goals exact ⟨ret_bool HR.out.symm, hkw⟩
        · have HN : Hid ((decide (60 < t.b.length) || decide (60 < t.v.length)) = false) := by
            show _ = _
            simp [hb60, hv60]
          go_wp2_with fail
          refine ⟨⟨k + 1, by go_num, by omega, by omega, by rw [HX.out, HN.out], hkw⟩, by simp [intOf]; omega⟩
    · have HR : Hid (longT ts = decide (30 < ts.length)) := longT_end (by omega) HA.out
      by_cases hl : k < ts.length
      · have t0 : decide ((k : Int) < ts.length) = true := by simp; omega
        have t1 : decide ((k : Int) < 31) = false := by simp; omega
        go_wp2_with fail
        go_ret
        exact ⟨ret_bool (by rw [HR.out]; simp; omega), hkw⟩
      · have t0 : decide ((k : Int) < ts.length) = false := by simp; omega
        go_wp2_with fail
        go_ret
        exact ⟨ret_bool (by rw [HR.out]; simp; omega), hkw⟩
end Go.Proofs.Ytpagolhlbceegaa
