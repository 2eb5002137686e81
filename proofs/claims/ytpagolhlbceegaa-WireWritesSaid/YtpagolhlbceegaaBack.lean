/- 'WireBack', walked. -/
import Derived.Test.YtpagolhlbceegaaThRA
import Derived.Test.YtpagolhlbceegaaBackL
import Derived.Test.YtpagolhlbceegaaWireM
namespace Go.Proofs.Ytpagolhlbceegaa
open Go.RowKit

theorem encNums_len' (xs : List Int) : (encNums xs).length ≤ 9 * xs.length := encNums_len xs
theorem thAll_len {t : Th} (hd : t.d.length = 32) (hb : t.b.length ≤ 60) (hv : t.v.length ≤ 60) : (thAll t).length ≤ 600 := by
  have e1 := encNum_len t.n
  have e2 := encNum_len t.b.length
  have e3 := encNum_len t.r
  have e4 := encNum_len t.s
  have e5 := encNum_len t.v.length
  have e6 := encNums_len t.v
  unfold thAll thEnc
  split
  · split
    · simp; omega
    split
    · simp; omega
    split
    · simp; omega
    split
    · simp; omega
    split
    · simp; omega
    · simp
  · simp
theorem encAll_len (ts : List Th) (h : ∀ t ∈ ts, (thAll t).length ≤ 600) : (encAll ts).length ≤ 600 * ts.length := by
  unfold encAll
  induction ts with
  | nil => simp
  | cons t ts ih =>
    have h1 := h t (.head _)
    have h2 := ih fun u hu => h u (.tail _ hu)
    rw [List.flatMap_cons, List.length_append, List.length_cons]
    omega
/-- What is so of a thing that was written without a fault. -/
def okT (t : Th) : Bool := (thEnc t).2 || !thKnown t
theorem okT_or {t : Th} (h : okT t = true) : (thEnc t).2 = true ∨ thKnown t = false := by
  unfold okT at h
  simpa using h
def BackW (w : World) (p q : Nat) (lim : Int) (v : Value) (bs : List UInt8) (t : Th) (e : Ending) (w' : World) : Prop :=
  ∃ v' n bs', e = .returned (.int .i64 n) ∧ ((okT t = true ∧ n = 0 ∧ bs' = bs ++ thAll t) ∨ (okT t = false ∧ n = 3 ∧ bs' = bs)) ∧ WrAt w' p q lim v' bs' n ∧ Kept (WrB p q v) w w' ∧ (v'.ownBlock = v.ownBlock ∨ ∃ k, v'.ownBlock = some k ∧ w.heap.size ≤ k)
theorem writes_back (p q : Nat) (lim : Int) (v vB vV : Value) (bs : List UInt8) (t : Th) (w : World) (H0 : WH p q lim v vB vV bs 0 t w) (hl : bs.length + (thAll t).length ≤ lim) : Calls Try.prog 47 #[.pointer (some ⟨p, 0, none⟩), .agg (thC t vB vV).toArray] w (BackW w p q lim v bs t) := by
  refine (writes_any p q lim v vB vV bs 0 t w H0).mono ?_
  intro e w' h
  unfold ThWPost at h
  unfold BackW
  unfold okT thAll at *
  cases hk : thKnown t with
  | true =>
    rw [hk, if_pos rfl] at h hl
    obtain ⟨v', rfl, h1, h2, h3⟩ := h
    cases hn : (thEnc t).2 with
    | true =>
      have hw : wput lim bs 0 (thEnc t).1 (thEnc t).2 = (bs ++ (thEnc t).1, 0) := by
        unfold wput
        rw [hn, if_pos rfl, if_pos rfl, if_neg (by omega)]
      rw [hw] at h1
      rw [hn] at hw
      rw [hw]
      exact ⟨v', _, _, rfl, .inl ⟨rfl, rfl, rfl⟩, h1, h2, h3⟩
    | false =>
      have hw : wput lim bs 0 (thEnc t).1 (thEnc t).2 = (bs, 3) := by
        unfold wput
        rw [hn, if_pos rfl, if_neg (by decide)]
      rw [hw] at h1
      rw [hn] at hw
      rw [hw]
      exact ⟨v', _, _, rfl, .inr ⟨rfl, rfl, rfl⟩, h1, h2, h3⟩
  | false =>
    rw [hk] at h
    obtain ⟨rfl, h1⟩ := h
    exact ⟨v, _, _, rfl, .inl ⟨by simp, rfl, by simp⟩, H0.h.keptN h1, h1.ofN, .inl rfl⟩

theorem has_at {ts : List Th} {k : Nat} {t : Th} (ht : ts[k]? = some t) : Has (encAll ts) (encAll (ts.take k)).length (thAll t) := by
  have h1 : encAll ts = encAll (ts.take k) ++ (thAll t ++ encAll (ts.drop (k + 1))) := by
    have h2 : ts = ts.take (k + 1) ++ ts.drop (k + 1) := (List.take_append_drop _ _).symm
    have h3 : encAll ts = encAll (ts.take (k + 1)) ++ encAll (ts.drop (k + 1)) := by
      unfold encAll
      rw [← List.flatMap_append, List.take_append_drop]
    rw [h3, encAll_take ts ht, List.append_assoc]
  refine ⟨encAll (ts.drop (k + 1)), ?_, ?_⟩
  · rw [h1, List.drop_left]
  · rw [h1, List.length_append]
    omega
theorem Addr.add_zero (a : Addr) : a.add 0 = a := by
  unfold Addr.add
  split <;> simp_all
theorem field_fault (a b : Int) (w' : World) : (Instr.field 68 (.agg #[.int .i64 a, .int .i64 b]) 0).run Try.prog w' = .ok (.int .i64 a) w' := by kernel_rfl
theorem range_kept {w w' : World} {b o : Nat} {cs : List Value} (h : w.rangeAt b o cs) (hk : Kept NoS w w') : w'.rangeAt b o cs := fun j u hu => by
  have hc := h j u hu
  exact (World.cell?_of_block (w := w) (hk.block b (World.block_lt_of_cell? w ⟨b, o + j, none⟩ hc) fun e => e)).trans hc
theorem short_at {bs : List UInt8} (h : bs ≠ []) : Short bs.dropLast 0 bs := ⟨[bs.getLast h], by simp, by rw [List.drop_zero, List.dropLast_concat_getLast h], by omega⟩

set_option maxRecDepth 100000 in
set_option maxHeartbeats 2000000 in
theorem back_any (l : Value) (ts : List Th) (w : World) (hl : RdL ThR 39 w l ts) : Calls Try.prog 7 #[l] w (RetTrue w) := by
  obtain ⟨ao, cap, rfl, hc1, hc2⟩ : ∃ ao cap, l = .slice ao ts.length cap ∧ ts.length ≤ cap ∧ cap ≤ maxLen := by
    obtain ⟨cs, h1, _⟩ := hl
    exact h1.form
  unfold maxLen at hc2
  have HL := Lib.hid hl
  clear hl
  cases hlong : longT ts with
  | true =>
    have HG := Lib.hid hlong
    clear hlong
    go_enter Try.func7, Try.ntmps7
    go_wp2_with fail
    refine (known_any _).mono ?_
    rintro e w1 ⟨rfl, hk1⟩
    go_wp2_with fail
    refine (long_any _ ts _ (HL.out.keptN ThR.stays hk1)).mono ?_
    rw [HG.out]
    rintro e w2 ⟨rfl, hk2⟩
    go_wp2_with fail
    go_ret
    exact ⟨rfl, hk1.trans hk2⟩
  | false =>
    have HSm := Lib.hid (longT_small hlong)
    have HG := Lib.hid hlong
    clear hlong
    have hlen := HSm.out.1
    have HT : Hid (∀ t ∈ ts, ThOk t) := fun t ht => by
      obtain ⟨i, hi⟩ := List.getElem?_of_mem ht
      obtain ⟨_, _, _, _, _, _, _, _, h⟩ := things_at HL.out hi
      exact h
    have HE : Hid (∀ t ∈ ts, (thAll t).length ≤ 600) := fun t ht => thAll_len (HT.out t ht).d (HSm.out.2 t ht).1 (HSm.out.2 t ht).2
    have HEt : Hid (∀ k, (encAll (ts.take k)).length ≤ 18000) := fun k => by
      have := encAll_len (ts.take k) fun t ht => HE.out t (List.mem_of_mem_take ht)
      rw [List.length_take] at this
      omega
    go_enter Try.func7, Try.ntmps7
    go_wp2_with fail
    refine (known_any _).mono ?_
    rintro e w1 ⟨rfl, hk1⟩
    go_wp2_with fail
    refine (long_any _ ts _ (HL.out.keptN ThR.stays hk1)).mono ?_
    rw [HG.out]
    rintro e w2 ⟨rfl, hk2⟩
    have hc2 := hk1.trans hk2
    clear hk1 hk2
    go_wp2_with fail
    refine (newWriter_any 1048576 w2 (by decide) (by decide)).mono ?_
    rintro e w3 ⟨p, q, rfl, hw3, hk3, hp3, hq3⟩
    have hs2 := hc2.size
    have hc3 := hc2.trans hk3
    have hf3 : ∀ k, WrB p q (.slice none 0 0) k → w.heap.size ≤ k := nil_fresh (by omega) (by omega)
    clear hc2 hk3
    go_wp2_with fail
    go_loopw [6] (fun i wr => ∃ (k : Nat) (v : Value), i = .int .i64 k ∧ k ≤ ts.length ∧ WrAt wr p q 1048576 v (encAll (ts.take k)) 0 ∧ Kept NoS w wr ∧ (∀ j, WrB p q v j → w.heap.size ≤ j) ∧ ∀ t ∈ ts.take k, okT t = true) (fun i _ => (ts.length - intOf i).toNat)
    case atStart => exact ⟨0, _, rfl, by omega, hw3, hc3, hf3, by simp⟩
    case round =>
      obtain ⟨k, v, rfl, hk, hwr, hkw, hf, hfine⟩ := hrel
      by_cases hlt : k < ts.length
      · obtain ⟨t, ht⟩ := some_at ts hlt
        obtain ⟨b, off, vB, vV, rfl, hr, hB, hV, hok⟩ := things_at (HL.out.keptN ThR.stays hkw) ht
        have hmem := List.mem_of_getElem? ht
        have hl1 := HE.out t hmem
        have hl2 := HEt.out k
        have hl3 := HSm.out.2 t hmem
        have HP := Lib.hid (writes_back p q 1048576 v vB vV _ t wr ⟨hwr, by omega, hB, hV, hok, by omega, by omega⟩ (by omega))
        have HR := Lib.hid hr
        have HTk := Lib.hid ht
        have hD := thC_len (vB := vB) (vV := vV) hok.d
        have hI : (Try.prog.info? 45).map (·.size) = some (thC t vB vV).length := by rw [hD]; kernel_rfl
        have t0 : decide ((k : Int) < ts.length) = true := by simp; omega
        clear ht hr hB hV hok
        generalize thC t vB vV = D at *
        go_wp2_with (refine wpList_load_mid rfl 45 (.tmp 39) rfl b (off + k * 39) rfl D _ HR.out Try.underlying45 rfl hI ?_)
        refine HP.out.mono ?_
        rintro e w5 ⟨v5, n, bs5, rfl, hcase, h5, hk5, hv5⟩
        have f5 := put_fresh hkw.size hf hv5
        have hkw5 := kept_fresh hkw hk5 hf
        rcases hcase with ⟨hk0, rfl, rfl⟩ | ⟨hk0, rfl, rfl⟩
        · go_wp2_with fail
          refine ⟨⟨k + 1, v5, by go_num, by omega, by rw [encAll_take ts HTk.out]; exact h5, hkw5, f5, ?_⟩, by simp [intOf]; omega⟩
          intro u hu
          rw [List.take_add_one, HTk.out] at hu
          rcases List.mem_append.1 hu with h | h
          · exact hfine u h
          · simp at h
            subst h
            exact hk0
        · go_wp2_with fail
          refine (wDone_any p q 1048576 v5 _ 3 _ h5 (by omega)).mono ?_
          rintro e w6 ⟨v6, rfl, _, hk6, _⟩
          go_wp2_with fail
          go_ret
          exact ⟨rfl, hkw5.trans hk6⟩
      · have hkl : k = ts.length := by omega
        subst hkl
        have t0 : decide ((ts.length : Int) < ts.length) = false := by simp
        rw [List.take_length] at hwr hfine
        have hl2 := HEt.out ts.length
        rw [List.take_length] at hl2
        clear hlt
        have HFn := Lib.hid hfine
        clear hfine
        go_wp2_with fail
        refine (wDone_any p q 1048576 v _ 0 _ hwr (by omega)).mono ?_
        rintro e w6 ⟨b6, rfl, hb6, hk6, hn6⟩
        have hb6' : RdB w6 b6 (encAll ts) := hb6.rd
        have HB6 : Hid (∀ j, b6.ownBlock = some j → j < w6.heap.size) := fun j hj => owns_lt hb6 hj
        clear hb6
        obtain ⟨a6, cap6, rfl, hcap6, hcap6'⟩ := Sl.form hb6'
        unfold maxLen at hcap6'
        go_wp2_with fail
        refine (newReader_any _ _ _ hb6' (by omega)).mono ?_
        rintro e w7 ⟨r, q7, v7, rfl, hr7, hk7, hn7⟩
        have hs6 := (hkw.trans hk6).size
        have hc7 := (hkw.trans hk6).trans hk7
        have hr0 := hn7 r (.inl rfl)
        have hq0 := hn7 q7 (.inr (.inl rfl))
        have h67 := hb6'.keptN hk7
        go_wp2_with fail
        refine (wLen_any p q _ _ _ _ _ (hwr.keptN (hk6.trans hk7))).mono ?_
        rintro e w' ⟨rfl, rfl⟩
        clear hwr hkw hf hn6 hn7 hk6 hk7 hb6'
        go_wp2_with fail
        go_loopw [13] (fun i wr => ∃ k : Nat, i = .int .i64 k ∧ k ≤ ts.length ∧ RdAt wr r q7 v7 (encAll ts) ⟨(encAll (ts.take k)).length, 0, 0⟩ ∧ Kept NoS w wr ∧ RdB wr (.slice a6 (encAll ts).length cap6) (encAll ts)) (fun i _ => (ts.length - intOf i).toNat)
        case atStart => exact ⟨0, rfl, by omega, hr7, hc7, h67⟩
        case round =>
          obtain ⟨k, rfl, hk, hrd, hkw, hb6w⟩ := hrel
          by_cases hlt : k < ts.length
          · obtain ⟨t, ht⟩ := some_at ts hlt
            obtain ⟨b, off, vB, vV, rfl, hr, hB, hV, hok⟩ := things_at HL.out ht
            have hr2 : wr.rangeAt b (off + k * 39) (thC t vB vV) := range_kept hr hkw
            have hmem := List.mem_of_getElem? ht
            have hl3 := HSm.out.2 t hmem
            have hX := rdThing_enc (s := ⟨(encAll (ts.take k)).length, 0, 0⟩) rfl hok (by omega) (by omega) (okT_or (HFn.out t hmem)) (has_at ht)
            have hP := reads_any w r q7 v7 vB vV _ _ t wr ⟨hrd, by omega, hkw, by omega, by omega, hB, hV, hok, by omega, by omega⟩
            rw [hX] at hP
            have HP := Lib.hid hP
            have HR := Lib.hid hr2
            have HTk := Lib.hid ht
            have hD := thC_len (vB := vB) (vV := vV) hok.d
            have hI : (Try.prog.info? 45).map (·.size) = some (thC t vB vV).length := by rw [hD]; kernel_rfl
            have t0 : decide ((k : Int) < ts.length) = true := by simp; omega
            clear ht hr hB hV hok hP hr2 hX
            generalize thC t vB vV = D at *
            go_wp2_with (refine wpList_load_mid rfl 45 (.tmp 88) rfl b (off + k * 39) rfl D _ HR.out Try.underlying45 rfl hI ?_)
            refine HP.out.mono ?_
            rintro e w8 ⟨rfl, h8, hk8⟩
            go_wp2_with fail
            refine ⟨⟨k + 1, by go_num, by omega, by rw [encAll_take ts HTk.out, List.length_append]; exact h8, ?_, ?_⟩, by simp [intOf]; omega⟩
            · exact hkw.step hk8 fun i hi e => by rcases e with e | e <;> omega
            · refine hb6w.kept hk8 fun j hj e => ?_
              have := HB6.out j hj
              rcases e with e | e <;> omega
          · have hkl : k = ts.length := by omega
            subst hkl
            have t0 : decide ((ts.length : Int) < ts.length) = false := by simp
            rw [List.take_length] at hrd
            clear hlt
            go_wp2_with fail
            refine (rEnd_any r q7 _ _ _ _ hrd).mono ?_
            rw [show rdEnd (encAll ts) ⟨(encAll ts).length, 0, 0⟩ = (0, 0) by unfold rdEnd; rw [if_neg (by simp)]]
            rintro e w9 ⟨rfl, hk9⟩
            go_wp2_with fail
            refine (rRest_any r q7 _ _ _ _ (hrd.keptN hk9)).mono ?_
            rw [show rdRest (encAll ts) ⟨(encAll ts).length, 0, 0⟩ = 0 by unfold rdRest; rw [if_pos rfl]; simp]
            rintro e w10 ⟨rfl, n10, rfl⟩
            have hc10 := (hkw.trans hk9).drewN n10
            clear hkw hrd
            by_cases hE0 : encAll ts = []
            · have e0 : (((encAll ts).length : Int) == 0) = true := by simp [hE0]
              go_wp2_with fail
              go_ret
              exact ⟨rfl, hc10⟩
            · have hpos : 0 < (encAll ts).length := List.length_pos_iff.2 hE0
              have e0 : (((encAll ts).length : Int) == 0) = false := by simp [hE0]
              have hB1 : (1 : Int) ≤ (encAll ts).length ∧ ((encAll ts).length : Int) - 1 ≤ cap6 := by omega
              have hdl : (encAll ts).dropLast.length = (encAll ts).length - 1 := List.length_dropLast
              have hcut : Hid (RdB w9 (.slice a6 ((encAll ts).length - 1) cap6) (encAll ts).dropLast) := by
                have := RdB.piece (hb6w.keptN hk9) 0 ((encAll ts).length - 1) (by omega) a6 (by rw [if_neg (by omega)]; cases a6 <;> simp [Addr.add_zero])
                rw [List.drop_zero, ← List.dropLast_eq_take] at this
                exact this
              have HShort := Lib.hid (rdRun_short (encAll ts).dropLast ts ⟨0, 0, 0⟩ rfl (fun t ht => ⟨HT.out t ht, by have := HSm.out.2 t ht; omega, by have := HSm.out.2 t ht; omega, okT_or (HFn.out t ht)⟩) (short_at hE0))
              go_wp2_with fail
              refine (newReader_any _ (encAll ts).dropLast _ (Sl.drewN hcut.out n10) (by omega)).mono ?_
              rintro e w11 ⟨r11, q11, v11, rfl, hr11, hk11, hn11⟩
              have hs10 := hc10.size
              have hc11 := hc10.trans hk11
              have hrr := hn11 r11 (.inl rfl)
              have hqq := hn11 q11 (.inr (.inl rfl))
              clear hn11 hk11 hc10
              go_wp2_with fail
              go_loopw [15] (fun i wr => ∃ k : Nat, i = .int .i64 k ∧ k ≤ ts.length ∧ RdAt wr r11 q11 v11 (encAll ts).dropLast (rdRun (encAll ts).dropLast ⟨0, 0, 0⟩ (ts.take k)) ∧ Kept NoS w wr) (fun i _ => (ts.length - intOf i).toNat)
              case atStart => exact ⟨0, rfl, by omega, hr11, hc11⟩
              case round =>
                obtain ⟨k, rfl, hk, hrd, hkw⟩ := hrel
                by_cases hlt : k < ts.length
                · obtain ⟨t, ht⟩ := some_at ts hlt
                  obtain ⟨b, off, vB, vV, rfl, hr, hB, hV, hok⟩ := things_at HL.out ht
                  have hr2 : wr.rangeAt b (off + k * 39) (thC t vB vV) := range_kept hr hkw
                  have hl3 := HSm.out.2 t (List.mem_of_getElem? ht)
                  have hP := reads_any w r11 q11 v11 vB vV _ _ t wr ⟨hrd, by omega, hkw, by omega, by omega, hB, hV, hok, by omega, by omega⟩
                  have HP := Lib.hid hP
                  have HR := Lib.hid hr2
                  have HTk := Lib.hid ht
                  have hD := thC_len (vB := vB) (vV := vV) hok.d
                  have hI : (Try.prog.info? 45).map (·.size) = some (thC t vB vV).length := by rw [hD]; kernel_rfl
                  have t0 : decide ((k : Int) < ts.length) = true := by simp; omega
                  clear ht hr hB hV hok hP hr2
                  generalize thC t vB vV = D at *
                  go_wp2_with (refine wpList_load_mid rfl 45 (.tmp 122) rfl b (off + k * 39) rfl D _ HR.out Try.underlying45 rfl hI ?_)
                  refine HP.out.mono ?_
                  rintro e w8 ⟨rfl, h8, hk8⟩
                  go_wp2_with fail
                  refine ⟨⟨k + 1, by go_num, by omega, by rw [rdRun_take _ _ _ HTk.out]; exact h8, ?_⟩, by simp [intOf]; omega⟩
                  exact hkw.step hk8 fun i hi e => by rcases e with e | e <;> omega
                · have hkl : k = ts.length := by omega
                  subst hkl
                  have t0 : decide ((ts.length : Int) < ts.length) = false := by simp
                  rw [List.take_length] at hrd
                  clear hlt
                  have HS6 := HShort.out
                  generalize rdRun (encAll ts).dropLast ⟨0, 0, 0⟩ ts = S6 at *
                  go_wp2_with fail
                  refine (rEnd_any r11 q11 _ _ _ _ hrd).mono ?_
                  rw [show rdEnd (encAll ts).dropLast S6 = (6, S6.ea) by unfold rdEnd; rw [HS6, if_neg (by simp)]]
                  rintro e w12 ⟨rfl, hk12⟩
                  have hfld : ∀ w', (Instr.field 68 (.agg #[.int .i64 6, .int .i64 S6.ea]) 0).run Try.prog w' = .ok (.int .i64 6) w' := fun w' => field_fault _ _ w'
                  go_wp2_with fail
                  go_ret
                  exact ⟨rfl, hkw.trans hk12⟩
end Go.Proofs.Ytpagolhlbceegaa
