/- 'WireWrites', walked. -/
import Derived.Test.YtpagolhlbceegaaTwoH
namespace Go.Proofs.Ytpagolhlbceegaa
open Go.RowKit

/-- What was lent stays, whatever writes elsewhere. -/
theorem lent_kept {B : World} {S : Nat → Prop} {w w' : World} {a : Option Addr} {n c : Nat} {bs : List UInt8} (h : OwnB w (.slice a n c) bs) (hf : ∀ k, (Value.slice a n c).ownBlock = some k → B.heap.size ≤ k) (hk : Kept S w w') (hs : ∀ k, S k → k < B.heap.size) : OwnB w' (.slice a n c) bs :=
  h.kept hk fun k hk e => by
    have h1 := hf k hk
    have h2 := hs k e
    omega
set_option maxRecDepth 100000 in
set_option maxHeartbeats 8000000 in
theorem writes_law (lim : Int) (l : Value) (ts : List Th) (w : World) (h0 : 0 ≤ lim) (h1 : lim ≤ 67108864) (hl : RdL ThR 39 w l ts) : Calls Try.prog 4 #[.int .i64 lim, l] w (RetTrue w) := by
  obtain ⟨ao, cap, rfl, hc1, hc2⟩ : ∃ ao cap, l = .slice ao ts.length cap ∧ ts.length ≤ cap ∧ cap ≤ maxLen := by
    obtain ⟨cs, h1, _⟩ := hl
    exact h1.form
  unfold maxLen at hc2
  have HL := Lib.hid hl
  clear hl
  go_enter Try.func4, Try.ntmps4
  go_wp2_with fail
  refine (newWriter_any lim w h0 h1).mono ?_
  rintro e w1 ⟨p, q, rfl, hw1, hk1, hp1, hq1⟩
  go_wp2_with fail
  refine (refNew_any lim w1 h0 h1).mono ?_
  rintro e w2 ⟨x, rfl, hx2, hk2, hxn⟩
  have hT2 : Two w w2 p q x lim (.slice none 0 0) (.slice none 0 0) ([], 0) ([], 0) := by
    have hs := hk1.size
    have hwl := hw1.lt
    refine ⟨hw1.keptN hk2, hx2, hk1.trans hk2, nil_fresh hp1 hq1, ?_, ?_⟩
    · rintro k (rfl | e)
      · omega
      · simp [Value.ownBlock] at e
    · rintro k (rfl | e) hk
      · have := hwl _ hk
        omega
      · simp [Value.ownBlock] at e
  clear hw1 hx2 hk1 hk2 hp1 hq1 hxn
  go_wp2_with fail
  go_loopw [9] (fun i wr => ∃ (k : Nat) (v vx : Value) (r : List UInt8 × Int), i = .int .i64 k ∧ k ≤ ts.length ∧ r.1.length ≤ 600 * k ∧ Two w wr p q x lim v vx r r) (fun i _ => (ts.length - intOf i).toNat)
  case atStart => exact ⟨0, _, _, ([], 0), rfl, by omega, by simp, hT2⟩
  case round =>
    obtain ⟨k, v, vx, r, rfl, hk, hrl, hT⟩ := hrel
    cases hlong : longT ts with
    | true =>
      have HG := Lib.hid hlong
      clear hlong
      go_wp2_with (go_at_call 16; refine (long_any _ ts _ (HL.out.keptN ThR.stays hT.hk)).mono ?_; rw [HG.out]; rintro e w3 ⟨rfl, hk3⟩)
      have hk4 := hT.hk.trans hk3
      clear hT hk3
      refine (awake_any _).mono ?_
      rintro e w4 ⟨rfl, hk5⟩
      go_wp2_with fail
      go_ret
      exact ⟨rfl, hk4.trans hk5⟩
    | false =>
      have HSm := Lib.hid (longT_small hlong)
      have HG := Lib.hid hlong
      clear hlong
      by_cases hlt : k < ts.length
      · obtain ⟨t, ht⟩ := some_at ts hlt
        have t0 : decide ((k : Int) < ts.length) = true := by simp; omega
        obtain ⟨b, off, vB, vV, rfl, hr0, hB0, hV0, hok⟩ := things_at HL.out ht
        go_wp2_with fail
        refine (long_any _ ts _ (HL.out.keptN ThR.stays hT.hk)).mono ?_
        rw [HG.out]
        rintro e w3 ⟨rfl, hk3⟩
        have hT3 := hT.keptN hk3
        clear hT hk3
        have hr := range_kept hr0 hT3.hk
        have hB := hB0.keptN hT3.hk
        have hV := hV0.keptN hT3.hk
        have HB0 := Lib.hid hB0
        have HV0 := Lib.hid hV0
        clear hr0 hB0 hV0
        have hsm := HSm.out.2 t (List.mem_of_getElem? ht)
        have hka : Kept NoS w3 (w3.alloc (.cells (thC t vB vV).toArray 45)) := (Kept.refl NoS w3).alloc _
        have HH : Hid (TwoH w (w3.alloc (.cells (thC t vB vV).toArray 45)) p q x lim v vx r t vB vV w3.heap.size) := by
          have hwl := hT3.hw.lt
          have hxl := hT3.hx.lt
          have hlen := HSm.out.1
          refine ⟨hT3.keptN hka, by omega, Blk.new _ _ _, fun e => ?_, fun e => ?_, hB.keptN hka, hV.keptN hka, hok, hsm.1, hsm.2⟩
          · have := hwl _ e
            omega
          · have := hxl _ e
            omega
        have c0 : (w3.alloc (.cells (thC t vB vV).toArray 45)).cell? ⟨w3.heap.size, 0, none⟩ = some (.int .i64 t.kind) := HH.out.blk.at 0 (by simp [thC])
        have hD := thC_len (vB := vB) (vV := vV) hok.d
        have hI : (Try.prog.info? 45).map (·.size) = some (thC t vB vV).length := by rw [hD]; kernel_rfl
        have hI2 : (Try.prog.info? 45).map (·.size) = some (thC t vB vV).toArray.size := by rw [List.size_toArray, hD]; kernel_rfl
        have hsz : (39 : Nat) = (thC t vB vV).toArray.size := by rw [List.size_toArray, hD]
        have h1c : (thC t vB vV).toArray.all (·.oneCell') = true := thC_one hB hV
        have HR := Lib.hid hr
        have HT := Lib.hid ht
        have HO := Lib.hid (And.intro hsz h1c)
        have HL2 : Hid ((thPut lim r t).1.length ≤ 600 * (k + 1)) := by
          have := thPut_len lim r hok.d hsm.1 hsm.2
          show _ ≤ _
          omega
        clear hr hB hV hT3 hka ht hsz h1c
        obtain ⟨D, hDD⟩ : ∃ D, thC t vB vV = D := ⟨_, rfl⟩
        rw [hDD] at HR c0 hD hI hI2 HO
        have HDD := Lib.hid hDD
        clear hDD
        have HBK : Hid (Blk (w3.alloc (.cells D.toArray 45)) w3.heap.size D.toArray 45) := Blk.new _ _ _
        have HC : Hid (D.toArray[1]? = some (.int .i64 t.n) ∧ D.toArray[2]? = some vB ∧ D.toArray[35]? = some (.int .i64 t.r) ∧ D.toArray[36]? = some (.int .i64 t.s) ∧ D.toArray[37]? = some vV ∧ D.toArray[38]? = some (.bool t.is) ∧ ∀ j u, (bytesV t.d)[j]? = some u → D.toArray[3 + j]? = some u) := by
          have hd := HH.out.ht.d
          rw [← HDD.out]
          simp only [List.getElem?_toArray]
          exact ⟨by simp [thC], by simp [thC], thC_d hd 0 (by decide), thC_d hd 1 (by decide), thC_d hd 2 (by decide), thC_d hd 3 (by decide), fun j u hu => thC_id hd j u hu⟩
        rw [HDD.out] at HH
        go_upto_block 2 with (first | (refine wpList_load_mid rfl 45 (.tmp 54) rfl b (off + k * 39) rfl D _ HR.out Try.underlying45 rfl hI ?_) | (refine wpList_store_newA rfl 45 (.tmp 10) (.tmp 55) rfl _ D.toArray _ rfl rfl rfl hI2 HO.out.1 HO.out.2 ?_; intro wb hwb; rw [← hwb] at HH c0 HBK; clear hwb))
        generalize w3.heap.size = g at *
        go_cut [11] (fun s wx => s = .bool true ∧ TwoR w p q x lim (thPut lim r t) wx)
        case first =>
          clear HR HO HT HL2
          cases hkn : thKnown t with
          | true =>
            have hk6 : t.kind = 0 ∨ t.kind = 1 ∨ t.kind = 2 ∨ t.kind = 3 ∨ t.kind = 4 ∨ t.kind = 5 ∨ t.kind = 6 := by
              simp [thKnown] at hkn
              omega
            clear hkn
            rcases hk6 with hkd | hkd | hkd | hkd | hkd | hkd | hkd
            · have HA := Lib.hid (fun W hw => HH.out.num1 hkd W hw)
              have HB2 := Lib.hid (fun W v1 a b => HH.out.num2 hkd W v1 a b)
              obtain ⟨R, hR⟩ : ∃ R, thPut lim r t = R := ⟨_, rfl⟩
              rw [HDD.out, hR] at HA HB2
              have HRR := Lib.hid hR
              clear hR
              have k0 : (t.kind == 0) = true := by simp [hkd]
              clear hkd
              have hs0 := HBK.out.at 1 HC.out.1
              go_wp2_with fail
              go_region_held3 (fun w' => w'.cell? ⟨g, 1, none⟩ = some (.int .i64 t.n)) (first | exact hs0 | exact hs1 | exact hs2) ((first | (go_at_call 10; refine (HA.out _ ((Kept.refl _ _).drew)).mono ?_; rintro e w4 ⟨v4, rfl, hT4, hb4, hk4⟩; have hs1 := hb4.at 1 HC.out.1) | (go_at_call 17; refine (HB2.out _ _ hT4 hb4).mono ?_; rintro e w5 ⟨vx5, rfl, hT5, hb5, hk5⟩; have hs2 := hb5.at 1 HC.out.1) | fail))
              all_goals
                go_wp2_with fail
                go_meet
                exact ⟨rfl, by rw [HRR.out]; exact ⟨_, _, hT5⟩⟩
            · have HA := Lib.hid (fun W hw => HH.out.text1 hkd W hw)
              have HB2 := Lib.hid (fun W v1 a b => HH.out.text2 hkd W v1 a b)
              obtain ⟨R, hR⟩ : ∃ R, thPut lim r t = R := ⟨_, rfl⟩
              rw [HDD.out, hR] at HA HB2
              have HRR := Lib.hid hR
              clear hR
              have k0 : (t.kind == 0) = false := by simp; omega
              have k1 : (t.kind == 1) = true := by simp [hkd]
              clear hkd
              have hs0 := And.intro (HBK.out.at 2 HC.out.2.1) (HB0.out.keptN HH.out.two.hk.drew).conv
              go_wp2_with fail
              go_region_held3 (fun w' => w'.cell? ⟨g, 2, none⟩ = some vB ∧ (convert 28 9 vB).run Try.prog w' = .ok (.string ⟨t.b.toArray⟩) w') (first | exact hs0 | exact hs1 | exact hs2) ((first | (go_at_call 9; refine (HA.out _ ((Kept.refl _ _).drew)).mono ?_; rintro e w4 ⟨v4, rfl, hT4, hb4, hk4⟩; have hs1 := And.intro (hb4.at 2 HC.out.2.1) (HB0.out.keptN hT4.hk).conv) | (go_at_call 18; refine (HB2.out _ _ hT4 hb4).mono ?_; rintro e w5 ⟨vx5, rfl, hT5, hb5, hk5⟩; have hs2 := And.intro (hb5.at 2 HC.out.2.1) (HB0.out.keptN hT5.hk).conv) | fail))
              all_goals
                go_wp2_with fail
                go_meet
                exact ⟨rfl, by rw [HRR.out]; exact ⟨_, _, hT5⟩⟩
            · have HA := Lib.hid (fun W hw y hy => HH.out.bytes1 hkd W hw y hy)
              have HB2 := Lib.hid (fun W v1 a b y hy => HH.out.bytes2 hkd W v1 a b y hy)
              obtain ⟨R, hR⟩ : ∃ R, thPut lim r t = R := ⟨_, rfl⟩
              rw [HDD.out, hR] at HA HB2
              have HRR := Lib.hid hR
              clear hR
              have k0 : (t.kind == 0) = false := by simp; omega
              have k1 : (t.kind == 1) = false := by simp; omega
              have k2 : (t.kind == 2) = true := by simp [hkd]
              clear hkd
              have c2 := HBK.out.at 2 HC.out.2.1
              have hbl := HH.out.hbl
              go_wp2_with fail
              refine (lent_any vB t.b wb (HB0.out.keptN HH.out.two.hk) (by omega)).mono ?_
              rintro e wl ⟨aL, cL, rfl, hoL, hkL, hfL⟩
              have hbL := HBK.out.kept hkL fun e => e
              have hs0 := hbL.at 2 HC.out.2.1
              have hyL := (hoL.rd.full (xs := t.b) (ys := lentTail) (by simp [lentTail])).keptN ((Kept.refl NoS wl).drew)
              have HOL := Lib.hid (And.intro hoL hfL)
              have HYL := Lib.hid hyL
              clear hoL hfL hyL c2
              go_wp2_with fail
              go_region_held3 (fun w' => w'.cell? ⟨g, 2, none⟩ = some vB) (first | exact hs0 | exact hs1 | exact hs2 | exact hs3 | exact hs4) ((first | (go_at_call 20; refine (HA.out _ (hkL.drew) _ HYL.out).mono ?_; rintro e w4 ⟨v4, rfl, hT4, hb4, hk4⟩; have hs1 := hb4.at 2 HC.out.2.1; have HO4 := Lib.hid (lent_kept (HOL.out.1.keptN ((Kept.refl _ _).drew)) HOL.out.2 hk4 HH.out.two.hw.lt)) | (go_at_call 22; refine (refBytes_any vB t.b _ (HB0.out.keptN hT4.hk) (Nat.le_trans hbl (by decide))).mono ?_; rintro e w6 ⟨v6, rfl, ho6, hk6, hf6⟩; have hT6 := hT4.keptN hk6; have hb6 := hb4.kept hk6 fun e => e; have hs2 := hb6.at 2 HC.out.2.1; have HO6 := Lib.hid (And.intro (HO4.out.keptN hk6) ho6); clear ho6 hf6) | (go_at_call 21; refine (HB2.out _ _ hT6 hb6 _ HO6.out.2.rd).mono ?_; rintro e w5 ⟨vx5, rfl, hT5, hb5, hk5⟩; have hs3 := hb5.at 2 HC.out.2.1; have HO5 := Lib.hid (lent_kept HO6.out.1 HOL.out.2 hk5 HH.out.two.hx.lt)) | (go_at_call 23; refine (keptB_any aL cL vB t.b _ HO5.out (HB0.out.keptN hT5.hk) (Nat.le_trans hbl (by decide))).mono ?_; rintro e w7 ⟨rfl, hk7⟩; have hb7 := hb5.kept hk7 fun e => e; have hs4 := hb7.at 2 HC.out.2.1) | fail))
              all_goals
                go_wp2_with fail
                go_meet
                exact ⟨rfl, by rw [HRR.out]; exact ⟨_, _, hT5.keptN hk7⟩⟩
            · have HA := Lib.hid (fun W hw => HH.out.id1 hkd W hw)
              have HB2 := Lib.hid (fun W v1 a b => HH.out.id2 hkd W v1 a b)
              obtain ⟨R, hR⟩ : ∃ R, thPut lim r t = R := ⟨_, rfl⟩
              rw [HDD.out, hR] at HA HB2
              have HRR := Lib.hid hR
              clear hR
              have k0 : (t.kind == 0) = false := by simp; omega
              have k1 : (t.kind == 1) = false := by simp; omega
              have k2 : (t.kind == 2) = false := by simp; omega
              have k3 : (t.kind == 3) = true := by simp [hkd]
              clear hkd
              have hmid : Hid (∀ w1, Blk w1 g D.toArray 45 → w1.rangeAt g 3 (bytesV t.d)) := fun w1 hb1 j u hu => by rw [hb1.cell]; exact HC.out.2.2.2.2.2.2 j u hu
              have hDl : (bytesV t.d).length = 32 := by rw [bytesV_length, HH.out.ht.d]
              have hU : Try.prog.underlying 40 = some (.array 32 5) := Try.underlying40
              clear hI hI2 hD
              have hI : (Try.prog.info? 40).map (·.size) = some (bytesV t.d).length := by rw [hDl]; kernel_rfl
              clear HC
              generalize bytesV t.d = Dd at *
              have hs0 := hmid.out wb HBK.out
              go_wp2_with fail
              refine wp_region_noPanic ?_
              refine wp_region_held_drew (S := fun w' => w'.rangeAt g 3 Dd) (by kernel_rfl) hs0 (fun hHeld => ?_)
              refine wpAnyH_take (i := 0) (oi := ⟨some 104, _, _, _, _, _⟩) (v := .pointer (some ⟨p, 0, none⟩)) rfl (by kernel_rfl) (by kernel_rfl) (by kernel_rfl) (fun _ _ _ h => h) (Or.inl ⟨by rfl, fun w' hSw => by go_simp⟩) hHeld ?_
              simp only [Act.put, List.setIfInBounds_toArray, List.set_cons_zero, List.set_cons_succ]
              refine wpAnyH_take (i := 1) (oi := ⟨some 105, _, _, _, _, _⟩) (v := .pointer (some ⟨g, 3, none⟩)) rfl (by kernel_rfl) (by kernel_rfl) (by kernel_rfl) (fun _ _ _ h => h) (Or.inl ⟨by rfl, fun w' hSw => by go_simp⟩) hHeld ?_
              simp only [Act.put, List.setIfInBounds_toArray, List.set_cons_zero, List.set_cons_succ]
              refine wpAnyH_take (i := 2) (oi := ⟨some 106, _, _, _, _, _⟩) (v := .agg Dd.toArray) rfl (by kernel_rfl) (by kernel_rfl) (by kernel_rfl) (fun _ _ _ h => h) (yieldsIf_load_mid (by rfl) 40 (.tmp 105) rfl g 3 rfl Dd _ (fun _ h => h) hU rfl hI) hHeld ?_
              simp only [Act.put, List.setIfInBounds_toArray, List.set_cons_zero, List.set_cons_succ]
              refine wpAnyH_take (i := 4) (oi := ⟨some 108, _, _, _, _, _⟩) (v := .pointer (some ⟨x, 0, none⟩)) rfl (by kernel_rfl) (by kernel_rfl) (by kernel_rfl) (fun _ _ _ h => h) (Or.inl ⟨by rfl, fun w' hSw => by go_simp⟩) hHeld ?_
              simp only [Act.put, List.setIfInBounds_toArray, List.set_cons_zero, List.set_cons_succ]
              refine wpAnyH_take (i := 5) (oi := ⟨some 109, _, _, _, _, _⟩) (v := .pointer (some ⟨g, 3, none⟩)) rfl (by kernel_rfl) (by kernel_rfl) (by kernel_rfl) (fun _ _ _ h => h) (Or.inl ⟨by rfl, fun w' hSw => by go_simp⟩) hHeld ?_
              simp only [Act.put, List.setIfInBounds_toArray, List.set_cons_zero, List.set_cons_succ]
              refine wpAnyH_take (i := 6) (oi := ⟨some 110, _, _, _, _, _⟩) (v := .agg Dd.toArray) rfl (by kernel_rfl) (by kernel_rfl) (by kernel_rfl) (fun _ _ _ h => h) (yieldsIf_load_mid (by rfl) 40 (.tmp 109) rfl g 3 rfl Dd _ (fun _ h => h) hU rfl hI) hHeld ?_
              simp only [Act.put, List.setIfInBounds_toArray, List.set_cons_zero, List.set_cons_succ]
              refine wpAnyH_ready (rs := [3]) (by kernel_rfl) (by simp) (AllReadyH.cons rfl (fun K hK => ?_) AllReadyH.nil)
              go_simp
              refine (HA.out _ ((Kept.refl _ _).drew)).mono ?_
              rintro e w4 ⟨v4, rfl, hT4, hb4, hk4⟩
              go_wp2_with fail
              refine hK.out _ _ (hmid.out _ hb4) (fun hHeld => ?_)
              clear hK K
              refine wpAnyH_ready (rs := [7]) (by kernel_rfl) (by simp) (AllReadyH.cons rfl (fun K hK => ?_) AllReadyH.nil)
              go_simp
              refine (HB2.out _ _ hT4 hb4).mono ?_
              rintro e w5 ⟨vx5, rfl, hT5, hb5, hk5⟩
              go_wp2_with fail
              refine hK.out _ _ (hmid.out _ hb5) (fun hHeld => ?_)
              clear hK K
              refine wpAnyH_take (i := 8) (oi := ⟨some 112, _, _, _, _, _⟩) (v := .bool true) rfl (by kernel_rfl) (by kernel_rfl) (by kernel_rfl) (fun _ _ _ h => h) (Or.inl ⟨by rfl, fun w' hSw => by go_simp⟩) hHeld ?_
              simp only [Act.put, List.setIfInBounds_toArray, List.set_cons_zero, List.set_cons_succ]
              refine wpAnyH_take (i := 9) (oi := ⟨some 11, _, _, _, _, _⟩) (v := .bool true) rfl (by kernel_rfl) (by kernel_rfl) (by kernel_rfl) (fun _ _ _ h => h) (Or.inl ⟨by rfl, fun w' hSw => by go_simp⟩) hHeld ?_
              simp only [Act.put, List.setIfInBounds_toArray, List.set_cons_zero, List.set_cons_succ]
              refine wpAnyH_done (by kernel_rfl) ?_ _
              refine NoPanic.normal ?_
              all_goals
                go_wp2_with fail
                go_meet
                exact ⟨rfl, by rw [HRR.out]; exact ⟨_, _, hT5⟩⟩
            · have HA := Lib.hid (fun W hw => HH.out.dot1 hkd W hw)
              have HB2 := Lib.hid (fun W v1 a b => HH.out.dot2 hkd W v1 a b)
              obtain ⟨R, hR⟩ : ∃ R, thPut lim r t = R := ⟨_, rfl⟩
              rw [HDD.out, hR] at HA HB2
              have HRR := Lib.hid hR
              clear hR
              have k0 : (t.kind == 0) = false := by simp; omega
              have k1 : (t.kind == 1) = false := by simp; omega
              have k2 : (t.kind == 2) = false := by simp; omega
              have k3 : (t.kind == 3) = false := by simp; omega
              have k4 : (t.kind == 4) = true := by simp [hkd]
              clear hkd
              have hs0 := And.intro (HBK.out.at 35 HC.out.2.2.1) (HBK.out.at 36 HC.out.2.2.2.1)
              go_wp2_with fail
              go_region_held3 (fun w' => w'.cell? ⟨g, 35, none⟩ = some (.int .i64 t.r) ∧ w'.cell? ⟨g, 36, none⟩ = some (.int .i64 t.s)) (first | exact hs0 | exact hs1 | exact hs2) ((first | (go_at_call 26; refine (HA.out _ ((Kept.refl _ _).drew)).mono ?_; rintro e w4 ⟨v4, rfl, hT4, hb4, hk4⟩; have hs1 := And.intro (hb4.at 35 HC.out.2.2.1) (hb4.at 36 HC.out.2.2.2.1)) | (go_at_call 27; refine (HB2.out _ _ hT4 hb4).mono ?_; rintro e w5 ⟨vx5, rfl, hT5, hb5, hk5⟩; have hs2 := And.intro (hb5.at 35 HC.out.2.2.1) (hb5.at 36 HC.out.2.2.2.1)) | fail))
              all_goals
                go_wp2_with fail
                go_meet
                exact ⟨rfl, by rw [HRR.out]; exact ⟨_, _, hT5⟩⟩
            · have HA := Lib.hid (fun W hw => HH.out.vec1 hkd W hw)
              have HB2 := Lib.hid (fun W v1 a b c => HH.out.vec2 hkd W v1 a b c)
              obtain ⟨R, hR⟩ : ∃ R, thPut lim r t = R := ⟨_, rfl⟩
              rw [HDD.out, hR] at HA HB2
              have HRR := Lib.hid hR
              clear hR
              have k0 : (t.kind == 0) = false := by simp; omega
              have k1 : (t.kind == 1) = false := by simp; omega
              have k2 : (t.kind == 2) = false := by simp; omega
              have k3 : (t.kind == 3) = false := by simp; omega
              have k4 : (t.kind == 4) = false := by simp; omega
              have k5 : (t.kind == 5) = true := by simp [hkd]
              clear hkd
              have hs0 := HBK.out.at 37 HC.out.2.2.2.2.1
              go_wp2_with fail
              go_region_held3 (fun w' => w'.cell? ⟨g, 37, none⟩ = some vV) (first | exact hs0 | exact hs1 | exact hs2) ((first | (go_at_call 28; refine (HA.out _ ((Kept.refl _ _).drew)).mono ?_; rintro e w4 ⟨v4, rfl, hT4, hb4, hk4⟩; have hs1 := hb4.at 37 HC.out.2.2.2.2.1) | (go_at_call 29; refine (HB2.out _ _ hT4 hb4 (HV0.out.keptN hT4.hk)).mono ?_; rintro e w5 ⟨vx5, rfl, hT5, hb5, hk5⟩; have hs2 := hb5.at 37 HC.out.2.2.2.2.1) | fail))
              all_goals
                go_wp2_with fail
                go_meet
                exact ⟨rfl, by rw [HRR.out]; exact ⟨_, _, hT5⟩⟩
            · have HA := Lib.hid (fun W hw => HH.out.bool1 hkd W hw)
              have HB2 := Lib.hid (fun W v1 a b => HH.out.bool2 hkd W v1 a b)
              obtain ⟨R, hR⟩ : ∃ R, thPut lim r t = R := ⟨_, rfl⟩
              rw [HDD.out, hR] at HA HB2
              have HRR := Lib.hid hR
              clear hR
              have k0 : (t.kind == 0) = false := by simp; omega
              have k1 : (t.kind == 1) = false := by simp; omega
              have k2 : (t.kind == 2) = false := by simp; omega
              have k3 : (t.kind == 3) = false := by simp; omega
              have k4 : (t.kind == 4) = false := by simp; omega
              have k5 : (t.kind == 5) = false := by simp; omega
              have k6 : (t.kind == 6) = true := by simp [hkd]
              clear hkd
              have hs0 := HBK.out.at 38 HC.out.2.2.2.2.2.1
              go_wp2_with fail
              go_region_held3 (fun w' => w'.cell? ⟨g, 38, none⟩ = some (.bool t.is)) (first | exact hs0 | exact hs1 | exact hs2) ((first | (go_at_call 30; refine (HA.out _ ((Kept.refl _ _).drew)).mono ?_; rintro e w4 ⟨v4, rfl, hT4, hb4, hk4⟩; have hs1 := hb4.at 38 HC.out.2.2.2.2.2.1) | (go_at_call 31; refine (HB2.out _ _ hT4 hb4).mono ?_; rintro e w5 ⟨vx5, rfl, hT5, hb5, hk5⟩; have hs2 := hb5.at 38 HC.out.2.2.2.2.2.1) | fail))
              all_goals
                go_wp2_with fail
                go_meet
                exact ⟨rfl, by rw [HRR.out]; exact ⟨_, _, hT5⟩⟩
          | false =>
            have HX := Lib.hid (thPut_x (lim := lim) (r := r) hkn)
            have k0 : (t.kind == 0) = false := by simp [thKnown] at hkn ⊢; omega
            have k1 : (t.kind == 1) = false := by simp [thKnown] at hkn ⊢; omega
            have k2 : (t.kind == 2) = false := by simp [thKnown] at hkn ⊢; omega
            have k3 : (t.kind == 3) = false := by simp [thKnown] at hkn ⊢; omega
            have k4 : (t.kind == 4) = false := by simp [thKnown] at hkn ⊢; omega
            have k5 : (t.kind == 5) = false := by simp [thKnown] at hkn ⊢; omega
            have k6 : (t.kind == 6) = false := by simp [thKnown] at hkn ⊢; omega
            have H2 := HH.out.two
            clear hkn
            go_wp2_with fail
            go_meet
            exact ⟨rfl, by rw [HX.out]; exact ⟨_, _, H2⟩⟩
        case rest =>
          obtain ⟨rfl, v5, vx5, hT5⟩ := hcut
          generalize thPut lim r t = R at *
          have hlen := HSm.out.1
          have hRl := HL2.out
          clear HR HO HT c0
          go_wp2_with fail
          refine (wDone_any p q lim v5 R.1 R.2 _ hT5.hw (by omega)).mono ?_
          rintro e w6 ⟨v6, rfl, ho6, hk6, hn6⟩
          have hT6 := hT5.keptN hk6
          go_wp2_with fail
          refine (refDone_any x lim vx5 R.1 R.2 _ hT6.hx (by omega)).mono ?_
          rintro e w7 ⟨v7, rfl, ho7, hk7, hn7⟩
          have hT7 := hT6.keptN hk7
          have ho6' := ho6.keptN hk7
          have hlend : (doneB R.2 R.1).length ≤ 4294967296 := by
            unfold doneB
            split
            · omega
            · simp
          obtain ⟨ax, cx, hvx⟩ := OwnB.shape' hT7.hx.own
          subst hvx
          have d1 := hT7.hx.hx.at 1 rfl
          have HQ1 : Hid (∀ n, Calls Try.prog 33 #[v6, v7] (w7.drewN n) fun e w' => e = .returned (.bool true) ∧ ∃ m, w' = w7.drewN m) := fun n =>
          Calls.quiet_of_same ((sameBytes_any v6 v7 _ _ (w7.drewN n) (ho6'.rd.keptN ((Kept.refl _ _).drewN n)) (ho7.rd.keptN ((Kept.refl _ _).drewN n))).mono fun _ _ h => ⟨by rw [h.1, decide_eq_true rfl], h.2.symm⟩)
          have HQ2 : Hid (∀ n, Calls Try.prog 34 #[.pointer (some ⟨p, 0, none⟩)] (w7.drewN n) fun e w' => e = .returned (.int .i64 R.1.length) ∧ ∃ m, w' = w7.drewN m) := fun n =>
          Calls.quiet_of_same ((wLen_any p q lim v5 R.1 R.2 (w7.drewN n) (hT7.hw.keptN ((Kept.refl _ _).drewN n))).mono fun _ _ h => ⟨h.1, h.2.symm⟩)
          have HT7 := Lib.hid (And.intro hT5 hT7)
          have HO6 := Lib.hid (And.intro ho6' hn6)
          clear hT5 hT6 hT7 ho6 ho6' hn6 hn7 ho7 hk6 hk7
          go_wp2_with fail
          go_quiet ((first | (go_at_call 33; exact HQ1.out _) | (go_at_call 34; exact HQ2.out _)))
          go_wp2_with fail
          refine (overB_any v6 _ _ (HO6.out.1.keptN ((Kept.refl _ _).drewN nq)) hlend).mono ?_
          rintro e w8 ⟨rfl, hk8⟩
          have hT8 := HT7.out.1.over (HT7.out.2.keptN ((Kept.refl _ _).drewN nq)) hk8 HO6.out.2
          go_wp2_with fail
          exact ⟨⟨k + 1, v5, _, R, by go_num, by omega, hRl, hT8⟩, by simp [intOf]; omega⟩
      · have hkl : k = ts.length := by omega
        subst hkl
        have t0 : decide ((ts.length : Int) < ts.length) = false := by simp
        go_wp2_with (go_at_call 16; refine (long_any _ ts _ (HL.out.keptN ThR.stays hT.hk)).mono ?_; rw [HG.out]; rintro e w3 ⟨rfl, hk3⟩)
        have hk4 := hT.hk.trans hk3
        clear hT hk3
        refine (awake_any _).mono ?_
        rintro e w4 ⟨rfl, hk5⟩
        go_wp2_with fail
        go_ret
        exact ⟨rfl, hk4.trans hk5⟩
end Go.Proofs.Ytpagolhlbceegaa
