/- 'WireOne', walked. -/
import Derived.Test.YtpagolhlbceegaaOneM
import Derived.Deep.DeepCutAuto
import Derived.Deep.CutBlock
import Derived.Deep.LoopGhost
import Derived.Deep.RegionHeld3
namespace Go.Proofs.Ytpagolhlbceegaa
open Go.RowKit

theorem tmod7 (x : Int) : -7 < x.tmod 7 ∧ x.tmod 7 < 7 := by
  rcases Int.le_total 0 x with h | h
  · rw [Int.tmod_eq_emod_of_nonneg h]
    omega
  · have h1 : (-x).tmod 7 = (-x) % 7 := Int.tmod_eq_emod_of_nonneg (by omega)
    rw [Int.neg_tmod] at h1
    omega
theorem Blk.setMid {t : TypeId} {b : Nat} : ∀ (cs old A C : List Value) (w : World), Blk w b (A ++ (old ++ C)).toArray t → old.length = cs.length → Blk (w.setCells b A.length cs) b (A ++ (cs ++ C)).toArray t
  | [], old, A, C, w, h, hl => by
    have : old = [] := List.length_eq_zero_iff.1 hl
    subst this
    exact h
  | v :: cs, o :: old, A, C, w, h, hl => by
    have h1 := h.set A.length v
    have h2 : (A ++ (o :: old ++ C)).toArray.setIfInBounds A.length v = ((A ++ [v]) ++ (old ++ C)).toArray := by
      simp
    rw [h2] at h1
    have h3 := Blk.setMid cs old (A ++ [v]) C _ h1 (by simpa using hl)
    rw [List.length_append, List.length_singleton, List.append_assoc] at h3
    exact h3
set_option maxHeartbeats 400000 in
theorem pick_any (x : Int) (w : World) (hx : I64 x) : Calls Try.prog 37 #[.int .i64 x, .int .i64 7] w fun e w' => ∃ k : Int, e = .returned (.int .i64 k) ∧ 0 ≤ k ∧ k ≤ 6 ∧ w = w' := by
  have h1 := hx.1
  have h2 := hx.2
  go_enter Try.func37, Try.ntmps37
  have hb := tmod7 x
  go_wp2_with fail
  · go_ret
    refine ⟨x.tmod 7 + 7, ret_int (by go_num), by omega, by omega, rfl⟩
  · go_ret
    exact ⟨_, rfl, by omega, by omega, rfl⟩

def OneR (w : World) (g r q p qw : Nat) (vr v : Value) (bs : List UInt8) (s : RSt) (K : Int) (wx : World) : Prop :=
  ∃ vB vV, Blk wx g (thC (rdGet bs s K).1 vB vV).toArray 45 ∧ RdB wx vB (rdGet bs s K).1.b ∧ RdI wx vV (rdGet bs s K).1.v ∧ RdAt wx r q vr bs (rdGet bs s K).2 ∧ WrAt wx p qw 1000 v (bs.take s.pos) 0 ∧ Kept NoS w wx
theorem kept_setCells (b : Nat) : ∀ (cs : List Value) (o : Nat) (w : World), Kept (AtB b) w (w.setCells b o cs)
  | [], _, w => Kept.refl _ w
  | v :: cs, o, w => (Kept.setOne w b o v).trans (kept_setCells b cs (o + 1) _)
/-- What holds behind a reading call, and behind a store into the thing. -/
structure OneS (w : World) (g r q p qw : Nat) (vr v : Value) (bs : List UInt8) (s : RSt) (C : List Value) (s' : RSt) (wx : World) : Prop where
  hb : Blk wx g C.toArray 45
  hr : RdAt wx r q vr bs s'
  hw : WrAt wx p qw 1000 v (bs.take s.pos) 0
  hk : Kept NoS w wx
  gr : g ≠ r
  gq : g ≠ q
  gw : ∀ j, WrB p qw v j → j ≠ g
  gv : ∀ j, RdB' r q vr j → j ≠ g
  gb : w.heap.size ≤ g
  rf : w.heap.size ≤ r
  qf : w.heap.size ≤ q
  ap : ∀ j, RdB' r q vr j → ¬ WrB p qw v j
theorem OneS.read {w w6 w7 : World} {g r q p qw : Nat} {vr v : Value} {bs : List UInt8} {s s1 s2 : RSt} {C : List Value} (h : OneS w g r q p qw vr v bs s C s1 w6) (h7 : RdAt w7 r q vr bs s2) (hk7 : Kept (RdS r q) w6 w7) : OneS w g r q p qw vr v bs s C s2 w7 := by
  have := h.hk.size
  refine ⟨h.hb.kept hk7 fun e => ?_, h7, h.hw.kept hk7 fun j hj e => ?_, h.hk.step hk7 fun j hj e => ?_, h.gr, h.gq, h.gw, h.gv, h.gb, h.rf, h.qf, h.ap⟩
  · rcases e with e | e
    · exact h.gr e
    · exact h.gq e
  · rcases e with e | e
    · exact h.ap j (.inl e) hj
    · exact h.ap j (.inr (.inl e)) hj
  · have := h.rf
    have := h.qf
    rcases e with e | e <;> omega
theorem OneS.quiet {w w6 w7 : World} {g r q p qw : Nat} {vr v : Value} {bs : List UInt8} {s s1 : RSt} {C : List Value} (h : OneS w g r q p qw vr v bs s C s1 w6) (hk7 : Kept NoS w6 w7) : OneS w g r q p qw vr v bs s C s1 w7 :=
  ⟨h.hb.kept hk7 fun e => e, h.hr.keptN hk7, h.hw.keptN hk7, h.hk.trans hk7, h.gr, h.gq, h.gw, h.gv, h.gb, h.rf, h.qf, h.ap⟩
theorem OneS.store {w w7 : World} {g r q p qw : Nat} {vr v : Value} {bs : List UInt8} {s s1 : RSt} (cs old A C : List Value) (h : OneS w g r q p qw vr v bs s (A ++ (old ++ C)) s1 w7) (hl : old.length = cs.length) :
    OneS w g r q p qw vr v bs s (A ++ (cs ++ C)) s1 (w7.setCells g A.length cs) := by
  have hk := kept_setCells g cs A.length w7
  have := h.hk.size
  exact ⟨Blk.setMid cs old A C w7 h.hb hl, h.hr.kept hk fun j hj e => h.gv j hj e, h.hw.kept hk fun j hj e => h.gw j hj e, h.hk.step hk fun j hj e => by
    have := h.gb
    unfold AtB at e
    omega, h.gr, h.gq, h.gw, h.gv, h.gb, h.rf, h.qf, h.ap⟩
theorem rdBytes_small (bs : List UInt8) (s : RSt) (h : bs.length ≤ 200) : (rdBytes bs s 200).1.length ≤ 4294967296 := by
  unfold rdBytes rdTake
  split
  · split
    · simp
    · rw [List.length_take, List.length_drop]
      omega
  · simp
theorem cell_newAny (w : World) (C : Array Value) (e : TypeId) (fr : Nat × Nat) (i : Nat) : (w.drew.alloc (.cells C e fr)).cell? ⟨w.heap.size, i, none⟩ = C[i]? := by
  have h : (w.drew.alloc (.cells C e fr)).heap[w.heap.size]? = some (.cells C e fr) := heap_alloc_new w.drew _
  unfold World.cell?
  rw [h]
  simp
theorem conv_bytes (w : World) (l : List UInt8) (hl : l.length ≤ 4294967296) : ∃ b n c w8, (convert 9 28 (.string ⟨l.toArray⟩)).run Try.prog w = .ok (.slice (some ⟨b, 0, none⟩) n c) w8 ∧ RdB w8 (.slice (some ⟨b, 0, none⟩) n c) l ∧ Kept NoS w w8 ∧ w.heap.size ≤ b := by
  have h := run_bytes_of_string (P := Try.prog) w 9 28 5 ⟨l.toArray⟩ Try.underlying9 Try.underlying28 Try.underlying5
  have hsz : (⟨l.toArray⟩ : ByteArray).size = l.length := by simp [ByteArray.size]
  rw [hsz] at h
  have hml : l.length ≤ maxLen := by unfold maxLen; omega
  have h1 := grownCap_ge w l.length 0 5
  have h2 := grownCap_le_maxLen w l.length 0 5 hml
  refine ⟨_, _, _, _, h, .inr ⟨_, _, _, rfl, h1, h2, fun i u hu => ?_⟩, ((Kept.refl NoS w).drew).alloc _, Nat.le_refl _⟩
  have hi : i < l.length := by
    have := (List.getElem?_eq_some_iff.1 hu).1
    simpa [bytesV] using this
  have hb := bytesRow_at ⟨l.toArray⟩ (grownCap w l.length 0 5) i (by simpa using hi)
  rw [cell_newAny, Nat.zero_add, hb]
  unfold bytesV at hu
  rw [List.getElem?_map, List.getElem?_eq_getElem hi] at hu
  simp at hu ⊢
  exact hu
theorem there_mid {w : World} {b : Nat} {A C : List Value} {t : TypeId} (h : Blk w b (A ++ (bytesV (List.replicate 32 0) ++ C)).toArray t) : w.there b A.length 32 := fun j hj => by
  refine ⟨?_, h.free _⟩
  rw [h.cell, List.getElem?_toArray, List.getElem?_append_right (by omega), List.getElem?_append_left (by rw [bytesV_length, List.length_replicate]; omega)]
  have : A.length + j - A.length < (bytesV (List.replicate 32 0)).length := by rw [bytesV_length, List.length_replicate]; omega
  rw [List.getElem?_eq_getElem this]
  rfl
theorem storeID (w : World) (b o : Nat) (cs : List Value) (ht : w.there b o 32) (hl : cs.length = 32) (h1 : ∀ u ∈ cs, u.oneCell' = true) : (storeCells ⟨b, o, none⟩ cs).run Try.prog w = .ok () (w.setCells b o cs) := by
  have := run_storeCells_cells (P := Try.prog) b o cs 0 w (fun j hj => by simpa using (ht j (by omega)).1) (fun j hj => by simpa using (ht j (by omega)).2) h1
  simpa using this
theorem wpList_load_midG {P : Program} {ops : Array Oper} {rest : List Oper} {op : Oper} {a : Act} {w : World} {Q : Exit → Act → World → Prop} (hw : Region.wanted op (yielded ops a.tmps) = true) (ty : TypeId) (x : Operand) (ho : op.op = .load ty x)
    (b o : Nat) (hx : a.eval x = .pointer (some ⟨b, o, none⟩)) (cs : List Value) (d : TypeDesc) (hc : w.rangeAt b o cs) (hu : P.underlying ty = some d) (hd : d.isRow = true) (hi : (P.info? ty).map (·.size) = some cs.length)
    (h : wpList P ops Q rest (a.put op.dst (.agg cs.toArray)) w) : wpList P ops Q (op :: rest) a w :=
  wpList_step fun K hK => by
    simp only [hw, if_true]
    exact wp_load_mid ty x ho b o hx cs d hc hu hd hi (hK _ _ h)
theorem OneR.of {w wx : World} {g r q p qw : Nat} {vr v : Value} {bs : List UInt8} {s s' : RSt} {K : Int} {C : List Value} (vB vV : Value) (h : OneS w g r q p qw vr v bs s C s' wx) (hC : C = thC (rdGet bs s K).1 vB vV) (hs : s' = (rdGet bs s K).2)
    (hB : RdB wx vB (rdGet bs s K).1.b) (hV : RdI wx vV (rdGet bs s K).1.v) : OneR w g r q p qw vr v bs s K wx := by
  subst hC hs
  exact ⟨vB, vV, h.hb, hB, hV, h.hr, h.hw, h.hk⟩
theorem one_round {w wc w10 w11 : World} {r q p qw : Nat} {vr v v11 : Value} {bs : List UInt8} {s : RSt} {X : Th × RSt} {gk k m : Nat} (hG : GetOk bs s X) (hkw7 : Kept NoS w wc) (hrd7 : RdAt wc r q vr bs X.2) (_hg : Good bs s) (hm : gk + k = m) (hlt : k < m) (he : X.2.err = 0) (hgX : Good bs X.2) (hk10 : Kept NoS wc w10)
    (h11 : WrAt w11 p qw 1000 v11 (bs.take s.pos ++ thAll X.1) 0) (hk11 : Kept (WrB p qw v) w10 w11) (hv11 : v11.ownBlock = v.ownBlock ∨ ∃ k, v11.ownBlock = some k ∧ w10.heap.size ≤ k) (hf : ∀ j, WrB p qw v j → w.heap.size ≤ j) (hap : ∀ j, RdB' r q vr j → ¬ WrB p qw v j) :
    ∃ (k' : Nat) (v' : Value) (s' : RSt), Value.int .i64 ((k : Int) + 1) = .int .i64 k' ∧ gk - 1 + k' = m ∧ s'.err = 0 ∧ Good bs s' ∧ RdAt w11 r q vr bs s' ∧ WrAt w11 p qw 1000 v' (bs.take s'.pos) 0 ∧ Kept NoS w w11 ∧ (∀ j, WrB p qw v' j → w.heap.size ≤ j) ∧ (∀ j, RdB' r q vr j → ¬ WrB p qw v' j) := by
  have h10 := hkw7.trans hk10
  have hrd10 := hrd7.keptN hk10
  have hb : bs.take s.pos ++ thAll X.1 = bs.take X.2.pos := by
    rw [hG.st]
    show _ = bs.take (s.pos + (thAll X.1).length)
    rw [List.take_add, hG.has.take]
  rw [hb] at h11
  exact ⟨k + 1, v11, X.2, by push_cast; rfl, by omega, he, hgX, hrd10.kept hk11 hap, h11, kept_fresh h10 hk11 hf, put_fresh h10.size hf hv11, put_apart hap hrd10.lt hv11⟩
set_option maxRecDepth 100000 in
set_option maxHeartbeats 2000000 in
theorem one_any (x y : Value) (bs : List UInt8) (ks : List Int) (w : World) (hx : RdB w x bs) (hy : RdI w y ks) (hks : ∀ k ∈ ks, I64 k) : Calls Try.prog 5 #[x, y] w (RetTrue w) := by
  obtain ⟨ao, cap, rfl, hc1, hc2⟩ := Sl.form hx
  obtain ⟨bo, bcap, rfl, hd1, hd2⟩ := hy.form
  unfold maxLen at hc2 hd2
  have HX := Lib.hid hx
  have HY := Lib.hid hy
  clear hx hy
  by_cases hbig : 200 < bs.length ∨ 20 < ks.length
  · by_cases hb1 : 200 < bs.length
    · have e1 : decide ((200 : Int) < bs.length) = true := by simp; omega
      clear hbig hb1
      go_enter Try.func5, Try.ntmps5
      go_wp2_with fail
      refine (known_any _).mono ?_
      rintro e w1 ⟨rfl, hk1⟩
      go_wp2_with fail
      go_ret
      exact ⟨rfl, hk1⟩
    · have e1 : decide ((200 : Int) < bs.length) = false := by simp; omega
      have e2 : decide ((20 : Int) < ks.length) = true := by simp; omega
      clear hbig hb1
      go_enter Try.func5, Try.ntmps5
      go_wp2_with fail
      refine (known_any _).mono ?_
      rintro e w1 ⟨rfl, hk1⟩
      go_wp2_with fail
      go_ret
      exact ⟨rfl, hk1⟩
  have hb1 : bs.length ≤ 200 := by omega
  have hb2 : ks.length ≤ 20 := by omega
  have e1 : decide ((200 : Int) < bs.length) = false := by simp; omega
  have e2 : decide ((20 : Int) < ks.length) = false := by simp; omega
  go_enter Try.func5, Try.ntmps5
  go_wp2_with fail
  refine (known_any _).mono ?_
  rintro e w1 ⟨rfl, hk1⟩
  go_wp2_with fail
  refine (newReader_any _ _ _ (HX.out.keptN hk1) (by omega)).mono ?_
  rintro e w2 ⟨r, q, vr, rfl, hr2, hk2, hn2⟩
  go_wp2_with fail
  refine (newWriter_any 1000 w2 (by decide) (by decide)).mono ?_
  rintro e w3 ⟨p, qw, rfl, hw3, hk3, hp3, hq3⟩
  have hs1 := hk1.size
  have hs2 := hk2.size
  have hc3 := (hk1.trans hk2).trans hk3
  have hr3 := hr2.keptN hk3
  have hlt2 := hr2.lt
  have hap3 : ∀ j, RdB' r q vr j → ¬ WrB p qw (.slice none 0 0) j := fun j hj e => by
    have h1 := hlt2 j hj
    have h2 := nil_fresh hp3 hq3 j e
    omega
  have hf3 : ∀ j, WrB p qw (.slice none 0 0) j → w.heap.size ≤ j := nil_fresh (by omega) (by omega)
  have hrf : w.heap.size ≤ r := by
    have := hn2 r (.inl rfl)
    omega
  have hqf : w.heap.size ≤ q := by
    have := hn2 q (.inr (.inl rfl))
    omega
  clear hk1 hk2 hk3 hn2 hr2 hlt2 hp3 hq3
  go_wp2_with fail
  go_loopg [9] ks.length (fun m i wr => ∃ (k : Nat) (v : Value) (s : RSt), i = .int .i64 k ∧ m + k = ks.length ∧ s.err = 0 ∧ Good bs s ∧ RdAt wr r q vr bs s ∧ WrAt wr p qw 1000 v (bs.take s.pos) 0 ∧ Kept NoS w wr ∧ (∀ j, WrB p qw v j → w.heap.size ≤ j) ∧ (∀ j, RdB' r q vr j → ¬ WrB p qw v j))
  case atStart => exact ⟨0, _, ⟨0, 0, 0⟩, rfl, by omega, rfl, ⟨by simp, fun e => absurd rfl e⟩, hr3, by simpa using hw3, hc3, hf3, hap3⟩
  case round =>
    obtain ⟨k, v, s, rfl, hm, hs, hg, hrd, hwr, hkw, hf, hap⟩ := hrel
    by_cases hlt : k < ks.length
    · obtain ⟨x, hx⟩ := some_at ks hlt
      have hxi := hks x (List.mem_of_getElem? hx)
      obtain ⟨b1, o1, rfl, hc1⟩ := (HY.out.keptN hkw).get hx
      have t0 : decide ((k : Int) < ks.length) = true := by simp; omega
      clear hx
      go_wp2_with fail
      refine (pick_any x wr hxi).mono ?_
      rintro e w4 ⟨K, rfl, hK0, hK6, rfl⟩
      go_wp2_with (refine wpList_storeBlk rfl 45 (.tmp 10) (.tmp 53) rfl wr.heap.size _ _ 45 rfl rfl (Blk.new _ _ _) (by kernel_rfl) rfl (by kernel_rfl) ?_; intro w5 hb5 hk5)
      have hlr := hrd.lt
      have hlw := hwr.lt
      have hsw := hkw.size
      have hk5' : Kept (AtB wr.heap.size) wr w5 := ((Kept.refl NoS wr).alloc _).ofN.trans hk5
      have hrd5 : RdAt w5 r q vr bs s := hrd.kept hk5' fun j hj e => by
        have := hlr j hj
        unfold AtB at e
        omega
      have hwr5 : WrAt w5 p qw 1000 v (bs.take s.pos) 0 := hwr.kept hk5' fun j hj e => by
        have := hlw j hj
        unfold AtB at e
        omega
      have hkw5 : Kept NoS w w5 := hkw.step hk5' fun j hj e => by
        unfold AtB at e
        omega
      have hb5' : Blk w5 wr.heap.size (thC ⟨K, 0, [], List.replicate 32 0, 0, 0, [], false⟩ (.slice none 0 0) (.slice none 0 0)).toArray 45 := hb5
      have hgl := hb5'.lt
      have hgr : wr.heap.size ≠ r := by
        have := hlr r (.inl rfl)
        omega
      have hgq : wr.heap.size ≠ q := by
        have := hlr q (.inr (.inl rfl))
        omega
      have hgw : ∀ j, WrB p qw v j → j ≠ wr.heap.size := fun j hj e => by
        have := hlw j hj
        omega
      have hgv : ∀ j, RdB' r q vr j → j ≠ wr.heap.size := fun j hj e => by
        have := hlr j hj
        omega
      have hgb : w.heap.size ≤ wr.heap.size := hsw
      clear hb5 hk5 hk5' hrd hwr hkw hlr hlw hsw hc1
      generalize wr.heap.size = g at *
      refine (rRest_any r q vr bs s w5 hrd5).mono ?_
      rw [show rdRest bs s = (bs.length : Int) - s.pos by unfold rdRest; rw [if_pos hs]]
      rintro e w6 ⟨rfl, n6, rfl⟩
      have hk6 : Kept NoS w5 (w5.drewN n6) := (Kept.refl NoS w5).drewN n6
      have hrd6 := hrd5.keptN hk6
      have hwr6 := hwr5.keptN hk6
      have hb6 := hb5'.kept hk6 fun e => e
      have hkw6 := hkw5.trans hk6
      clear hk6 hrd5 hwr5 hb5' hkw5 hgl
      generalize w5.drewN n6 = w6 at *
      have c0 : w6.cell? ⟨g, 0, none⟩ = some (.int .i64 K) := by rw [hb6.cell]; simp [thC]
      go_upto_block 2 with fail
      go_cut [] (fun wx => OneR w g r q p qw vr v bs s K wx)
      case first =>
        have HS : OneS w g r q p qw vr v bs s (thC ⟨K, 0, [], List.replicate 32 0, 0, 0, [], false⟩ (.slice none 0 0) (.slice none 0 0)) s w6 := ⟨hb6, hrd6, hwr6, hkw6, hgr, hgq, hgw, hgv, hgb, hrf, hqf, hap⟩
        clear hb6 hwr6 hkw6 hgr hgq hgw hgv hgb hap hf hm
        rcases (by omega : K = 0 ∨ K = 1 ∨ K = 2 ∨ K = 3 ∨ K = 4 ∨ K = 5 ∨ K = 6) with rfl | rfl | rfl | rfl | rfl | rfl | rfl
        · go_wp2_with (go_at_call 39; refine (rNum_any r q vr bs s _ hrd6 (by omega)).mono ?_; rintro e w7 ⟨rfl, h7, hk7⟩; have hS7 := HS.read h7 hk7; have d1 := hS7.hb.at 1 (u := .int .i64 0) rfl; have f1 := hS7.hb.free 1)
          go_meet
          exact OneR.of _ _ (OneS.store [.int .i64 (rdNum bs s).1] [.int .i64 0] [.int .i64 0] ((.slice none 0 0 : Value) :: (bytesV (List.replicate 32 0) ++ ([.int .i64 0, .int .i64 0, .slice none 0 0, .bool false] : List Value))) hS7 rfl) rfl rfl (Sl.nil _) (Sl.nil _)
        · go_wp2_with (go_at_call 40; refine (rText_any r q vr bs s 200 _ hrd6 (by omega)).mono ?_; rintro e w7 ⟨rfl, h7, hk7⟩; obtain ⟨b8, n8, c8, w8, hcv, hB8, hk8, hs8⟩ := conv_bytes w7 (rdBytes bs s 200).1 (rdBytes_small bs s hb1); have hS7 := HS.read h7 hk7; have hS8 := hS7.quiet hk8; have d2 := hS8.hb.at 2 (u := .slice none 0 0) rfl; have f2 := hS8.hb.free 2)
          go_meet
          have hne : ∀ j, (Value.slice (some ⟨b8, 0, none⟩) n8 c8).ownBlock = some j → j ≠ g := fun j hj e => by
            have hj' : b8 = j := by simpa [Value.ownBlock] using hj
            have := hS7.hb.lt
            omega
          exact OneR.of _ _ (OneS.store [.slice (some ⟨b8, 0, none⟩) n8 c8] [.slice none 0 0] [.int .i64 1, .int .i64 0] (bytesV (List.replicate 32 0) ++ ([.int .i64 0, .int .i64 0, .slice none 0 0, .bool false] : List Value)) hS8 rfl) rfl rfl (hB8.kept (kept_setCells g [.slice (some ⟨b8, 0, none⟩) n8 c8] 2 w8) fun j hj e => hne j hj e) (Sl.nil _)
        · go_wp2_with (go_at_call 41; refine (rBytes_any r q vr bs s 200 _ hrd6 (by omega)).mono ?_; rintro e w7 ⟨v7, rfl, ho7, h7, hk7, hn7⟩; obtain ⟨a7, n7, c7, rfl⟩ := ho7.shape; have hS7 := HS.read h7 hk7; have d2 := hS7.hb.at 2 (u := .slice none 0 0) rfl; have f2 := hS7.hb.free 2)
          go_meet
          have hne : ∀ j, (Value.slice a7 n7 c7).ownBlock = some j → j ≠ g := fun j hj e => by
            have := hn7 j hj
            have := HS.hb.lt
            omega
          exact OneR.of _ _ (OneS.store [.slice a7 n7 c7] [.slice none 0 0] [.int .i64 2, .int .i64 0] (bytesV (List.replicate 32 0) ++ ([.int .i64 0, .int .i64 0, .slice none 0 0, .bool false] : List Value)) hS7 rfl) rfl rfl (ho7.rd.kept (kept_setCells g [.slice a7 n7 c7] 2 w7) fun j hj e => hne j hj e) (Sl.nil _)
        · go_wp2_with (go_at_call 42; refine (rID_any r q vr bs s _ hrd6 (by omega)).mono ?_; rintro e w7 ⟨rfl, hl7, h7, hk7⟩; have hS7 := HS.read h7 hk7; have hI7 : (bytesV (rdID bs s).1).length = 32 := (by rw [bytesV_length, hl7]); have hst := storeID w7 g 3 _ (there_mid hS7.hb) hI7 (bytesV_one _))
          go_meet
          exact OneR.of _ _ (OneS.store (bytesV (rdID bs s).1) (bytesV (List.replicate 32 0)) [.int .i64 3, .int .i64 0, .slice none 0 0] ([.int .i64 0, .int .i64 0, .slice none 0 0, .bool false] : List Value) hS7 (by rw [hI7]; rfl)) rfl rfl (Sl.nil _) (Sl.nil _)
        · go_wp2_with (go_at_call 43; refine (rDot_any r q vr bs s _ hrd6 (by omega)).mono ?_; rintro e w7 ⟨rfl, h7, hk7⟩; have hS7 := HS.read h7 hk7; have d35 := hS7.hb.at 35 (u := .int .i64 0) rfl; have f35 := hS7.hb.free 35; have d36 := hS7.hb.at 36 (u := .int .i64 0) rfl; have f36 := hS7.hb.free 36)
          go_meet
          exact OneR.of _ _ (OneS.store [.int .i64 (rdDot bs s).1.1, .int .i64 (rdDot bs s).1.2] [.int .i64 0, .int .i64 0] (([.int .i64 4, .int .i64 0, .slice none 0 0] : List Value) ++ bytesV (List.replicate 32 0)) ([.slice none 0 0, .bool false] : List Value) hS7 rfl) rfl rfl (Sl.nil _) (Sl.nil _)
        · go_wp2_with (go_at_call 44; refine (rVector_any r q vr bs s 200 _ hrd6 (by omega)).mono ?_; rintro e w7 ⟨v7, rfl, ho7, h7, hk7, hn7⟩; obtain ⟨a7, n7, c7, rfl⟩ := ho7.shape; have hS7 := HS.read h7 hk7; have d37 := hS7.hb.at 37 (u := .slice none 0 0) rfl; have f37 := hS7.hb.free 37)
          go_meet
          have hne : ∀ j, (Value.slice a7 n7 c7).ownBlock = some j → j ≠ g := fun j hj e => by
            have := hn7 j hj
            have := HS.hb.lt
            omega
          exact OneR.of _ _ (OneS.store [.slice a7 n7 c7] [.slice none 0 0] (([.int .i64 5, .int .i64 0, .slice none 0 0] : List Value) ++ (bytesV (List.replicate 32 0) ++ ([.int .i64 0, .int .i64 0] : List Value))) [.bool false] hS7 rfl) rfl rfl (Sl.nil _) (ho7.rd.kept (kept_setCells g [.slice a7 n7 c7] 37 w7) fun j hj e => hne j hj e)
        · go_wp2_with (go_at_call 45; refine (rBool_any r q vr bs s _ hrd6 (by omega)).mono ?_; rintro e w7 ⟨rfl, h7, hk7⟩; have hS7 := HS.read h7 hk7; have d38 := hS7.hb.at 38 (u := .bool false) rfl; have f38 := hS7.hb.free 38)
          go_meet
          exact OneR.of _ _ (OneS.store [.bool (rdBool bs s).1] [.bool false] (([.int .i64 6, .int .i64 0, .slice none 0 0] : List Value) ++ (bytesV (List.replicate 32 0) ++ ([.int .i64 0, .int .i64 0, .slice none 0 0] : List Value))) [] hS7 rfl) rfl rfl (Sl.nil _) (Sl.nil _)
      case rest =>
        obtain ⟨vB, vV, hb7, hB7, hV7, hrd7, hwr7, hkw7⟩ := hcut
        have HGet := Lib.hid (fun he => rdGet_ok (bs := bs) (s := s) (k := K) ⟨hK0, hK6⟩ hs hg he)
        have hgX := rdGet_good (k := K) hg
        clear hrd6 hwr6 hb6 hkw6 c0
        generalize rdGet bs s K = X at *
        have hle7 := hrd7.le
        by_cases he : X.2.err = 0
        · have HG := Lib.hid (HGet.out he)
          have HP7 : Hid (X.2.pos = s.pos + (thAll X.1).length ∧ 0 < (thAll X.1).length) := ⟨by rw [HG.out.st], HG.out.pos⟩
          have t1 : decide ((bs.length : Int) - s.pos ≤ (bs.length : Int) - X.2.pos) = false := by
            have := HP7.out
            simp
            omega
          have HR : Hid (rdRest bs X.2 = (bs.length : Int) - X.2.pos) := by
            show _ = _
            unfold rdRest
            rw [if_pos he]
          go_wp2_with fail
          refine (rEnd_any r q _ _ _ _ hrd7).mono ?_
          have HW : Hid (∀ w' : World, Kept NoS wc w' → Calls Try.prog 47 #[.pointer (some ⟨p, 0, none⟩), .agg (thC X.1 vB vV).toArray] w' (BackW w' p qw 1000 v (bs.take s.pos) X.1)) := fun w' hk => by
            have hle := HG.out.has.le
            refine writes_back p qw 1000 v vB vV _ X.1 w' ⟨hwr7.keptN hk, by rw [List.length_take]; omega, hB7.keptN hk, hV7.keptN hk, HG.out.ok, HG.out.b, HG.out.v⟩ ?_
            rw [List.length_take]
            omega
          have HD : Hid (∀ w' : World, Kept NoS wc w' → w'.rangeAt g 0 (thC X.1 vB vV)) := fun w' hk j u hu => by
            rw [(hb7.kept hk fun e => e).cell, List.getElem?_toArray, Nat.zero_add]
            exact hu
          have hD := thC_len (vB := vB) (vV := vV) HG.out.ok.d
          have HI : Hid ((Try.prog.info? 45).map (·.size) = some (thC X.1 vB vV).length) := by
            show _ = _
            rw [hD]
            kernel_rfl
          clear hb7 hB7 hV7 HGet hD
          have t2 : s.pos < X.2.pos := by
            have := HP7.out
            omega
          generalize thC X.1 vB vV = D at *
          have hcase : (∃ F A, rdEnd bs X.2 = (F, A) ∧ F = 4 ∧ X.2.pos < bs.length) ∨ (∃ F A, rdEnd bs X.2 = (F, A) ∧ F = 0) := by
            unfold rdEnd
            by_cases hend : X.2.pos < bs.length
            · rw [if_pos ⟨he, hend⟩]
              exact .inl ⟨_, _, rfl, rfl, hend⟩
            · rw [if_neg (fun h => hend h.2)]
              exact .inr ⟨_, _, rfl, he⟩
          rcases hcase with ⟨F, A, hE, rfl, hend⟩ | ⟨F, A, hE, rfl⟩
          · rw [hE]
            rintro e w8 ⟨rfl, hk8⟩
            have HN := Lib.hid hk8
            have hr0 : (((bs.length : Int) - X.2.pos) == 0) = false := by simp; omega
            go_wp2_with fail
            refine (rRest_any r q _ _ X.2 _ (hrd7.keptN (hk8.alloc _))).mono ?_
            rw [HR.out]
            rintro e w9 ⟨rfl, n9, rfl⟩
            have hk9 := ((hk8.alloc (.cells #[.int .i64 4, .int .i64 A] 68)).drewN n9)
            generalize (w8.alloc (.cells #[.int .i64 4, .int .i64 A] 68)).drewN n9 = w9 at *
            go_wp2_with fail
            refine (rRest_any r q _ _ X.2 _ (hrd7.keptN hk9)).mono ?_
            rw [HR.out]
            rintro e w10 ⟨rfl, n10, rfl⟩
            have hk10 := hk9.drewN n10
            generalize w9.drewN n10 = w10 at *
            go_wp2_with (refine wpList_load_midG ?_ 45 (.tmp 10) rfl g 0 rfl D _ (HD.out _ hk10) Try.underlying45 rfl HI.out ?_; rotate_left)
            · refine (HW.out _ hk10).mono ?_
              rintro e w11 ⟨v11, n11, bs11, rfl, hcase, h11, hk11, hv11⟩
              rcases hcase with ⟨_, rfl, rfl⟩ | ⟨hno, _, _⟩
              · have HF := Lib.hid (And.intro h11 (And.intro hk11 hv11))
                clear h11 hk11 hv11
                go_wp2_with fail
                go_roundg (gk - 1)
                case measure => omega
                case rel =>
                  obtain ⟨h11, hk11, hv11⟩ := HF.out
                  exact one_round HG.out hkw7 hrd7 hg hm hlt he hgX hk10 h11 hk11 hv11 hf hap
              · rw [HG.out.okT] at hno
                cases hno
          · rw [hE]
            rintro e w8 ⟨rfl, hk8⟩
            go_wp2_with fail
            have hk9 := hk8.alloc (.cells #[.int .i64 0, .int .i64 A] 68)
            generalize w8.alloc (.cells #[.int .i64 0, .int .i64 A] 68) = w9 at *
            refine (rRest_any r q _ _ X.2 _ (hrd7.keptN hk9)).mono ?_
            rw [HR.out]
            rintro e w10 ⟨rfl, n10, rfl⟩
            have hk10 := hk9.drewN n10
            generalize w9.drewN n10 = w10 at *
            go_wp2_with (refine wpList_load_midG ?_ 45 (.tmp 10) rfl g 0 rfl D _ (HD.out _ hk10) Try.underlying45 rfl HI.out ?_; rotate_left)
            · refine (HW.out _ hk10).mono ?_
              rintro e w11 ⟨v11, n11, bs11, rfl, hcase, h11, hk11, hv11⟩
              rcases hcase with ⟨_, rfl, rfl⟩ | ⟨hno, _, _⟩
              · have HF := Lib.hid (And.intro h11 (And.intro hk11 hv11))
                clear h11 hk11 hv11
                go_wp2_with fail
                go_roundg (gk - 1)
                case measure => omega
                case rel =>
                  obtain ⟨h11, hk11, hv11⟩ := HF.out
                  exact one_round HG.out hkw7 hrd7 hg hm hlt he hgX hk10 h11 hk11 hv11 hf hap
              · rw [HG.out.okT] at hno
                cases hno
        · have hea := hgX.2 he
          have hE : rdEnd bs X.2 = (X.2.err, X.2.ea) := by
            unfold rdEnd
            rw [if_neg (fun h => he h.1)]
          have HR : Hid (rdRest bs X.2 = 0) := by
            show _ = _
            unfold rdRest
            rw [if_neg he]
          have HE := Lib.hid hE
          have a1 : (0 : Int) ≤ X.2.ea := hea.1
          have a2 : X.2.ea ≤ bs.length := hea.2
          have a3 : (X.2.err != 0) = true := by simp [he]
          clear hE HGet hb7 hB7 hV7
          go_wp2_with fail
          refine (rEnd_any r q _ _ _ _ hrd7).mono ?_
          rw [HE.out]
          rintro e w8 ⟨rfl, hk8⟩
          have HK8 := Lib.hid hk8
          clear hk8
          by_cases h4 : X.2.err = 4
          · have a4 : (X.2.err != 4) = false := by simp [h4]
            clear h4
            go_wp2_with fail
            refine (rRest_any r q _ _ X.2 _ (hrd7.keptN (HK8.out.alloc _))).mono ?_
            rw [HR.out]
            rintro e w9 ⟨rfl, n9, rfl⟩
            go_wp2_with fail
            refine (rRest_any r q _ _ X.2 _ (hrd7.keptN ((HK8.out.alloc _).drewN n9))).mono ?_
            rw [HR.out]
            rintro e w10 ⟨rfl, n10, rfl⟩
            go_wp2_with fail
            go_ret
            exact ⟨rfl, hkw7.trans ((HK8.out.alloc _).drewN (n9 + n10))⟩
          · have a4 : (X.2.err != 4) = true := by simp [h4]
            go_wp2_with fail
            refine (rRest_any r q _ _ X.2 _ (hrd7.keptN (HK8.out.alloc _))).mono ?_
            rw [HR.out]
            rintro e w9 ⟨rfl, n9, rfl⟩
            go_wp2_with fail
            go_ret
            exact ⟨rfl, hkw7.trans ((HK8.out.alloc _).drewN n9)⟩
    · have hkl : k = ks.length := by omega
      subst hkl
      have t0 : decide ((ks.length : Int) < ks.length) = false := by simp
      clear hlt
      go_wp2_with fail
      refine (wDone_any p qw 1000 v _ 0 _ hwr (by rw [List.length_take]; omega)).mono ?_
      rintro e w6 ⟨b6, rfl, hb6, hk6, hn6⟩
      have HB6 : Hid (RdB w6 b6 (bs.take s.pos)) := hb6.rd
      clear hb6 hn6
      obtain ⟨a6, n6, c6, rfl⟩ : ∃ a n c, b6 = .slice a n c := by
        obtain ⟨a, c, e, _⟩ := Sl.form HB6.out
        exact ⟨a, _, c, e⟩
      have hk6' := hkw.trans hk6
      go_wp2_with fail
      refine (rRest_any r q vr bs s _ (hrd.keptN hk6)).mono ?_
      rw [show rdRest bs s = (bs.length : Int) - s.pos by unfold rdRest; rw [if_pos hs]]
      rintro e w7 ⟨rfl, n7, rfl⟩
      have hle := hrd.le
      have hle2 : ((bs.length : Int) - ((bs.length : Int) - s.pos)) = s.pos := by omega
      have hp0 : (0 : Int) ≤ s.pos := by omega
      have hp1 : (s.pos : Int) ≤ cap := by omega
      clear hwr hrd
      go_wp2_with fail
      have hpc : RdB w (.slice ao s.pos cap) (bs.take s.pos) := by
        have := RdB.piece HX.out 0 s.pos (by omega) ao (by split <;> cases ao <;> simp [Addr.add_zero])
        rw [List.drop_zero] at this
        exact this
      refine (sameBytes_any _ _ _ _ _ (HB6.out.keptN ((Kept.refl NoS w6).drewN n7)) (hpc.keptN (hk6'.drewN n7))).mono ?_
      rw [decide_eq_true rfl]
      rintro e w8 ⟨rfl, rfl⟩
      go_wp2_with fail
      go_ret
      exact ⟨rfl, hk6'.drewN n7⟩
end Go.Proofs.Ytpagolhlbceegaa
