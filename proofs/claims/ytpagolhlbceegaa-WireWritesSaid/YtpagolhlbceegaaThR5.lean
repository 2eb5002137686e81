/- 'reads', walked, at one kind of thing. -/
import Derived.Test.YtpagolhlbceegaaThR
namespace Go.Proofs.Ytpagolhlbceegaa
open Go.RowKit

set_option maxRecDepth 100000 in
set_option maxHeartbeats 1000000 in
theorem reads5 (W : World) (r q : Nat) (v vB vV : Value) (bs : List UInt8) (s : RSt) (t : Th) (w : World) (H0 : RH W r q v vB vV bs s t w) (hk : t.kind = 5) : Calls Try.prog 48 #[.pointer (some ⟨r, 0, none⟩), .agg (thC t vB vV).toArray] w (BoolPost w r q v bs (rdThing bs s t)) := by
  obtain ⟨h, hb, hW, hr, hq, hB, hV, ht, hbl, hvl⟩ := H0
  have hlr := h.hr.lt
  have hlq := h.hq.lt
  have hka : Kept NoS w (w.alloc (.cells (thC t vB vV).toArray 45)) := (Kept.refl NoS w).alloc _
  have HB : Hid (∀ w', Kept NoS (w.alloc (.cells (thC t vB vV).toArray 45)) w' → Blk w' w.heap.size (thC t vB vV).toArray 45) := fun w' hk => (Blk.new w _ _).kept hk fun e => e
  have HP : Hid (∀ w', Kept NoS (w.alloc (.cells (thC t vB vV).toArray 45)) w' → Calls Try.prog 44 #[.pointer (some ⟨r, 0, none⟩), .int .i64 t.v.length] w' (VecPost w' r q v bs (rdVec bs s t.v.length))) := fun w' hk => by
    have h' := h.keptN (hka.trans hk)
    exact rVector_any r q v bs s t.v.length w' h' hb
  have HN : Hid (¬ RdS r q w.heap.size) := fun e => by rcases e with e | e <;> omega
  have HWK : Hid (∀ w' w1, Kept NoS (w.alloc (.cells (thC t vB vV).toArray 45)) w' → Kept (RdS r q) w' w1 → Kept NoS W w1) := fun w' w1 k1 k2 => ((hW.trans hka).trans k1).step k2 fun i hi e => by rcases e with e | e <;> omega
  have HWK0 : Hid (∀ w', Kept NoS (w.alloc (.cells (thC t vB vV).toArray 45)) w' → Kept NoS W w') := fun w' k1 => (hW.trans hka).trans k1
  have HC : Hid ((thC t vB vV).toArray[0]? = some (.int .i64 5) ∧ (thC t vB vV).toArray[1]? = some (.int .i64 t.n) ∧ (thC t vB vV).toArray[2]? = some vB ∧ (thC t vB vV).toArray[35]? = some (.int .i64 t.r) ∧ (thC t vB vV).toArray[36]? = some (.int .i64 t.s) ∧ (thC t vB vV).toArray[37]? = some vV ∧ (thC t vB vV).toArray[38]? = some (.bool t.is) ∧ ∀ j u, (bytesV t.d)[j]? = some u → (thC t vB vV).toArray[3 + j]? = some u) := by
    simp only [List.getElem?_toArray]
    exact ⟨by simp [thC, hk], by simp [thC], by simp [thC], thC_d ht.d 0 (by decide), thC_d ht.d 1 (by decide), thC_d ht.d 2 (by decide), thC_d ht.d 3 (by decide), fun j u hu => thC_id ht.d j u hu⟩
  have HT : Hid (∀ x, rdVec bs s t.v.length = x → rdThing bs s t = (decide (x.1 = t.v), x.2)) := fun x hx => by subst hx; unfold rdThing; simp only [hk]; exact rfl
  have HS : Hid (∀ w' w1 x, Kept NoS (w.alloc (.cells (thC t vB vV).toArray 45)) w' → RdAt w1 r q v bs x → Kept (RdS r q) w' w1 → RdAt w1 r q v bs x ∧ Kept (RdS r q) w w1) := fun w' w1 x k1 h1 k2 => ⟨h1, ((hka.trans k1).ofN).trans k2⟩
  have hd := ht.d
  have HD := Lib.hid hd
  have HBB := Lib.hid hB
  have HVV := Lib.hid hV
  obtain ⟨aB, capB, hvB⟩ := hB.form
  obtain ⟨aV, capV, hvV, hcv1, hcv2⟩ := hV.form
  unfold maxLen at hcv2
  clear h hW hB hV hk ht hka hd
  generalize hX : rdVec bs s t.v.length = X at *
  replace HT := Lib.hid (HT.out X rfl)
  generalize hcs : (thC t vB vV).toArray = cs at *
  clear hX hcs
  have c0 := (HB.out _ (Kept.refl _ _)).at 0 HC.out.1
  have c1 := (HB.out _ (Kept.refl _ _)).at 1 HC.out.2.1
  have c2 := (HB.out _ (Kept.refl _ _)).at 2 HC.out.2.2.1
  have c35 := (HB.out _ (Kept.refl _ _)).at 35 HC.out.2.2.2.1
  have c36 := (HB.out _ (Kept.refl _ _)).at 36 HC.out.2.2.2.2.1
  have c37 := (HB.out _ (Kept.refl _ _)).at 37 HC.out.2.2.2.2.2.1
  have c38 := (HB.out _ (Kept.refl _ _)).at 38 HC.out.2.2.2.2.2.2.1
  subst hvB hvV
  go_enter Try.func48, Try.ntmps48
  go_wp2_with fail
  go_region_with (first | (go_at_call 44; refine (HP.out _ (by first | exact (Kept.refl _ _).drew | exact Kept.refl _ _)).mono ?_; rintro e w1 ⟨v1, rfl, ho1, h1, hk1, hn1⟩; have hbx := (HB.out _ (by first | exact (Kept.refl _ _).drew | exact Kept.refl _ _)).kept hk1 HN.out; have d1 := hbx.at 1 HC.out.2.1; have d2 := hbx.at 2 HC.out.2.2.1; have d35 := hbx.at 35 HC.out.2.2.2.1; have d36 := hbx.at 36 HC.out.2.2.2.2.1; have d37 := hbx.at 37 HC.out.2.2.2.2.2.1; have d38 := hbx.at 38 HC.out.2.2.2.2.2.2.1; have hWw := HWK.out _ w1 (by first | exact (Kept.refl _ _).drew | exact Kept.refl _ _) hk1; have hcv := (HBB.out.keptN hWw).conv) | (go_at_call 60; refine (sameInts_any v1 _ X.1 t.v _ ho1.rd (HVV.out.keptN hWw)).mono ?_; rintro e w3 ⟨rfl, hk3⟩))
  all_goals
    go_wp2_with fail
    go_ret
    rw [HT.out]
    have hs := HS.out _ _ _ (by first | exact (Kept.refl _ _).drew | exact Kept.refl _ _) h1 hk1
    exact ⟨rfl, hs.1.keptN hk3, hs.2.trans hk3.ofN⟩
end Go.Proofs.Ytpagolhlbceegaa
