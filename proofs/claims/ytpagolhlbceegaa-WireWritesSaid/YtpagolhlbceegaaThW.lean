/- What the law writes and reads of a thing, walked. -/
import Derived.Test.YtpagolhlbceegaaWireQ
import Derived.Test.YtpagolhlbceegaaThing
namespace Go.Proofs.Ytpagolhlbceegaa
open Go.RowKit

theorem thC_d {t : Th} {vB vV : Value} (hd : t.d.length = 32) (i : Nat) (hi : i < 4) : (thC t vB vV)[35 + i]? = [Value.int .i64 t.r, .int .i64 t.s, vV, .bool t.is][i]? := by
  unfold thC
  rw [List.getElem?_append_right (by simp; omega), List.getElem?_append_right (by simp [bytesV, hd]; omega)]
  congr 1
  simp [bytesV, hd]
  omega
theorem thC_id {t : Th} {vB vV : Value} (hd : t.d.length = 32) (j : Nat) (u : Value) (h : (bytesV t.d)[j]? = some u) : (thC t vB vV)[3 + j]? = some u := by
  have hj : j < 32 := by
    have := (List.getElem?_eq_some_iff.1 h).1
    simpa [bytesV, hd] using this
  unfold thC
  rw [List.getElem?_append_right (by simp), List.getElem?_append_left (by simp [bytesV, hd]; omega)]
  simpa using h
theorem thC_len {t : Th} {vB vV : Value} (hd : t.d.length = 32) : (thC t vB vV).length = 39 := by
  simp [thC, bytesV, hd]

/-- The bytes of a thing, and whether its numbers are from 0 on. -/
def thEnc (t : Th) : List UInt8 × Bool :=
  if t.kind = 0 then (encNum t.n, decide (0 ≤ t.n))
  else if t.kind = 1 ∨ t.kind = 2 then (encNum t.b.length ++ t.b, true)
  else if t.kind = 3 then (t.d, true)
  else if t.kind = 4 then (encNum t.r ++ encNum t.s, decide (0 ≤ t.r) && decide (0 ≤ t.s))
  else if t.kind = 5 then (encNum t.v.length ++ encNums t.v, !t.v.any (fun n => decide (n < 0)))
  else ([boolB t.is], true)
def thKnown (t : Th) : Bool := decide (0 ≤ t.kind) && decide (t.kind ≤ 6)
def ThWPost (w : World) (p q : Nat) (lim : Int) (v : Value) (bs : List UInt8) (err : Int) (t : Th) (e : Ending) (w' : World) : Prop :=
  if thKnown t then PutPost w p q lim v (wput lim bs err (thEnc t).1 (thEnc t).2) e w' else e = .returned (.int .i64 0) ∧ Kept NoS w w'

/-- What a writer and a thing must be. -/
structure WH (p q : Nat) (lim : Int) (v vB vV : Value) (bs : List UInt8) (err : Int) (t : Th) (w : World) : Prop where
  h : WrAt w p q lim v bs err
  hb : bs.length ≤ 4294967296
  hB : RdB w vB t.b
  hV : RdI w vV t.v
  ht : ThOk t
  hbl : t.b.length ≤ 1048576
  hvl : t.v.length ≤ 1048576

set_option maxRecDepth 100000 in
set_option maxHeartbeats 1000000 in
theorem writes0 (p q : Nat) (lim : Int) (v vB vV : Value) (bs : List UInt8) (err : Int) (t : Th) (w : World) (H0 : WH p q lim v vB vV bs err t w) (hk : t.kind = 0) : Calls Try.prog 47 #[.pointer (some ⟨p, 0, none⟩), .agg (thC t vB vV).toArray] w (ThWPost w p q lim v bs err t) := by
  obtain ⟨h, hb, hB, hV, ht, hbl, hvl⟩ := H0
  have hka : Kept NoS w (w.alloc (.cells (thC t vB vV).toArray 45)) := (Kept.refl NoS w).alloc _
  have hbx := Blk.new w (thC t vB vV).toArray 45
  have h1 := h.keptN hka
  have hsz : (⟨t.b.toArray⟩ : ByteArray).size = t.b.length := by simp [ByteArray.size]
  have hcv := (hB.keptN hka).conv
  have HP := Lib.hid (wNum_any p q lim v bs err _ h1 hb t.n ht.n)
  have c0 : (w.alloc (.cells (thC t vB vV).toArray 45)).cell? ⟨w.heap.size, 0, none⟩ = some (.int .i64 0) := by rw [hbx.cell]; simp [thC, hk]
  have c1 : (w.alloc (.cells (thC t vB vV).toArray 45)).cell? ⟨w.heap.size, 1, none⟩ = some (.int .i64 t.n) := by rw [hbx.cell]; simp [thC]
  have c2 : (w.alloc (.cells (thC t vB vV).toArray 45)).cell? ⟨w.heap.size, 2, none⟩ = some vB := by rw [hbx.cell]; simp [thC]
  have c35 : (w.alloc (.cells (thC t vB vV).toArray 45)).cell? ⟨w.heap.size, 35, none⟩ = some (.int .i64 t.r) := by rw [hbx.cell, List.getElem?_toArray]; exact thC_d ht.d 0 (by decide)
  have c36 : (w.alloc (.cells (thC t vB vV).toArray 45)).cell? ⟨w.heap.size, 36, none⟩ = some (.int .i64 t.s) := by rw [hbx.cell, List.getElem?_toArray]; exact thC_d ht.d 1 (by decide)
  have c37 : (w.alloc (.cells (thC t vB vV).toArray 45)).cell? ⟨w.heap.size, 37, none⟩ = some vV := by rw [hbx.cell, List.getElem?_toArray]; exact thC_d ht.d 2 (by decide)
  have c38 : (w.alloc (.cells (thC t vB vV).toArray 45)).cell? ⟨w.heap.size, 38, none⟩ = some (.bool t.is) := by rw [hbx.cell, List.getElem?_toArray]; exact thC_d ht.d 3 (by decide)
  have hid : Hid ((w.alloc (.cells (thC t vB vV).toArray 45)).rangeAt w.heap.size 3 (bytesV t.d)) := fun j u hu => by rw [hbx.cell, List.getElem?_toArray]; exact thC_id ht.d j u hu
  have hdl := Lib.hid ht.d
  have HE : Hid (∀ e w', PutPost w p q lim v (wput lim bs err (thEnc t).1 (thEnc t).2) e w' → ThWPost w p q lim v bs err t e w') := fun e w' hh => by
    unfold ThWPost
    rw [if_pos (by simp [thKnown, hk])]
    exact hh
  have HT : Hid (thEnc t = (encNum t.n, decide (0 ≤ t.n))) := by unfold thEnc; simp only [hk]; exact rfl
  have HS := Lib.hid hsz
  obtain ⟨aB, nB, capB, hvB⟩ : ∃ a n c, vB = .slice a n c := let ⟨a, c, e⟩ := hB.form; ⟨a, _, c, e⟩
  obtain ⟨aV, nV, capV, hvV⟩ : ∃ a n c, vV = .slice a n c := let ⟨a, c, e, _⟩ := hV.form; ⟨a, _, c, e⟩
  clear hbx h1 h hB hV hk ht hsz
  generalize hcs : (thC t vB vV).toArray = cs at *
  have HC := Lib.hid hcs
  clear hcs
  subst hvB hvV
  go_enter Try.func47, Try.ntmps47
  go_wp2_with (go_at_call 10; refine HP.out.mono ?_; rintro e w1 ⟨v1, rfl, r0⟩)
  go_ret
  have hp1 := PutPost.alloc (w := w) ⟨v1, rfl, r0⟩
  refine HE.out _ _ ?_
  rw [HT.out]
  exact hp1
set_option maxRecDepth 100000 in
set_option maxHeartbeats 1000000 in
theorem writes1 (p q : Nat) (lim : Int) (v vB vV : Value) (bs : List UInt8) (err : Int) (t : Th) (w : World) (H0 : WH p q lim v vB vV bs err t w) (hk : t.kind = 1) : Calls Try.prog 47 #[.pointer (some ⟨p, 0, none⟩), .agg (thC t vB vV).toArray] w (ThWPost w p q lim v bs err t) := by
  obtain ⟨h, hb, hB, hV, ht, hbl, hvl⟩ := H0
  have hka : Kept NoS w (w.alloc (.cells (thC t vB vV).toArray 45)) := (Kept.refl NoS w).alloc _
  have hbx := Blk.new w (thC t vB vV).toArray 45
  have h1 := h.keptN hka
  have hsz : (⟨t.b.toArray⟩ : ByteArray).size = t.b.length := by simp [ByteArray.size]
  have hcv := (hB.keptN hka).conv
  have HP := Lib.hid (wText_any p q lim v bs err _ h1 hb ⟨t.b.toArray⟩ (by rw [hsz]; omega))
  have c0 : (w.alloc (.cells (thC t vB vV).toArray 45)).cell? ⟨w.heap.size, 0, none⟩ = some (.int .i64 1) := by rw [hbx.cell]; simp [thC, hk]
  have c1 : (w.alloc (.cells (thC t vB vV).toArray 45)).cell? ⟨w.heap.size, 1, none⟩ = some (.int .i64 t.n) := by rw [hbx.cell]; simp [thC]
  have c2 : (w.alloc (.cells (thC t vB vV).toArray 45)).cell? ⟨w.heap.size, 2, none⟩ = some vB := by rw [hbx.cell]; simp [thC]
  have c35 : (w.alloc (.cells (thC t vB vV).toArray 45)).cell? ⟨w.heap.size, 35, none⟩ = some (.int .i64 t.r) := by rw [hbx.cell, List.getElem?_toArray]; exact thC_d ht.d 0 (by decide)
  have c36 : (w.alloc (.cells (thC t vB vV).toArray 45)).cell? ⟨w.heap.size, 36, none⟩ = some (.int .i64 t.s) := by rw [hbx.cell, List.getElem?_toArray]; exact thC_d ht.d 1 (by decide)
  have c37 : (w.alloc (.cells (thC t vB vV).toArray 45)).cell? ⟨w.heap.size, 37, none⟩ = some vV := by rw [hbx.cell, List.getElem?_toArray]; exact thC_d ht.d 2 (by decide)
  have c38 : (w.alloc (.cells (thC t vB vV).toArray 45)).cell? ⟨w.heap.size, 38, none⟩ = some (.bool t.is) := by rw [hbx.cell, List.getElem?_toArray]; exact thC_d ht.d 3 (by decide)
  have hid : Hid ((w.alloc (.cells (thC t vB vV).toArray 45)).rangeAt w.heap.size 3 (bytesV t.d)) := fun j u hu => by rw [hbx.cell, List.getElem?_toArray]; exact thC_id ht.d j u hu
  have hdl := Lib.hid ht.d
  have HE : Hid (∀ e w', PutPost w p q lim v (wput lim bs err (thEnc t).1 (thEnc t).2) e w' → ThWPost w p q lim v bs err t e w') := fun e w' hh => by
    unfold ThWPost
    rw [if_pos (by simp [thKnown, hk])]
    exact hh
  have HT : Hid (thEnc t = (encNum t.b.length ++ t.b, true)) := by unfold thEnc; simp only [hk]; exact rfl
  have HS := Lib.hid hsz
  obtain ⟨aB, nB, capB, hvB⟩ : ∃ a n c, vB = .slice a n c := let ⟨a, c, e⟩ := hB.form; ⟨a, _, c, e⟩
  obtain ⟨aV, nV, capV, hvV⟩ : ∃ a n c, vV = .slice a n c := let ⟨a, c, e, _⟩ := hV.form; ⟨a, _, c, e⟩
  clear hbx h1 h hB hV hk ht hsz
  generalize hcs : (thC t vB vV).toArray = cs at *
  have HC := Lib.hid hcs
  clear hcs
  subst hvB hvV
  go_enter Try.func47, Try.ntmps47
  go_wp2_with (go_at_call 9; refine HP.out.mono ?_; rintro e w1 ⟨v1, rfl, r0⟩)
  go_ret
  have hp1 := PutPost.alloc (w := w) ⟨v1, rfl, r0⟩
  refine HE.out _ _ ?_
  rw [HT.out]
  simp only [HS.out] at hp1
  exact hp1
set_option maxRecDepth 100000 in
set_option maxHeartbeats 1000000 in
theorem writes2 (p q : Nat) (lim : Int) (v vB vV : Value) (bs : List UInt8) (err : Int) (t : Th) (w : World) (H0 : WH p q lim v vB vV bs err t w) (hk : t.kind = 2) : Calls Try.prog 47 #[.pointer (some ⟨p, 0, none⟩), .agg (thC t vB vV).toArray] w (ThWPost w p q lim v bs err t) := by
  obtain ⟨h, hb, hB, hV, ht, hbl, hvl⟩ := H0
  have hka : Kept NoS w (w.alloc (.cells (thC t vB vV).toArray 45)) := (Kept.refl NoS w).alloc _
  have hbx := Blk.new w (thC t vB vV).toArray 45
  have h1 := h.keptN hka
  have hsz : (⟨t.b.toArray⟩ : ByteArray).size = t.b.length := by simp [ByteArray.size]
  have hcv := (hB.keptN hka).conv
  have HP := Lib.hid (wBytes_any p q lim v bs err _ h1 hb vB t.b (hB.keptN hka) (by omega))
  have c0 : (w.alloc (.cells (thC t vB vV).toArray 45)).cell? ⟨w.heap.size, 0, none⟩ = some (.int .i64 2) := by rw [hbx.cell]; simp [thC, hk]
  have c1 : (w.alloc (.cells (thC t vB vV).toArray 45)).cell? ⟨w.heap.size, 1, none⟩ = some (.int .i64 t.n) := by rw [hbx.cell]; simp [thC]
  have c2 : (w.alloc (.cells (thC t vB vV).toArray 45)).cell? ⟨w.heap.size, 2, none⟩ = some vB := by rw [hbx.cell]; simp [thC]
  have c35 : (w.alloc (.cells (thC t vB vV).toArray 45)).cell? ⟨w.heap.size, 35, none⟩ = some (.int .i64 t.r) := by rw [hbx.cell, List.getElem?_toArray]; exact thC_d ht.d 0 (by decide)
  have c36 : (w.alloc (.cells (thC t vB vV).toArray 45)).cell? ⟨w.heap.size, 36, none⟩ = some (.int .i64 t.s) := by rw [hbx.cell, List.getElem?_toArray]; exact thC_d ht.d 1 (by decide)
  have c37 : (w.alloc (.cells (thC t vB vV).toArray 45)).cell? ⟨w.heap.size, 37, none⟩ = some vV := by rw [hbx.cell, List.getElem?_toArray]; exact thC_d ht.d 2 (by decide)
  have c38 : (w.alloc (.cells (thC t vB vV).toArray 45)).cell? ⟨w.heap.size, 38, none⟩ = some (.bool t.is) := by rw [hbx.cell, List.getElem?_toArray]; exact thC_d ht.d 3 (by decide)
  have hid : Hid ((w.alloc (.cells (thC t vB vV).toArray 45)).rangeAt w.heap.size 3 (bytesV t.d)) := fun j u hu => by rw [hbx.cell, List.getElem?_toArray]; exact thC_id ht.d j u hu
  have hdl := Lib.hid ht.d
  have HE : Hid (∀ e w', PutPost w p q lim v (wput lim bs err (thEnc t).1 (thEnc t).2) e w' → ThWPost w p q lim v bs err t e w') := fun e w' hh => by
    unfold ThWPost
    rw [if_pos (by simp [thKnown, hk])]
    exact hh
  have HT : Hid (thEnc t = (encNum t.b.length ++ t.b, true)) := by unfold thEnc; simp only [hk]; exact rfl
  have HS := Lib.hid hsz
  obtain ⟨aB, nB, capB, hvB⟩ : ∃ a n c, vB = .slice a n c := let ⟨a, c, e⟩ := hB.form; ⟨a, _, c, e⟩
  obtain ⟨aV, nV, capV, hvV⟩ : ∃ a n c, vV = .slice a n c := let ⟨a, c, e, _⟩ := hV.form; ⟨a, _, c, e⟩
  clear hbx h1 h hB hV hk ht hsz
  generalize hcs : (thC t vB vV).toArray = cs at *
  have HC := Lib.hid hcs
  clear hcs
  subst hvB hvV
  go_enter Try.func47, Try.ntmps47
  go_wp2_with (go_at_call 20; refine HP.out.mono ?_; rintro e w1 ⟨v1, rfl, r0⟩)
  go_ret
  have hp1 := PutPost.alloc (w := w) ⟨v1, rfl, r0⟩
  refine HE.out _ _ ?_
  rw [HT.out]
  exact hp1
set_option maxRecDepth 100000 in
set_option maxHeartbeats 1000000 in
theorem writes3 (p q : Nat) (lim : Int) (v vB vV : Value) (bs : List UInt8) (err : Int) (t : Th) (w : World) (H0 : WH p q lim v vB vV bs err t w) (hk : t.kind = 3) : Calls Try.prog 47 #[.pointer (some ⟨p, 0, none⟩), .agg (thC t vB vV).toArray] w (ThWPost w p q lim v bs err t) := by
  obtain ⟨h, hb, hB, hV, ht, hbl, hvl⟩ := H0
  have hka : Kept NoS w (w.alloc (.cells (thC t vB vV).toArray 45)) := (Kept.refl NoS w).alloc _
  have hbx := Blk.new w (thC t vB vV).toArray 45
  have h1 := h.keptN hka
  have hsz : (⟨t.b.toArray⟩ : ByteArray).size = t.b.length := by simp [ByteArray.size]
  have hcv := (hB.keptN hka).conv
  have HP := Lib.hid (wID_any p q lim v bs err _ h1 hb t.d ht.d)
  have c0 : (w.alloc (.cells (thC t vB vV).toArray 45)).cell? ⟨w.heap.size, 0, none⟩ = some (.int .i64 3) := by rw [hbx.cell]; simp [thC, hk]
  have c1 : (w.alloc (.cells (thC t vB vV).toArray 45)).cell? ⟨w.heap.size, 1, none⟩ = some (.int .i64 t.n) := by rw [hbx.cell]; simp [thC]
  have c2 : (w.alloc (.cells (thC t vB vV).toArray 45)).cell? ⟨w.heap.size, 2, none⟩ = some vB := by rw [hbx.cell]; simp [thC]
  have c35 : (w.alloc (.cells (thC t vB vV).toArray 45)).cell? ⟨w.heap.size, 35, none⟩ = some (.int .i64 t.r) := by rw [hbx.cell, List.getElem?_toArray]; exact thC_d ht.d 0 (by decide)
  have c36 : (w.alloc (.cells (thC t vB vV).toArray 45)).cell? ⟨w.heap.size, 36, none⟩ = some (.int .i64 t.s) := by rw [hbx.cell, List.getElem?_toArray]; exact thC_d ht.d 1 (by decide)
  have c37 : (w.alloc (.cells (thC t vB vV).toArray 45)).cell? ⟨w.heap.size, 37, none⟩ = some vV := by rw [hbx.cell, List.getElem?_toArray]; exact thC_d ht.d 2 (by decide)
  have c38 : (w.alloc (.cells (thC t vB vV).toArray 45)).cell? ⟨w.heap.size, 38, none⟩ = some (.bool t.is) := by rw [hbx.cell, List.getElem?_toArray]; exact thC_d ht.d 3 (by decide)
  have hid : Hid ((w.alloc (.cells (thC t vB vV).toArray 45)).rangeAt w.heap.size 3 (bytesV t.d)) := fun j u hu => by rw [hbx.cell, List.getElem?_toArray]; exact thC_id ht.d j u hu
  have hdl := Lib.hid ht.d
  have HE : Hid (∀ e w', PutPost w p q lim v (wput lim bs err (thEnc t).1 (thEnc t).2) e w' → ThWPost w p q lim v bs err t e w') := fun e w' hh => by
    unfold ThWPost
    rw [if_pos (by simp [thKnown, hk])]
    exact hh
  have HT : Hid (thEnc t = (t.d, true)) := by unfold thEnc; simp only [hk]; exact rfl
  have HS := Lib.hid hsz
  obtain ⟨aB, nB, capB, hvB⟩ : ∃ a n c, vB = .slice a n c := let ⟨a, c, e⟩ := hB.form; ⟨a, _, c, e⟩
  obtain ⟨aV, nV, capV, hvV⟩ : ∃ a n c, vV = .slice a n c := let ⟨a, c, e, _⟩ := hV.form; ⟨a, _, c, e⟩
  clear hbx h1 h hB hV hk ht hsz
  generalize hcs : (thC t vB vV).toArray = cs at *
  have HC := Lib.hid hcs
  clear hcs
  subst hvB hvV
  go_enter Try.func47, Try.ntmps47
  go_wp2_with (first | (go_at_call 24; refine HP.out.mono ?_; rintro e w1 ⟨v1, rfl, r0⟩) | (refine wpList_load_mid rfl 40 (.tmp 29) rfl w.heap.size 3 rfl (bytesV t.d) _ hid.out Try.underlying40 rfl (by rw [bytesV_length, hdl.out]; kernel_rfl) ?_))
  go_ret
  have hp1 := PutPost.alloc (w := w) ⟨v1, rfl, r0⟩
  refine HE.out _ _ ?_
  rw [HT.out]
  exact hp1
set_option maxRecDepth 100000 in
set_option maxHeartbeats 1000000 in
theorem writes4 (p q : Nat) (lim : Int) (v vB vV : Value) (bs : List UInt8) (err : Int) (t : Th) (w : World) (H0 : WH p q lim v vB vV bs err t w) (hk : t.kind = 4) : Calls Try.prog 47 #[.pointer (some ⟨p, 0, none⟩), .agg (thC t vB vV).toArray] w (ThWPost w p q lim v bs err t) := by
  obtain ⟨h, hb, hB, hV, ht, hbl, hvl⟩ := H0
  have hka : Kept NoS w (w.alloc (.cells (thC t vB vV).toArray 45)) := (Kept.refl NoS w).alloc _
  have hbx := Blk.new w (thC t vB vV).toArray 45
  have h1 := h.keptN hka
  have hsz : (⟨t.b.toArray⟩ : ByteArray).size = t.b.length := by simp [ByteArray.size]
  have hcv := (hB.keptN hka).conv
  have HP := Lib.hid (wDot_any p q lim v bs err _ h1 hb t.r t.s ht.r ht.s)
  have c0 : (w.alloc (.cells (thC t vB vV).toArray 45)).cell? ⟨w.heap.size, 0, none⟩ = some (.int .i64 4) := by rw [hbx.cell]; simp [thC, hk]
  have c1 : (w.alloc (.cells (thC t vB vV).toArray 45)).cell? ⟨w.heap.size, 1, none⟩ = some (.int .i64 t.n) := by rw [hbx.cell]; simp [thC]
  have c2 : (w.alloc (.cells (thC t vB vV).toArray 45)).cell? ⟨w.heap.size, 2, none⟩ = some vB := by rw [hbx.cell]; simp [thC]
  have c35 : (w.alloc (.cells (thC t vB vV).toArray 45)).cell? ⟨w.heap.size, 35, none⟩ = some (.int .i64 t.r) := by rw [hbx.cell, List.getElem?_toArray]; exact thC_d ht.d 0 (by decide)
  have c36 : (w.alloc (.cells (thC t vB vV).toArray 45)).cell? ⟨w.heap.size, 36, none⟩ = some (.int .i64 t.s) := by rw [hbx.cell, List.getElem?_toArray]; exact thC_d ht.d 1 (by decide)
  have c37 : (w.alloc (.cells (thC t vB vV).toArray 45)).cell? ⟨w.heap.size, 37, none⟩ = some vV := by rw [hbx.cell, List.getElem?_toArray]; exact thC_d ht.d 2 (by decide)
  have c38 : (w.alloc (.cells (thC t vB vV).toArray 45)).cell? ⟨w.heap.size, 38, none⟩ = some (.bool t.is) := by rw [hbx.cell, List.getElem?_toArray]; exact thC_d ht.d 3 (by decide)
  have hid : Hid ((w.alloc (.cells (thC t vB vV).toArray 45)).rangeAt w.heap.size 3 (bytesV t.d)) := fun j u hu => by rw [hbx.cell, List.getElem?_toArray]; exact thC_id ht.d j u hu
  have hdl := Lib.hid ht.d
  have HE : Hid (∀ e w', PutPost w p q lim v (wput lim bs err (thEnc t).1 (thEnc t).2) e w' → ThWPost w p q lim v bs err t e w') := fun e w' hh => by
    unfold ThWPost
    rw [if_pos (by simp [thKnown, hk])]
    exact hh
  have HT : Hid (thEnc t = (encNum t.r ++ encNum t.s, decide (0 ≤ t.r) && decide (0 ≤ t.s))) := by unfold thEnc; simp only [hk]; exact rfl
  have HS := Lib.hid hsz
  obtain ⟨aB, nB, capB, hvB⟩ : ∃ a n c, vB = .slice a n c := let ⟨a, c, e⟩ := hB.form; ⟨a, _, c, e⟩
  obtain ⟨aV, nV, capV, hvV⟩ : ∃ a n c, vV = .slice a n c := let ⟨a, c, e, _⟩ := hV.form; ⟨a, _, c, e⟩
  clear hbx h1 h hB hV hk ht hsz
  generalize hcs : (thC t vB vV).toArray = cs at *
  have HC := Lib.hid hcs
  clear hcs
  subst hvB hvV
  go_enter Try.func47, Try.ntmps47
  go_wp2_with (go_at_call 26; refine HP.out.mono ?_; rintro e w1 ⟨v1, rfl, r0⟩)
  go_ret
  have hp1 := PutPost.alloc (w := w) ⟨v1, rfl, r0⟩
  refine HE.out _ _ ?_
  rw [HT.out]
  exact hp1
set_option maxRecDepth 100000 in
set_option maxHeartbeats 1000000 in
theorem writes5 (p q : Nat) (lim : Int) (v vB vV : Value) (bs : List UInt8) (err : Int) (t : Th) (w : World) (H0 : WH p q lim v vB vV bs err t w) (hk : t.kind = 5) : Calls Try.prog 47 #[.pointer (some ⟨p, 0, none⟩), .agg (thC t vB vV).toArray] w (ThWPost w p q lim v bs err t) := by
  obtain ⟨h, hb, hB, hV, ht, hbl, hvl⟩ := H0
  have hka : Kept NoS w (w.alloc (.cells (thC t vB vV).toArray 45)) := (Kept.refl NoS w).alloc _
  have hbx := Blk.new w (thC t vB vV).toArray 45
  have h1 := h.keptN hka
  have hsz : (⟨t.b.toArray⟩ : ByteArray).size = t.b.length := by simp [ByteArray.size]
  have hcv := (hB.keptN hka).conv
  have HP := Lib.hid (wVector_any p q lim v bs err _ h1 hb vV t.v (hV.keptN hka) (by omega) ht.v)
  have c0 : (w.alloc (.cells (thC t vB vV).toArray 45)).cell? ⟨w.heap.size, 0, none⟩ = some (.int .i64 5) := by rw [hbx.cell]; simp [thC, hk]
  have c1 : (w.alloc (.cells (thC t vB vV).toArray 45)).cell? ⟨w.heap.size, 1, none⟩ = some (.int .i64 t.n) := by rw [hbx.cell]; simp [thC]
  have c2 : (w.alloc (.cells (thC t vB vV).toArray 45)).cell? ⟨w.heap.size, 2, none⟩ = some vB := by rw [hbx.cell]; simp [thC]
  have c35 : (w.alloc (.cells (thC t vB vV).toArray 45)).cell? ⟨w.heap.size, 35, none⟩ = some (.int .i64 t.r) := by rw [hbx.cell, List.getElem?_toArray]; exact thC_d ht.d 0 (by decide)
  have c36 : (w.alloc (.cells (thC t vB vV).toArray 45)).cell? ⟨w.heap.size, 36, none⟩ = some (.int .i64 t.s) := by rw [hbx.cell, List.getElem?_toArray]; exact thC_d ht.d 1 (by decide)
  have c37 : (w.alloc (.cells (thC t vB vV).toArray 45)).cell? ⟨w.heap.size, 37, none⟩ = some vV := by rw [hbx.cell, List.getElem?_toArray]; exact thC_d ht.d 2 (by decide)
  have c38 : (w.alloc (.cells (thC t vB vV).toArray 45)).cell? ⟨w.heap.size, 38, none⟩ = some (.bool t.is) := by rw [hbx.cell, List.getElem?_toArray]; exact thC_d ht.d 3 (by decide)
  have hid : Hid ((w.alloc (.cells (thC t vB vV).toArray 45)).rangeAt w.heap.size 3 (bytesV t.d)) := fun j u hu => by rw [hbx.cell, List.getElem?_toArray]; exact thC_id ht.d j u hu
  have hdl := Lib.hid ht.d
  have HE : Hid (∀ e w', PutPost w p q lim v (wput lim bs err (thEnc t).1 (thEnc t).2) e w' → ThWPost w p q lim v bs err t e w') := fun e w' hh => by
    unfold ThWPost
    rw [if_pos (by simp [thKnown, hk])]
    exact hh
  have HT : Hid (thEnc t = (encNum t.v.length ++ encNums t.v, !t.v.any (fun n => decide (n < 0)))) := by unfold thEnc; simp only [hk]; exact rfl
  have HS := Lib.hid hsz
  obtain ⟨aB, nB, capB, hvB⟩ : ∃ a n c, vB = .slice a n c := let ⟨a, c, e⟩ := hB.form; ⟨a, _, c, e⟩
  obtain ⟨aV, nV, capV, hvV⟩ : ∃ a n c, vV = .slice a n c := let ⟨a, c, e, _⟩ := hV.form; ⟨a, _, c, e⟩
  clear hbx h1 h hB hV hk ht hsz
  generalize hcs : (thC t vB vV).toArray = cs at *
  have HC := Lib.hid hcs
  clear hcs
  subst hvB hvV
  go_enter Try.func47, Try.ntmps47
  go_wp2_with (go_at_call 28; refine HP.out.mono ?_; rintro e w1 ⟨v1, rfl, r0⟩)
  go_ret
  have hp1 := PutPost.alloc (w := w) ⟨v1, rfl, r0⟩
  refine HE.out _ _ ?_
  rw [HT.out]
  exact hp1
set_option maxRecDepth 100000 in
set_option maxHeartbeats 1000000 in
theorem writes6 (p q : Nat) (lim : Int) (v vB vV : Value) (bs : List UInt8) (err : Int) (t : Th) (w : World) (H0 : WH p q lim v vB vV bs err t w) (hk : t.kind = 6) : Calls Try.prog 47 #[.pointer (some ⟨p, 0, none⟩), .agg (thC t vB vV).toArray] w (ThWPost w p q lim v bs err t) := by
  obtain ⟨h, hb, hB, hV, ht, hbl, hvl⟩ := H0
  have hka : Kept NoS w (w.alloc (.cells (thC t vB vV).toArray 45)) := (Kept.refl NoS w).alloc _
  have hbx := Blk.new w (thC t vB vV).toArray 45
  have h1 := h.keptN hka
  have hsz : (⟨t.b.toArray⟩ : ByteArray).size = t.b.length := by simp [ByteArray.size]
  have hcv := (hB.keptN hka).conv
  have HP := Lib.hid (wBool_any p q lim v bs err _ h1 hb t.is)
  have c0 : (w.alloc (.cells (thC t vB vV).toArray 45)).cell? ⟨w.heap.size, 0, none⟩ = some (.int .i64 6) := by rw [hbx.cell]; simp [thC, hk]
  have c1 : (w.alloc (.cells (thC t vB vV).toArray 45)).cell? ⟨w.heap.size, 1, none⟩ = some (.int .i64 t.n) := by rw [hbx.cell]; simp [thC]
  have c2 : (w.alloc (.cells (thC t vB vV).toArray 45)).cell? ⟨w.heap.size, 2, none⟩ = some vB := by rw [hbx.cell]; simp [thC]
  have c35 : (w.alloc (.cells (thC t vB vV).toArray 45)).cell? ⟨w.heap.size, 35, none⟩ = some (.int .i64 t.r) := by rw [hbx.cell, List.getElem?_toArray]; exact thC_d ht.d 0 (by decide)
  have c36 : (w.alloc (.cells (thC t vB vV).toArray 45)).cell? ⟨w.heap.size, 36, none⟩ = some (.int .i64 t.s) := by rw [hbx.cell, List.getElem?_toArray]; exact thC_d ht.d 1 (by decide)
  have c37 : (w.alloc (.cells (thC t vB vV).toArray 45)).cell? ⟨w.heap.size, 37, none⟩ = some vV := by rw [hbx.cell, List.getElem?_toArray]; exact thC_d ht.d 2 (by decide)
  have c38 : (w.alloc (.cells (thC t vB vV).toArray 45)).cell? ⟨w.heap.size, 38, none⟩ = some (.bool t.is) := by rw [hbx.cell, List.getElem?_toArray]; exact thC_d ht.d 3 (by decide)
  have hid : Hid ((w.alloc (.cells (thC t vB vV).toArray 45)).rangeAt w.heap.size 3 (bytesV t.d)) := fun j u hu => by rw [hbx.cell, List.getElem?_toArray]; exact thC_id ht.d j u hu
  have hdl := Lib.hid ht.d
  have HE : Hid (∀ e w', PutPost w p q lim v (wput lim bs err (thEnc t).1 (thEnc t).2) e w' → ThWPost w p q lim v bs err t e w') := fun e w' hh => by
    unfold ThWPost
    rw [if_pos (by simp [thKnown, hk])]
    exact hh
  have HT : Hid (thEnc t = ([boolB t.is], true)) := by unfold thEnc; simp only [hk]; exact rfl
  have HS := Lib.hid hsz
  obtain ⟨aB, nB, capB, hvB⟩ : ∃ a n c, vB = .slice a n c := let ⟨a, c, e⟩ := hB.form; ⟨a, _, c, e⟩
  obtain ⟨aV, nV, capV, hvV⟩ : ∃ a n c, vV = .slice a n c := let ⟨a, c, e, _⟩ := hV.form; ⟨a, _, c, e⟩
  clear hbx h1 h hB hV hk ht hsz
  generalize hcs : (thC t vB vV).toArray = cs at *
  have HC := Lib.hid hcs
  clear hcs
  subst hvB hvV
  go_enter Try.func47, Try.ntmps47
  go_wp2_with (go_at_call 30; refine HP.out.mono ?_; rintro e w1 ⟨v1, rfl, r0⟩)
  go_ret
  have hp1 := PutPost.alloc (w := w) ⟨v1, rfl, r0⟩
  refine HE.out _ _ ?_
  rw [HT.out]
  exact hp1
set_option maxRecDepth 100000 in
set_option maxHeartbeats 1000000 in
theorem writesX (p q : Nat) (lim : Int) (v vB vV : Value) (bs : List UInt8) (err : Int) (t : Th) (w : World) (hk : thKnown t = false) : Calls Try.prog 47 #[.pointer (some ⟨p, 0, none⟩), .agg (thC t vB vV).toArray] w (ThWPost w p q lim v bs err t) := by
  have hbx := Blk.new w (thC t vB vV).toArray 45
  have c0 : (w.alloc (.cells (thC t vB vV).toArray 45)).cell? ⟨w.heap.size, 0, none⟩ = some (.int .i64 t.kind) := by rw [hbx.cell]; simp [thC]
  have HE : Hid (∀ e w', e = .returned (.int .i64 0) ∧ Kept NoS w w' → ThWPost w p q lim v bs err t e w') := fun e w' hh => by
    unfold ThWPost
    rw [if_neg (by rw [hk]; decide)]
    exact hh
  have hn : t.kind < 0 ∨ 6 < t.kind := by
    simp [thKnown] at hk
    omega
  have k0 : (t.kind == 0) = false := by simp; omega
  have k1 : (t.kind == 1) = false := by simp; omega
  have k2 : (t.kind == 2) = false := by simp; omega
  have k3 : (t.kind == 3) = false := by simp; omega
  have k4 : (t.kind == 4) = false := by simp; omega
  have k5 : (t.kind == 5) = false := by simp; omega
  have k6 : (t.kind == 6) = false := by simp; omega
  clear hbx hk hn
  generalize (thC t vB vV).toArray = cs at *
  go_enter Try.func47, Try.ntmps47
  go_wp2_with fail
  go_ret
  exact HE.out _ _ ⟨rfl, (Kept.refl NoS w).alloc _⟩
theorem writes_any (p q : Nat) (lim : Int) (v vB vV : Value) (bs : List UInt8) (err : Int) (t : Th) (w : World) (H0 : WH p q lim v vB vV bs err t w) : Calls Try.prog 47 #[.pointer (some ⟨p, 0, none⟩), .agg (thC t vB vV).toArray] w (ThWPost w p q lim v bs err t) := by
  by_cases h0 : t.kind = 0
  · exact writes0 p q lim v vB vV bs err t w H0 h0
  by_cases h1 : t.kind = 1
  · exact writes1 p q lim v vB vV bs err t w H0 h1
  by_cases h2 : t.kind = 2
  · exact writes2 p q lim v vB vV bs err t w H0 h2
  by_cases h3 : t.kind = 3
  · exact writes3 p q lim v vB vV bs err t w H0 h3
  by_cases h4 : t.kind = 4
  · exact writes4 p q lim v vB vV bs err t w H0 h4
  by_cases h5 : t.kind = 5
  · exact writes5 p q lim v vB vV bs err t w H0 h5
  by_cases h6 : t.kind = 6
  · exact writes6 p q lim v vB vV bs err t w H0 h6
  exact writesX p q lim v vB vV bs err t w (by simp [thKnown]; omega)
end Go.Proofs.Ytpagolhlbceegaa
