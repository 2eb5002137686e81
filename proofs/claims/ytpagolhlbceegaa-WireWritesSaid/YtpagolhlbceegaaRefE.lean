/- The document's writer: made, digests, dots, vectors, done. -/
import Derived.Test.YtpagolhlbceegaaRefC
import Derived.Deep.RegionHeld3
namespace Go.Proofs.Ytpagolhlbceegaa
open Go.RowKit

def RfNew (w : World) (lim : Int) (e : Ending) (w' : World) : Prop := ∃ x, e = .returned (.tuple #[.pointer (some ⟨x, 0, none⟩), .int .i64 0]) ∧ RfAt w' x lim (.slice none 0 0) [] 0 ∧ Kept NoS w w' ∧ w.heap.size ≤ x
theorem refNew_any (lim : Int) (w : World) (h0 : 0 ≤ lim) (h1 : lim ≤ 67108864) : Calls Try.prog 15 #[.int .i64 lim] w (RfNew w lim) := by
  go_enter Try.func15, Try.ntmps15
  go_wp2
  go_ret2
  exact ⟨_, rfl, ⟨Blk.new w _ _, OwnB.nil _⟩, (Kept.refl _ _).alloc _, Nat.le_refl _⟩
theorem refNew_bad (lim : Int) (w : World) (h0 : lim < 0 ∨ 67108864 < lim) : Calls Try.prog 15 #[.int .i64 lim] w fun e w' => e = .returned (.tuple #[.pointer none, .int .i64 3]) ∧ w = w' := by
  by_cases hl : lim < 0
  · go_enter Try.func15, Try.ntmps15
    go_wp2
    go_ret2
    exact ⟨rfl, rfl⟩
  · have h1 : 67108864 < lim := by omega
    clear h0
    go_enter Try.func15, Try.ntmps15
    go_wp2
    go_ret2
    exact ⟨rfl, rfl⟩
set_option maxRecDepth 100000 in
set_option maxHeartbeats 1000000 in
theorem refDone_any (x : Nat) (lim : Int) (v : Value) (bs : List UInt8) (err : Int) (w : World) (h : RfAt w x lim v bs err) (hb : bs.length ≤ 4294967296) : Calls Try.prog 32 #[.pointer (some ⟨x, 0, none⟩)] w (NewB w (doneB err bs) (fun v' => .tuple #[v', .int .i64 err])) := by
  have c2 := h.hx.at 2 rfl
  have hxl := h.hx.lt
  by_cases he : err = 0
  · subst he
    obtain ⟨ao, cap, rfl⟩ := h.own.rd.form
    have c1 := h.hx.at 1 rfl
    have hs := RdB.src (h.own.rd.keptN ((Kept.refl NoS w).alloc (.cells #[] 5)))
    have ho : OwnB (w.alloc (.cells #[] 5)) (.slice (some ⟨w.heap.size, 0, none⟩) 0 0) [] := World.ownsRow_made w #[] 0 (Nat.zero_le _) (Nat.zero_le _) rfl
    clear h
    go_enter Try.func32, Try.ntmps32
    go_wp2_with (at_builtin; refine wpList_appB rfl (.tmp 13) (.tmp 17) _ rfl (.slice (some ⟨w.heap.size, 0, none⟩) 0 0) [] rfl ho _ bs rfl hs ?_ ?_; rotate_left; intro v2 w2 ho2 hg2)
    · obtain ⟨h1, h2⟩ := Grew.fresh ((Kept.refl NoS w).alloc (.cells #[] 5)) (fun k hk => by simp [Value.ownBlock] at hk; omega) hg2
      go_ret2
      exact ⟨v2, rfl, ho2, h1, h2⟩
    · simp; omega
  · have e0 : (err != 0) = true := by simp [he]
    have HE := Lib.hid he
    clear he h
    go_enter Try.func32, Try.ntmps32
    go_wp2_with fail
    go_quiet (fail)
    go_wp2
    go_ret2
    refine ⟨_, rfl, ?_, (Kept.refl _ _).drewN _, by simp [Value.ownBlock]⟩
    unfold doneB
    rw [if_neg HE.out]
    exact OwnB.nil _
set_option maxRecDepth 100000 in
set_option maxHeartbeats 1000000 in
theorem refWID_any (x : Nat) (lim : Int) (v : Value) (bs : List UInt8) (err : Int) (w : World) (h : RfAt w x lim v bs err) (hb : bs.length ≤ 4294967296) (d : List UInt8) (hd : d.length = 32) :
    Calls Try.prog 25 #[.pointer (some ⟨x, 0, none⟩), .agg (bytesV d).toArray] w (RfPost w x lim v (wput lim bs err d true)) := by
  have hka : Kept NoS w (w.alloc (.cells (bytesV d).toArray 40)) := (Kept.refl NoS w).alloc _
  have hrd : RdB (w.alloc (.cells (bytesV d).toArray 40)) (.slice (some ⟨w.heap.size, 0, none⟩) 32 32) d := by
    refine .inr ⟨_, 0, 32, by rw [hd], by omega, by decide, fun i u hu => ?_⟩
    rw [(Blk.new w _ _).cell]
    simpa using hu
  have hP := refPut_any x lim v bs err _ (h.keptN hka) hb _ d hrd (by omega) (.slice none 0 0) [] (Sl.nil _)
  rw [show (!([] : List Int).any (fun n => decide (n < 0))) = true from rfl] at hP
  have HP := Lib.hid hP
  have HK := Lib.hid hka
  clear hP hrd h hka
  go_enter Try.func25, Try.ntmps25
  go_wp2_with fail
  refine HP.out.mono ?_
  intro e w2 hp
  have hp2 := hp.from HK.out
  obtain ⟨v2, rfl, r2⟩ := hp2
  have HR := Lib.hid r2
  clear r2 hp
  go_wp2_with fail
  go_ret
  exact ⟨v2, rfl, HR.out⟩
/-- append of bytes as a step of a region whose order is open. -/
theorem step_appB {w : World} {ops : Array Oper} {o : Oper} {a : Act} {K : Act → World → Prop} {Q : Exit → Act → World → Prop} {E : Prop} (hgd : o.guard = none) (s x : Operand) (tx : TypeId)
    (ho : o.op = .call { callee := .builtin .append, args := #[s, x], argTypes := #[28, tx] })
    (v : Value) (bs : List UInt8) (hs : a.eval s = v) (hown : OwnB w v bs) (xv : Value) (ns : List UInt8) (hx : a.eval x = xv) (hsrc : SrcB tx w xv ns)
    (hb : bs.length + ns.length ≤ 70368744177664)
    (h : ∀ v' w', OwnB w' v' (bs ++ ns) → Grew w w' v v' → K (a.put o.dst v') w') : if Region.wanted o (yielded ops a.tmps) = true then Oper.wp Try.prog o a w K Q else E := by
  have hw : Region.wanted o (yielded ops a.tmps) = true := by simp [Region.wanted, hgd]
  rw [if_pos hw]
  obtain ⟨i0, hi, hz0, hz1, hz2⟩ := info_parts Try.infoByte
  obtain ⟨v', w', hr, h1, h2, h3⟩ := run_app (P := Try.prog) w 0 28 tx o.type 5 i0 (.int .u8 0) 1 1 Try.underlying28 hi hz0 hz1 hz2 rfl v bs.length (bytesV bs) hown xv ns.length (bytesV ns) hsrc
    (by simp only [maxLen]; omega) (by omega) (Nat.zero_le _)
  unfold Oper.wp execOp
  simp only [ho, resolve, invoke, builtin, Sem.run_bind, Sem.run_pure, Result.andThen_ok, List.map_toArray, List.map_cons, List.map_nil, hs, hx, hr]
  refine h v' w' ?_ ⟨h2, ?_⟩
  · unfold OwnB; rw [List.length_append, bytesV_append]; exact h1
  · rcases h3 with h3 | ⟨k, h3, h4, _⟩
    · exact .inl h3
    · exact .inr ⟨k, h3, h4⟩
/-- The same, of two rows of bytes of the call's own, the last made perhaps one block ago. -/
theorem step_app2 {w1 w2 W : World} {ops : Array Oper} {o : Oper} {a : Act} {K : Act → World → Prop} {Q : Exit → Act → World → Prop} {E : Prop} (s x : Operand) (v1 v2 : Value) (xs ys : List UInt8) (hgd : o.guard = none)
    (ho : o.op = .call { callee := .builtin .append, args := #[s, x], argTypes := #[28, 28] }) (hs : a.eval s = v1) (hx : a.eval x = v2) (ho1 : OwnB w1 v1 xs) (hk : Kept NoS w1 w2) (ho2 : OwnB w2 v2 ys) (hW : W = w2 ∨ ∃ o, W = w2.alloc o)
    (hb : xs.length + ys.length ≤ 70368744177664) (h : ∀ v' w', OwnB w' v' (xs ++ ys) → Grew W w' v1 v' → K (a.put o.dst v') w') : if Region.wanted o (yielded ops a.tmps) = true then Oper.wp Try.prog o a W K Q else E := by
  have h2 : Kept NoS w2 W := by
    rcases hW with rfl | ⟨o, rfl⟩
    · exact Kept.refl _ _
    · exact (Kept.refl _ _).alloc _
  exact step_appB hgd s x _ ho v1 xs hs (ho1.keptN (hk.trans h2)) v2 ys hx (RdB.src (ho2.rd.keptN h2)) hb h
theorem world_is {W w2 : World} (hW : W = w2 ∨ ∃ o, W = w2.alloc o) {a : World} (h : Kept NoS a w2) : Kept NoS a W := by
  rcases hW with rfl | ⟨o, rfl⟩
  · exact h
  · exact h.alloc _
/-- A number from 0 on, or 0. -/
def cutN (n : Int) : Int := if n < 0 then 0 else n
theorem cutN_max (n : Int) : (if n < 0 then (0 : Int) else n) = cutN n := rfl
theorem cutN_bd {n : Int} (h : I64 n) : 0 ≤ cutN n ∧ cutN n ≤ 9223372036854775807 := by
  have h1 := h.1
  have h2 := h.2
  unfold cutN
  split <;> omega
theorem wput_cut (lim : Int) (bs : List UInt8) (err r n : Int) : wput lim bs err (encNum (cutN r) ++ encNum (cutN n)) (!([r, n] : List Int).any (fun n => decide (n < 0))) = wput lim bs err (encNum r ++ encNum n) (decide (0 ≤ r) && decide (0 ≤ n)) := by
  have e : (!([r, n] : List Int).any (fun n => decide (n < 0))) = (decide (0 ≤ r) && decide (0 ≤ n)) := by
    rw [Bool.eq_iff_iff]
    simp
  rw [e]
  by_cases h : 0 ≤ r ∧ 0 ≤ n
  · unfold cutN
    rw [if_neg (by omega), if_neg (by omega)]
  · have : (decide (0 ≤ r) && decide (0 ≤ n)) = false := by simp; omega
    rw [this]
    rfl
def RfDot (w : World) (x : Nat) (lim : Int) (v : Value) (R : List UInt8 × Int) (r n : Int) (e : Ending) (w' : World) : Prop :=
  ∃ e0, e = .returned (.int .i64 e0) ∧ RfPost w x lim v R (.returned (.int .i64 e0)) w' ∧ w'.cell? ⟨w.heap.size, 0, none⟩ = some (.int .i64 r) ∧ w'.cell? ⟨w.heap.size, 1, none⟩ = some (.int .i64 n)
theorem fresh_base {a b : World} {v : Value} (h : ∀ k, v.ownBlock = some k → b.heap.size ≤ k) (hab : a.heap.size ≤ b.heap.size) : ∀ k, v.ownBlock = some k → a.heap.size ≤ k := fun k hk => Nat.le_trans hab (h k hk)
theorem kept12 {a b c : World} (h : Kept NoS b c) (hab : a = b ∨ ∃ o, a.alloc o = b) : Kept NoS a c := by
  rcases hab with rfl | ⟨o, rfl⟩
  · exact h
  · exact ((Kept.refl NoS a).alloc o).trans h
theorem lit_apart {w1 : World} {v1 : Value} {bs : List UInt8} {B n c : Nat} (ho : OwnB w1 v1 bs) (hB : w1.heap.size ≤ B) : ∀ k, (Value.slice (some ⟨B, 0, none⟩) n c).ownBlock = some k → ¬ IsB v1.ownBlock k := fun k hk e => by
  have := owns_lt ho e
  simp [Value.ownBlock] at hk
  omega
theorem lit_apart' {w1 : World} {v1 : Value} {B n c : Nat} (hf : ∀ k, v1.ownBlock = some k → w1.heap.size ≤ k) (hB : B < w1.heap.size) : ∀ k, (Value.slice (some ⟨B, 0, none⟩) n c).ownBlock = some k → ¬ IsB v1.ownBlock k := fun k hk e => by
  have := hf k e
  simp [Value.ownBlock] at hk
  omega
theorem rdI_litB (w : World) (B : Nat) (hB : B = w.heap.size) (xs : List Int) (c : Array Value) (n : Nat) (hc : c = (xs.map (Value.int .i64)).toArray) (hn : n = xs.length) (hm : n ≤ maxLen) : RdI (w.alloc (.cells c 3)) (.slice (some ⟨B, 0, none⟩) n n) xs := by
  subst hB
  exact rdI_lit w xs c n hc hn hm
theorem RdI.drewI {w : World} {v : Value} {xs : List Int} (h : RdI w v xs) : RdI w.drew v xs := h.keptN ((Kept.refl _ _).drew)
set_option maxRecDepth 100000 in
set_option maxHeartbeats 4000000 in
theorem refWDot_any (x : Nat) (lim : Int) (v : Value) (bs : List UInt8) (err : Int) (w : World) (h : RfAt w x lim v bs err) (hb : bs.length ≤ 4294967296) (r n : Int) (hr : I64 r) (hn : I64 n) :
    Calls Try.prog 27 #[.pointer (some ⟨x, 0, none⟩), .agg #[.int .i64 r, .int .i64 n]] w (RfPost w x lim v (wput lim bs err (encNum r ++ encNum n) (decide (0 ≤ r) && decide (0 ≤ n)))) := by
  have HRN : Hid ((0 ≤ cutN r ∧ cutN r ≤ 9223372036854775807) ∧ (0 ≤ cutN n ∧ cutN n ≤ 9223372036854775807)) := ⟨cutN_bd hr, cutN_bd hn⟩
  have mr := cutN_max r
  have mn := cutN_max n
  have l1 := encNum_len (cutN r)
  have l2 := encNum_len (cutN n)
  have HB : Hid (∀ W, Kept NoS (w.alloc (.cells #[.int .i64 r, .int .i64 n] 42)) W → W.cell? ⟨w.heap.size, 0, none⟩ = some (.int .i64 r) ∧ W.cell? ⟨w.heap.size, 1, none⟩ = some (.int .i64 n)) := fun W hk => by
    have hb := (Blk.new w #[.int .i64 r, .int .i64 n] 42).kept hk fun e => e
    exact ⟨hb.at 0 rfl, hb.at 1 rfl⟩
  have hs0 := HB.out _ ((Kept.refl _ _).drew)
  have HP : Hid (∀ W b y, Kept NoS (w.alloc (.cells #[.int .i64 r, .int .i64 n] 42)) W → RdB W b (encNum (cutN r) ++ encNum (cutN n)) → RdI W y [r, n] → Calls Try.prog 21 #[.pointer (some ⟨x, 0, none⟩), b, y] W (RfDot w x lim v (wput lim bs err (encNum r ++ encNum n) (decide (0 ≤ r) && decide (0 ≤ n))) r n)) := fun W b y hk h1 h2 => by
    have hk' := ((Kept.refl NoS w).alloc (.cells #[.int .i64 r, .int .i64 n] 42)).trans hk
    have hP := refPut_any x lim v bs err _ (h.keptN hk') hb b _ h1 (by rw [List.length_append]; omega) y [r, n] h2
    rw [wput_cut] at hP
    refine hP.mono fun e w2 hp => ?_
    obtain ⟨v', rfl, r1, r2, r3⟩ := hp
    have hbk := ((Blk.new w #[.int .i64 r, .int .i64 n] 42).kept hk fun e => e).kept r2 fun e => by
      have := h.lt _ e
      omega
    exact ⟨_, rfl, RfPost.from ⟨v', rfl, r1, r2, r3⟩ hk', hbk.at 0 rfl, hbk.at 1 rfl⟩
  have HRF : Hid (∀ (W : World) (v1 : Value), OwnB W v1 (encNum (cutN r)) → ∀ k, IsB v1.ownBlock k → k < W.heap.size) := fun W v1 ho k hk => owns_lt ho hk
  have tok1 : True := trivial
  generalize (wput lim bs err (encNum r ++ encNum n) (decide (0 ≤ r) && decide (0 ≤ n))) = R at *
  clear h hr hn
  go_enter Try.func27, Try.ntmps27
  go_wp2_with fail
  go_region_held3 (fun w' => w'.cell? ⟨w.heap.size, 0, none⟩ = some (.int .i64 r) ∧ w'.cell? ⟨w.heap.size, 1, none⟩ = some (.int .i64 n))
    (first | exact hs0 | exact hs1 | exact hs2 | exact hs3 | exact hs4 | exact HB.out _ (((Kept.refl _ _).alloc _).drew) | exact HB.out _ (hb1.alloc _) | exact HB.out _ (hb2.alloc _) | exact HB.out _ (hb3.alloc _))
    ((first
      | (go_at_call 53; have _t := tok1; (with_reducible refine (refNum_any _ _ HRN.out.1.1 HRN.out.1.2).mono ?_); clear _t tok1; rintro e w1 ⟨v1, rfl, ho1, hk1, hf1⟩; have hb1 := Kept.trans (a := w.alloc (.cells #[.int .i64 r, .int .i64 n] 42)) (by first | exact (Kept.refl _ _).drew | exact ((Kept.refl _ _).alloc _).drew) hk1; have hs1 := HB.out _ hb1; have hfb1 := fresh_base (a := w.alloc (.cells #[.int .i64 r, .int .i64 n] 42)) hf1 (by simp))
      | (go_at_call 53; (with_reducible refine (refNum_any _ _ HRN.out.2.1 HRN.out.2.2).mono ?_); rintro e w2 ⟨v2, rfl, ho2, hk2, hf2⟩; have hb2 := Kept.trans (a := w.alloc (.cells #[.int .i64 r, .int .i64 n] 42)) (by first | exact hb1 | exact hb1.alloc _) hk2; have hk12 := kept12 (a := w1) hk2 (by first | exact .inl rfl | exact .inr ⟨_, rfl⟩); have hs2 := HB.out _ hb2)
      | (go_at_call 21; refine (HP.out _ _ _ (by first | exact hb3 | exact hb3.alloc _) (by first | exact ho3.rd | exact ho3.rd.keptN ((Kept.refl _ _).alloc _)) (by first | exact rdI_lit _ [r, n] _ 2 rfl rfl (by decide) | exact (rdI_lit _ [r, n] _ 2 rfl rfl (by decide)).kept hg3.1 (lit_apart ho1 hk12.size) | exact ((rdI_lit _ [r, n] _ 2 rfl rfl (by decide)).keptN hk2).kept hg3.1 (lit_apart ho1 (Nat.le_refl _)) | exact (((rdI_litB _ _ (by simp) [r, n] _ 2 rfl rfl (by decide)).drewI.keptN hk1).keptN hk2).kept hg3.1 (lit_apart' hf1 (by simp)))).mono ?_; rintro e w4 ⟨e0, rfl, hp4, hs4⟩)
      | (refine step_app2 (.tmp 9) (.tmp 13) v1 v2 (encNum (cutN r)) (encNum (cutN n)) rfl rfl rfl rfl ho1 hk12 ho2 (by first | exact .inl rfl | exact .inr ⟨_, rfl⟩) (Nat.le_trans (Nat.add_le_add l1 l2) (by decide)) ?_; intro v3 w3 ho3 hg3; have hb3 := (Grew.fresh (world_is (by first | exact .inl rfl | exact .inr ⟨_, rfl⟩) hb2) hfb1 hg3).1; have hs3 := HB.out _ hb3)
      | fail))
  all_goals
    go_wp2_with fail
    go_ret
    exact hp4
end Go.Proofs.Ytpagolhlbceegaa
