/- What a reader reads: texts, bytes, dots, vectors, bools; what is left; its end. -/
import Derived.Test.YtpagolhlbceegaaWireF
import Derived.Deep.RegionWith
namespace Go.Proofs.Ytpagolhlbceegaa
open Go.RowKit

def rdBytes (bs : List UInt8) (s : RSt) (most : Int) : List UInt8 × RSt := rdTake bs (rdMany bs s most).2 (rdMany bs s most).1.toNat (rdPlace s)
theorem RSt.fail_pos (s : RSt) (e a : Int) : (s.fail e a).pos = s.pos := by unfold RSt.fail; split <;> rfl
theorem rdMany_ge (bs : List UInt8) (s : RSt) (most : Int) : 0 ≤ (rdMany bs s most).1 ∧ (rdMany bs s most).1 ≤ 9223372036854775807 := by
  have h := rdNum_ge bs s
  unfold rdMany
  split
  · split
    · exact h
    · exact h
  · simp

set_option maxHeartbeats 400000 in
theorem rBytes_any (r q : Nat) (v : Value) (bs : List UInt8) (s : RSt) (most : Int) (w : World) (h : RdAt w r q v bs s) (hb : bs.length ≤ 4294967296) : Calls Try.prog 41 #[.pointer (some ⟨r, 0, none⟩), .int .i64 most] w (TakePost w r q v bs (rdBytes bs s most)) := by
  have H := Lib.hid h
  clear h
  have hge := rdMany_ge bs s most
  have HM := Lib.hid (rMany_any r q v bs s most w H.out hb)
  have HF : Hid (rdBytes bs s most = rdTake bs (rdMany bs s most).2 (rdMany bs s most).1.toNat (rdPlace s)) := (rfl : rdBytes bs s most = rdTake bs (rdMany bs s most).2 (rdMany bs s most).1.toNat (rdPlace s))
  generalize rdBytes bs s most = R at *
  generalize rdMany bs s most = M at *
  go_enter Try.func41, Try.ntmps41
  go_wp2_with (first | (go_at_call 57; refine (rPlace_any r q v bs s _ H.out).mono ?_; rintro e w' ⟨rfl, rfl⟩) | (go_at_call 59; refine HM.out.mono ?_; rintro e w1 ⟨rfl, h1, hk1⟩) | (go_at_call 58; refine (rTake_any r q v bs M.2 M.1 (rdPlace s) _ h1 hb hge.1 hge.2).mono ?_; rintro e w2 ⟨v2, rfl, ho2, h2, hk2, hn2⟩))
  go_ret
  rw [HF.out]
  exact ⟨v2, rfl, ho2, h2, hk1.trans hk2, fun k hk => Nat.le_trans hk1.size (hn2 k hk)⟩

theorem RdB.conv {w : World} {v : Value} {bs : List UInt8} (h : RdB w v bs) : (convert 28 9 v).run Try.prog w = .ok (.string ⟨bs.toArray⟩) w := by
  rcases h with ⟨⟨a, rfl⟩, h2, _⟩ | ⟨b, off, cap, rfl, h2, h3, h4⟩
  · have hb := List.eq_nil_of_length_eq_zero h2
    subst hb
    cases a with
    | some a => exact run_convert_bytes_back w 28 9 5 a 0 [] Try.underlying28 Try.underlying5 Try.underlying9 fun j hj => by simp at hj
    | none =>
    exact run_convert_bytes_nil w 28 5 Try.underlying28 Try.underlying5 0 0 _ Try.underlying9
  · refine run_convert_bytes_back w 28 9 5 ⟨b, off, none⟩ cap bs Try.underlying28 Try.underlying5 Try.underlying9 fun j hj => ?_
    rw [Addr.add_none]
    exact h4 j _ (by simp [bytesV, hj, byteV])
def TextPost (w : World) (r q : Nat) (v : Value) (bs : List UInt8) (x : List UInt8 × RSt) (e : Ending) (w' : World) : Prop :=
  e = .returned (.string ⟨x.1.toArray⟩) ∧ RdAt w' r q v bs x.2 ∧ Kept (RdS r q) w w'
set_option maxHeartbeats 400000 in
theorem rText_any (r q : Nat) (v : Value) (bs : List UInt8) (s : RSt) (most : Int) (w : World) (h : RdAt w r q v bs s) (hb : bs.length ≤ 4294967296) : Calls Try.prog 40 #[.pointer (some ⟨r, 0, none⟩), .int .i64 most] w (TextPost w r q v bs (rdBytes bs s most)) := by
  have HB := Lib.hid (rBytes_any r q v bs s most w h hb)
  clear h
  generalize rdBytes bs s most = R at *
  go_enter Try.func40, Try.ntmps40
  go_wp2_with (go_at_call 41; refine HB.out.mono ?_; rintro e w1 ⟨v1, rfl, ho1, h1, hk1, hn1⟩; have hcv := ho1.rd.conv)
  go_ret
  exact ⟨rfl, h1, hk1⟩

def rdDot (bs : List UInt8) (s : RSt) : (Int × Int) × RSt := if (rdNum bs (rdNum bs s).2).2.err = 0 then (((rdNum bs s).1, (rdNum bs (rdNum bs s).2).1), (rdNum bs (rdNum bs s).2).2) else ((0, 0), (rdNum bs (rdNum bs s).2).2)
def DotPost (w : World) (r q : Nat) (v : Value) (bs : List UInt8) (x : (Int × Int) × RSt) (e : Ending) (w' : World) : Prop :=
  e = .returned (.agg #[.int .i64 x.1.1, .int .i64 x.1.2]) ∧ RdAt w' r q v bs x.2 ∧ Kept (RdS r q) w w'
set_option maxHeartbeats 400000 in
theorem rDot_any (r q : Nat) (v : Value) (bs : List UInt8) (s : RSt) (w : World) (h : RdAt w r q v bs s) (hb : bs.length ≤ 4294967296) : Calls Try.prog 43 #[.pointer (some ⟨r, 0, none⟩)] w (DotPost w r q v bs (rdDot bs s)) := by
  have HF : Hid (rdDot bs s = if (rdNum bs (rdNum bs s).2).2.err = 0 then (((rdNum bs s).1, (rdNum bs (rdNum bs s).2).1), (rdNum bs (rdNum bs s).2).2) else ((0, 0), (rdNum bs (rdNum bs s).2).2)) := (rfl : rdDot bs s = _)
  have HN := Lib.hid (rNum_any r q v bs s _ (h.keptN ((Kept.refl NoS w).alloc (.cells #[.int .i64 0, .int .i64 0] 42))) hb)
  have HN2 := Lib.hid (fun w h => rNum_any r q v bs (rdNum bs s).2 w h hb)
  have hlr := h.hr.lt
  have hlq := h.hq.lt
  have H := Lib.hid h
  clear h
  generalize rdDot bs s = R at *
  generalize rdNum bs (rdNum bs s).2 = N2 at *
  generalize rdNum bs s = N1 at *
  go_enter Try.func43, Try.ntmps43
  go_wp2_with fail
  refine HN.out.mono ?_
  rintro e w1 ⟨rfl, h1, hk1⟩
  have hb1 : Blk w1 w.heap.size #[.int .i64 0, .int .i64 0] 42 := (Blk.new w _ _).kept hk1 (by unfold RdS; omega)
  go_wp2_with fail
  refine (HN2.out _ (h1.keptN ((Kept.refl NoS w1).alloc _))).mono ?_
  rintro e w2 ⟨rfl, h2, hk2⟩
  have hlr1 := h1.hr.lt
  have hlq1 := h1.hq.lt
  have hb2 : Blk w2 w1.heap.size #[.int .i64 N1.1, .int .i64 0] 42 := (Blk.new w1 _ _).kept hk2 (by unfold RdS; omega)
  have hb0 : Blk w2 w.heap.size #[.int .i64 0, .int .i64 0] 42 := (hb1.alloc _).kept hk2 (by unfold RdS; omega)
  have hne : w.heap.size ≠ w1.heap.size := Nat.ne_of_lt hb1.lt
  have c1 := hb2.at 1 rfl
  have f1 := hb2.free 1
  go_wp2_with fail
  have h3 := h2.kept (Kept.setOne w2 w1.heap.size 1 (.int .i64 N2.1)) fun k hk e => by
    have := h1.lt k hk
    unfold AtB at e
    omega
  have e0 := h3.hr.at 0 rfl
  have d0 := h3.hq.at 0 rfl
  have hb3 := hb2.set 1 (.int .i64 N2.1)
  have hb4 := hb0.setOther (a := ⟨w1.heap.size, 1, none⟩) hne (.int .i64 N2.1)
  have g0 := hb4.at 0 rfl
  have g1 := hb4.at 1 rfl
  have k0 := hb4.free 0
  have k1 := hb4.free 1
  have m0 := hb3.at 0 rfl
  have m1 := hb3.at 1 rfl
  have hk3 := Kept.setOne w2 w1.heap.size 1 (.int .i64 N2.1)
  have hkk : Kept (RdS r q) w (w2.setCell ⟨w1.heap.size, 1, none⟩ (.int .i64 N2.1)) := by
    refine Kept.step (S := RdS r q) (Kept.step (S := RdS r q) (((Kept.refl _ w).alloc _).trans hk1) (((Kept.refl _ w1).alloc _).trans hk2) fun _ _ e => e) hk3 fun k hk e => ?_
    unfold AtB at e
    have := hb1.lt
    omega
  generalize hw3 : w2.setCell ⟨w1.heap.size, 1, none⟩ (.int .i64 N2.1) = w3 at *
  have hwf : ∀ (a b : Int), RdAt ((w3.setCell ⟨w.heap.size, 0, none⟩ (.int .i64 a)).setCell ⟨w.heap.size, 1, none⟩ (.int .i64 b)) r q v bs N2.2 ∧ Kept (RdS r q) w ((w3.setCell ⟨w.heap.size, 0, none⟩ (.int .i64 a)).setCell ⟨w.heap.size, 1, none⟩ (.int .i64 b)) := fun a b => by
    have hk4 := (Kept.setOne w3 w.heap.size 0 (.int .i64 a)).trans (Kept.setOne _ w.heap.size 1 (.int .i64 b))
    refine ⟨h3.kept hk4 fun k hk e => ?_, hkk.step hk4 fun k hk e => ?_⟩
    · have := H.out.lt k hk
      unfold AtB at e
      omega
    · unfold AtB at e
      omega
  have HW := Lib.hid hwf
  have HB := Lib.hid hb4
  clear hwf hb4 hb3 hb2 hb1 hb0 hw3 c1 f1
  by_cases he : N2.2.err = 0
  · rw [if_pos he] at HF
    have he1 : (N2.2.err != 0) = false := by simp [he]
    clear he
    go_wp2_with (go_at_call 54; refine (rnone_any r q N2.2.err _ e0 d0).mono ?_; rintro e w' ⟨rfl, rfl⟩)
    refine bodyPost_ret (v := .agg #[.int .i64 N1.1, .int .i64 N2.1]) (results_cell_row (P := Try.prog) rfl _ _ w.heap.size 42 #[.int .i64 N1.1, .int .i64 N2.1] (0, 0) _ rfl ((HB.out.set 0 _).set 1 _) Try.underlying42 rfl (by kernel_rfl)) rfl ?_
    rw [HF.out]
    exact ⟨rfl, HW.out _ _⟩
  · rw [if_neg he] at HF
    have he1 : (N2.2.err != 0) = true := by simp [he]
    clear he
    go_wp2_with (go_at_call 54; refine (rnone_any r q N2.2.err _ e0 d0).mono ?_; rintro e w' ⟨rfl, rfl⟩)
    refine bodyPost_ret (v := .agg #[.int .i64 0, .int .i64 0]) (results_cell_row (P := Try.prog) rfl _ _ w.heap.size 42 #[.int .i64 0, .int .i64 0] (0, 0) _ rfl ((HB.out.set 0 _).set 1 _) Try.underlying42 rfl (by kernel_rfl)) rfl ?_
    rw [HF.out]
    exact ⟨rfl, HW.out _ _⟩

def rdBool (bs : List UInt8) (s : RSt) : Bool × RSt := ((rdNum bs s).1 == 1, if 1 < (rdNum bs s).1 then (rdNum bs s).2.fail 5 (rdPlace s) else (rdNum bs s).2)
def BoolPost (w : World) (r q : Nat) (v : Value) (bs : List UInt8) (x : Bool × RSt) (e : Ending) (w' : World) : Prop :=
  e = .returned (.bool x.1) ∧ RdAt w' r q v bs x.2 ∧ Kept (RdS r q) w w'
set_option maxHeartbeats 400000 in
theorem rBool_any (r q : Nat) (v : Value) (bs : List UInt8) (s : RSt) (w : World) (h : RdAt w r q v bs s) (hb : bs.length ≤ 4294967296) : Calls Try.prog 45 #[.pointer (some ⟨r, 0, none⟩)] w (BoolPost w r q v bs (rdBool bs s)) := by
  have HN := Lib.hid (rNum_any r q v bs s _ h hb)
  have HF : Hid (rdBool bs s = ((rdNum bs s).1 == 1, if 1 < (rdNum bs s).1 then (rdNum bs s).2.fail 5 (rdPlace s) else (rdNum bs s).2)) := (rfl : rdBool bs s = _)
  have H := Lib.hid h
  clear h
  generalize rdBool bs s = R at *
  generalize rdNum bs s = N at *
  by_cases hn : 1 < N.1
  · rw [if_pos hn] at HF
    go_enter Try.func45, Try.ntmps45
    go_wp2_with (first | (go_at_call 57; refine (rPlace_any r q v bs s _ H.out).mono ?_; rintro e w' ⟨rfl, rfl⟩) | (go_at_call 39; refine HN.out.mono ?_; rintro e w1 ⟨rfl, h1, hk1⟩; have c0 := h1.hr.at 0 rfl) | (go_at_call 55; refine (fails_any r q v bs _ 5 (rdPlace s) _ h1).mono ?_; rintro e w2 ⟨rfl, h2, hk2⟩))
    go_ret
    rw [HF.out]
    exact ⟨rfl, h2, hk1.trans hk2⟩
  · rw [if_neg hn] at HF
    go_enter Try.func45, Try.ntmps45
    go_wp2_with (first | (go_at_call 57; refine (rPlace_any r q v bs s _ H.out).mono ?_; rintro e w' ⟨rfl, rfl⟩) | (go_at_call 39; refine HN.out.mono ?_; rintro e w1 ⟨rfl, h1, hk1⟩; have c0 := h1.hr.at 0 rfl))
    go_ret
    rw [HF.out]
    exact ⟨rfl, h1, hk1⟩

def rdRest (bs : List UInt8) (s : RSt) : Int := if s.err = 0 then (bs.length : Int) - s.pos else 0
set_option maxHeartbeats 400000 in
theorem rRest_any (r q : Nat) (v : Value) (bs : List UInt8) (s : RSt) (w : World) (h : RdAt w r q v bs s) : Calls Try.prog 38 #[.pointer (some ⟨r, 0, none⟩)] w fun e w' => e = .returned (.int .i64 (rdRest bs s)) ∧ ∃ n, w' = w.drewN n := by
  obtain ⟨ao, cap, rfl, hcap1, hcap2⟩ := Sl.form h.own.rd
  unfold maxLen at hcap2
  have c0 := h.hr.at 0 rfl
  have c1 := h.hr.at 1 rfl
  have c2 := h.hr.at 2 rfl
  have d0 := h.hq.at 0 rfl
  have hle := h.le
  by_cases he : s.err = 0
  · have HF : Hid (rdRest bs s = (bs.length : Int) - s.pos) := by unfold rdRest; rw [if_pos he]; exact rfl
    have he1 : (s.err != 0) = false := by simp [he]
    clear he h
    go_enter Try.func38, Try.ntmps38
    go_wp2_with (go_at_call 54; refine (rnone_any r q s.err _ c0 d0).mono ?_; rintro e w' ⟨rfl, rfl⟩)
    go_quiet (fail)
    go_wp2_with fail
    go_ret
    exact ⟨ret_int HF.out.symm, _, rfl⟩
  · have HF : Hid (rdRest bs s = 0) := by unfold rdRest; rw [if_neg he]; exact rfl
    have he1 : (s.err != 0) = true := by simp [he]
    clear he h
    go_enter Try.func38, Try.ntmps38
    go_wp2_with (go_at_call 54; refine (rnone_any r q s.err _ c0 d0).mono ?_; rintro e w' ⟨rfl, rfl⟩)
    go_ret
    exact ⟨ret_int HF.out.symm, 0, rfl⟩

def rdEnd (bs : List UInt8) (s : RSt) : Int × Int := if s.err = 0 ∧ s.pos < bs.length then (4, s.pos) else (s.err, s.ea)
def EndPost (w : World) (x : Int × Int) (e : Ending) (w' : World) : Prop := e = .returned (.agg #[.int .i64 x.1, .int .i64 x.2]) ∧ Kept NoS w w'
set_option maxHeartbeats 400000 in
theorem rEnd_any (r q : Nat) (v : Value) (bs : List UInt8) (s : RSt) (w : World) (h : RdAt w r q v bs s) : Calls Try.prog 46 #[.pointer (some ⟨r, 0, none⟩)] w (EndPost w (rdEnd bs s)) := by
  obtain ⟨ao, cap, rfl, hcap1, hcap2⟩ := Sl.form h.own.rd
  unfold maxLen at hcap2
  have h' := h.keptN ((Kept.refl NoS w).alloc (.cells #[.int .i64 0, .int .i64 0] 68))
  have c0 := h.hr.at 0 rfl
  have c1 := h.hr.at 1 rfl
  have c2 := h.hr.at 2 rfl
  have d0 := h.hq.at 0 rfl
  have d1 := h.hq.at 1 rfl
  have dd0 := h'.hq.at 0 rfl
  have hlr := h.hr.lt
  have hlq := h.hq.lt
  clear h h'
  have HQ : Hid (∀ n, Calls Try.prog 51 #[.pointer (some ⟨q, 0, none⟩)] ((w.alloc (.cells #[.int .i64 0, .int .i64 0] 68)).drewN n) fun e w'' => e = .returned (.bool (s.err != 0)) ∧ ∃ m, w'' = (w.alloc (.cells #[.int .i64 0, .int .i64 0] 68)).drewN m) := fun n =>
    Calls.quiet_of_same ((failed_any q s.err ((w.alloc (.cells #[.int .i64 0, .int .i64 0] 68)).drewN n) dd0).mono fun _ _ h => ⟨h.1, h.2.symm⟩)
  by_cases he : s.err = 0
  · by_cases hp : s.pos < bs.length
    · have HF : Hid (rdEnd bs s = (4, (s.pos : Int))) := by unfold rdEnd; rw [if_pos ⟨he, hp⟩]; exact rfl
      have he1 : (s.err != 0) = false := by simp [he]
      have hp2 : decide ((s.pos : Int) < bs.length) = true := by simp; omega
      clear he
      go_enter Try.func46, Try.ntmps46
      go_wp2_with fail
      go_quiet ((go_at_call 51; exact HQ.out _))
      go_wp2_with fail
      refine bodyPost_ret (v := .agg #[.int .i64 4, .int .i64 s.pos]) (results_cell_row (P := Try.prog) rfl _ _ w.heap.size 68 #[.int .i64 4, .int .i64 s.pos] (0, 0) _ rfl ?_ Try.underlying68 rfl (by kernel_rfl)) rfl ?_
      · exact ((((Blk.new w _ _).drewN _).set 0 _).set 1 _)
      · rw [HF.out]
        exact ⟨rfl, Kept.setCell (Kept.setCell (((Kept.refl NoS w).alloc _).drewN _) (p := ⟨w.heap.size, 0, none⟩) (.inl (Nat.le_refl _)) _) (p := ⟨w.heap.size, 1, none⟩) (.inl (Nat.le_refl _)) _⟩
    · have HF : Hid (rdEnd bs s = (s.err, s.ea)) := by unfold rdEnd; rw [if_neg (by omega)]; exact rfl
      have he1 : (s.err != 0) = false := by simp [he]
      have hp2 : decide ((s.pos : Int) < bs.length) = false := by simp; omega
      clear he
      go_enter Try.func46, Try.ntmps46
      go_wp2_with fail
      go_quiet ((go_at_call 51; exact HQ.out _))
      go_wp2_with fail
      refine bodyPost_ret (v := .agg #[.int .i64 s.err, .int .i64 s.ea]) (results_cell_row (P := Try.prog) rfl _ _ w.heap.size 68 #[.int .i64 s.err, .int .i64 s.ea] (0, 0) _ rfl ?_ Try.underlying68 rfl (by kernel_rfl)) rfl ?_
      · exact ((((Blk.new w _ _).drewN _).set 0 _).set 1 _)
      · rw [HF.out]
        exact ⟨rfl, Kept.setCell (Kept.setCell (((Kept.refl NoS w).alloc _).drewN _) (p := ⟨w.heap.size, 0, none⟩) (.inl (Nat.le_refl _)) _) (p := ⟨w.heap.size, 1, none⟩) (.inl (Nat.le_refl _)) _⟩
  · have HF : Hid (rdEnd bs s = (s.err, s.ea)) := by unfold rdEnd; rw [if_neg (by omega)]; exact rfl
    have he1 : (s.err != 0) = true := by simp [he]
    clear he
    go_enter Try.func46, Try.ntmps46
    go_wp2_with fail
    go_quiet ((go_at_call 51; exact HQ.out _))
    go_wp2_with fail
    refine bodyPost_ret (v := .agg #[.int .i64 s.err, .int .i64 s.ea]) (results_cell_row (P := Try.prog) rfl _ _ w.heap.size 68 #[.int .i64 s.err, .int .i64 s.ea] (0, 0) _ rfl ?_ Try.underlying68 rfl (by kernel_rfl)) rfl ?_
    · exact ((((Blk.new w _ _).drewN _).set 0 _).set 1 _)
    · rw [HF.out]
      exact ⟨rfl, Kept.setCell (Kept.setCell (((Kept.refl NoS w).alloc _).drewN _) (p := ⟨w.heap.size, 0, none⟩) (.inl (Nat.le_refl _)) _) (p := ⟨w.heap.size, 1, none⟩) (.inl (Nat.le_refl _)) _⟩

set_option maxHeartbeats 400000 in
theorem newReader_any (x : Value) (bs : List UInt8) (w : World) (hx : RdB w x bs) (hb : bs.length ≤ 4294967296) : Calls Try.prog 36 #[x] w fun e w' => ∃ r q v, e = .returned (.pointer (some ⟨r, 0, none⟩)) ∧ RdAt w' r q v bs ⟨0, 0, 0⟩ ∧ Kept NoS w w' ∧ (∀ k, RdB' r q v k → w.heap.size ≤ k) := by
  have HC := Lib.hid (clone_any x bs _ (hx.keptN ((Kept.refl NoS w).alloc (.cells #[.int .i64 0, .int .i64 0] 82))) (by omega))
  clear hx
  go_enter Try.func36, Try.ntmps36
  go_wp2_with (go_at_call 52; refine HC.out.mono ?_; rintro e w1 ⟨v1, rfl, ho1, hk1, hn1⟩; have hb1 := ((Blk.new w #[.int .i64 0, .int .i64 0] 82).kept hk1 (fun e => e)); obtain ⟨a1, n1, cap1, rfl⟩ := ho1.shape)
  go_ret
  refine ⟨_, _, _, rfl, ⟨Blk.newAt _ _ rfl, hb1.alloc _, ho1.alloc _, Nat.zero_le _⟩, (((Kept.refl NoS w).alloc _).trans hk1).alloc _, ?_⟩
  have hs := hk1.size
  simp at hs
  rintro k (rfl | rfl | e)
  · omega
  · omega
  · have := hn1 k e
    simp at this
    omega
end Go.Proofs.Ytpagolhlbceegaa
