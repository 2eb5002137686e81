/- The reader: a number of more than one byte. -/
import Derived.Test.YtpagolhlbceegaaWireR
namespace Go.Proofs.Ytpagolhlbceegaa
open Go.RowKit
theorem or_low (a x : Nat) (hx : x < 256) : a * 256 ||| x = a * 256 + x := by
  have h := Nat.two_pow_add_eq_or_of_lt (i := 8) (b := x) (by simpa using hx) a
  rw [Nat.mul_comm a 256]
  exact h.symm
theorem be_or (a x : Nat) (ha : a < 72057594037927936) (hx : x < 256) : bits .or .u64 (IntKind.u64.wrap ((a : Int) * 256)) (x : Int) = ((a * 256 + x : Nat) : Int) := by
  have h1 : IntKind.u64.wrap ((a : Int) * 256) = ((a * 256 : Nat) : Int) := by
    rw [IntKind.wrap_u64]; omega
  rw [h1, ← or_low a x hx]
  have hx2 : a * 256 ||| x < 2 ^ 64 := by rw [or_low a x hx]; omega
  have e1 : (BitVec.ofInt 64 ((a * 256 : Nat) : Int)).toNat = a * 256 := by
    rw [BitVec.ofInt_natCast, BitVec.toNat_ofNat]; exact Nat.mod_eq_of_lt (by omega)
  have e2 : (BitVec.ofInt 64 (x : Int)).toNat = x := by
    rw [BitVec.ofInt_natCast, BitVec.toNat_ofNat]; exact Nat.mod_eq_of_lt (by omega)
  show IntKind.u64.wrap ((BitVec.ofInt 64 ((a * 256 : Nat) : Int) ||| BitVec.ofInt 64 (x : Int)).toNat : Int) = _
  rw [BitVec.toNat_or, e1, e2, IntKind.wrap_u64]
  omega
theorem beVal_take (l : List UInt8) {m : Nat} {x : UInt8} (hx : l[m]? = some x) : beVal (l.take (m + 1)) = beVal (l.take m) * 256 + x.toNat := by
  rw [List.take_add_one, hx]
  exact beVal_snoc _ _
theorem beVal_bd (l : List UInt8) {m : Nat} (hm : m ≤ 7) : beVal (l.take m) < 72057594037927936 := by
  have h := beVal_lt (l.take m)
  have h2 : (l.take m).length ≤ 7 := by rw [List.length_take]; omega
  have h3 : 256 ^ (l.take m).length ≤ 256 ^ 7 := Nat.pow_le_pow_right (by decide) h2
  have h4 : 256 ^ 7 = 72057594037927936 := by decide
  omega
/-- A comparison with a great numeral, decided ahead: the walk does not look at the numeral. -/
theorem wpList_geq {P : Program} {w : World} {ops : Array Oper} {rest : List Oper} {o : Oper} {a : Act} {Q : Exit → Act → World → Prop} (hgd : o.guard = none) (t : TypeId) (x y : Operand) (t' : TypeId) (ho : o.op = .binOp .geq t x y t')
    (k : IntKind) (m n : Int) (hx : a.eval x = .int k m) (hy : a.eval y = .int k n) (b : Bool) (hb : decide (m ≥ n) = b)
    (h : wpList P ops Q rest (a.put o.dst (.bool b)) w) : wpList P ops Q (o :: rest) a w :=
  wpList_plain hgd fun K hK => by
    subst hb
    unfold Oper.wp execOp
    simp only [ho, hx, hy, eqGuard_geq, binOp_geq, Sem.run_bind, Sem.run_pure, Result.andThen_ok]
    exact hK _ _ h
theorem rdNumC_many (bs : List UInt8) (pos : Nat) (ea : Int) (c : Nat) (h1 : ¬ 199 < c) (h2 : ¬ bs.length < pos + 1 + (c - 191)) (h3 : ¬ c < 192) (X : Nat) (hX : beVal ((bs.drop (pos + 1)).take (c - 191)) = X) :
    rdNumC bs ⟨pos, 0, ea⟩ c = if 9223372036854775808 ≤ X ∨ sizeOfNum X ≠ c - 191 then (0, ⟨pos, 5, pos⟩) else ((X : Int), ⟨pos + 1 + (c - 191), 0, ea⟩) := by
  rw [rdNumC, if_neg h1, if_neg h2, if_neg h3]
  simp only [hX]
set_option maxRecDepth 100000 in
set_option maxHeartbeats 1000000 in
theorem rNum_many (r q b off cap : Nat) (bs : List UInt8) (pos : Nat) (ea : Int) (c : UInt8) (w : World) (h : RdAt w r q (.slice (some ⟨b, off, none⟩) bs.length cap) bs ⟨pos, 0, ea⟩) (hb : bs.length ≤ 4294967296)
    (hc : bs[pos]? = some c) (hk1 : 192 ≤ c.toNat) (hk2 : c.toNat ≤ 199) (hc2 : pos + 1 + (c.toNat - 191) ≤ bs.length) :
    Calls Try.prog 39 #[.pointer (some ⟨r, 0, none⟩)] w (NumPost w r q (.slice (some ⟨b, off, none⟩) bs.length cap) bs (rdNum bs ⟨pos, 0, ea⟩)) := by
  have c0 := h.hr.at 0 rfl
  have c1 := h.hr.at 1 rfl
  have c2 := h.hr.at 2 rfl
  have d0 := h.hq.at 0 rfl
  obtain ⟨_, _, hvv, hcap1, hcap2⟩ := Sl.form h.own.rd
  cases hvv
  have hpos : pos < bs.length := by omega
  have hf : ((0 : Int) != 0) = false := rfl
  obtain ⟨b', off', hbo, hcell⟩ := Sl.get (i := pos) (u := byteV c) h.own.rd (by simp [bytesV, hc])
  cases hbo
  unfold byteV at hcell
  have hc256 := c.toNat_lt
  have hrd : rdNum bs ⟨pos, 0, ea⟩ = rdNumC bs ⟨pos, 0, ea⟩ c.toNat := by simp only [rdNum, hc, if_true]
  have HR := Lib.hid hrd
  have HC := Lib.hid hc
  clear hrd hc
  have hp0 : (0 : Int) ≤ pos := by omega
  have hp1 : (pos : Int) < bs.length := by omega
  have H := Lib.hid h
  clear h
  have hk3 : (pos : Int) + 1 + ((c.toNat : Int) - 191) ≤ bs.length := by omega
  have hz : (((c.toNat : Int) - 191) == 0) = false := by simp; omega
  unfold maxLen at hcap2
  have t1 : decide (bs.length ≤ pos) = false := by simp; omega
  have t2 : decide (199 < (c.toNat : Int)) = false := by simp; omega
  have t3 : decide ((bs.length : Int) - pos - 1 < (c.toNat : Int) - 191) = false := by simp; omega
  have hK : c.toNat - 191 ≤ 8 := by omega
  have hK1 : 1 ≤ c.toNat - 191 := by omega
  have hsz : pos + 1 + (c.toNat - 191) ≤ bs.length := by omega
  go_enter Try.func39, Try.ntmps39
  go_wp2_with (go_at_call 54; refine (rnone_any r q 0 _ c0 d0).mono ?_; rintro e w' ⟨rfl, rfl⟩)
  go_quiet (fail)
  go_wp2_with fail
  go_quiet (fail)
  go_wp2_with fail
  go_quiet (fail)
  go_wp2_with fail
  go_quiet (fail)
  go_wp2_with fail
  go_loop [5, 7, 107] (fun n _ i => ∃ m : Nat, m ≤ c.toNat - 191 ∧ i = .int .i64 m ∧ n = .int .u64 (beVal ((bs.drop (pos + 1)).take m))) (fun _ _ i => (8 - intOf i).toNat)
  case atStart => exact ⟨0, by omega, rfl, rfl⟩
  case round =>
    obtain ⟨m, hm, rfl, rfl⟩ := hrel
    by_cases hlt : m < c.toNat - 191
    · obtain ⟨x, hx⟩ := some_at bs (by omega : pos + 1 + m < bs.length)
      obtain ⟨b', off', hbo, hcx⟩ := Sl.get (i := pos + 1 + m) (u := byteV x) H.out.own.rd (by simp [bytesV, hx])
      cases hbo
      rw [← Nat.add_assoc] at hcx
      unfold byteV at hcx
      have hx256 := x.toNat_lt
      have HX := Lib.hid hx
      clear hx
      have hbv := be_or (beVal ((bs.drop (pos + 1)).take m)) x.toNat (beVal_bd _ (by omega)) hx256
      have HB : Hid (beVal ((bs.drop (pos + 1)).take (m + 1)) = beVal ((bs.drop (pos + 1)).take m) * 256 + x.toNat) := beVal_take _ (by rw [List.getElem?_drop]; exact HX.out)
      go_wp2_with fail
      refine ⟨⟨_, _, _, ⟨m + 1, by omega, by go_num, rfl⟩, ?_, rfl, by go_num⟩, by simp [intOf]; omega⟩
      rw [HB.out]
      go_num
    · have hme : m = c.toNat - 191 := by omega
      generalize hX : beVal (List.take m (List.drop (pos + 1) bs)) = X
      have HX := Lib.hid hX
      clear hX
      by_cases hbig : 9223372036854775808 ≤ X
      · have hB : decide ((X : Int) ≥ 9223372036854775808) = true := by simp; omega
        have HB := Lib.hid hB
        have HF : Hid (rdNum bs ⟨pos, 0, ea⟩ = (0, ⟨pos, 5, pos⟩)) := by
          rw [HR.out, rdNumC_many bs pos ea c.toNat (by omega) (by omega) (by omega) X (by rw [← hme]; exact HX.out), if_pos (by omega)]; exact rfl
        clear hB hbig
        go_wp2_with (first | (refine wpList_geq rfl 85 (.tmp 117) (.const (.int .u64 9223372036854775808)) 85 rfl .u64 X 9223372036854775808 rfl rfl true HB.out ?_) | (go_at_call 56; refine (size_any _ _).mono ?_; rintro e w' ⟨rfl, rfl⟩))
        refine region_tail 8 (by kernel_rfl) (by kernel_rfl) ?_; simp only [List.take_succ_cons, List.take_zero, List.drop_succ_cons, List.drop_zero]; (repeat still_step); refine wpStill_nil ?_
        go_wp2_with (go_at_call 55; refine (fails_first q 5 pos 0 ea _ _ (H.out.hq.drewN _) rfl).mono ?_; rintro e w2 ⟨rfl, hq2, hk2⟩)
        go_ret
        rw [HF.out]
        have := rfail (H.out.keptN ((Kept.refl NoS w).drewN _)) hq2 hk2
        exact ⟨rfl, this.1, (((Kept.refl NoS w).drewN _).ofN).trans this.2⟩
      · have hB : decide ((X : Int) ≥ 9223372036854775808) = false := by simp; omega
        have HB := Lib.hid hB
        have hXu : (X : Int) ≤ 9223372036854775807 := by omega
        have hXl : (0 : Int) ≤ X := by omega
        clear hB
        by_cases hsz2 : sizeOfNum X = c.toNat - 191
        · have HF : Hid (rdNum bs ⟨pos, 0, ea⟩ = ((X : Int), (⟨pos + 1 + (c.toNat - 191), 0, ea⟩ : RSt))) := by
            rw [HR.out, rdNumC_many bs pos ea c.toNat (by omega) (by omega) (by omega) X (by rw [← hme]; exact HX.out), if_neg (by omega)]; exact rfl
          have hne : (((sizeOfNum X : Nat) : Int) != (c.toNat : Int) - 191) = false := by simp; omega
          have fr2 := H.out.hr.free 2
          clear hbig hsz2
          go_wp2_with (first | (refine wpList_geq rfl 85 (.tmp 117) (.const (.int .u64 9223372036854775808)) 85 rfl .u64 X 9223372036854775808 rfl rfl false HB.out ?_) | (go_at_call 56; refine (size_any _ _).mono ?_; rintro e w' ⟨rfl, rfl⟩))
          go_ret
          rw [HF.out]
          exact ⟨rfl, (radv (H.out.keptN ((Kept.refl NoS w).drewN _)) (pos + 1 + (c.toNat - 191)) _ (by omega) (by omega)).1, (((Kept.refl NoS w).drewN _).ofN).trans (radv (H.out.keptN ((Kept.refl NoS w).drewN _)) (pos + 1 + (c.toNat - 191)) _ (by omega) (by omega)).2⟩
        · have HF : Hid (rdNum bs ⟨pos, 0, ea⟩ = (0, ⟨pos, 5, pos⟩)) := by
            rw [HR.out, rdNumC_many bs pos ea c.toNat (by omega) (by omega) (by omega) X (by rw [← hme]; exact HX.out), if_pos (by omega)]; exact rfl
          have hne : (((sizeOfNum X : Nat) : Int) != (c.toNat : Int) - 191) = true := by simp; omega
          clear hbig hsz2
          go_wp2_with (first | (refine wpList_geq rfl 85 (.tmp 117) (.const (.int .u64 9223372036854775808)) 85 rfl .u64 X 9223372036854775808 rfl rfl false HB.out ?_) | (go_at_call 56; refine (size_any _ _).mono ?_; rintro e w' ⟨rfl, rfl⟩))
          refine region_tail 8 (by kernel_rfl) (by kernel_rfl) ?_; simp only [List.take_succ_cons, List.take_zero, List.drop_succ_cons, List.drop_zero]; (repeat still_step); refine wpStill_nil ?_
          go_wp2_with (go_at_call 55; refine (fails_first q 5 pos 0 ea _ _ (H.out.hq.drewN _) rfl).mono ?_; rintro e w2 ⟨rfl, hq2, hk2⟩)
          go_ret
          rw [HF.out]
          have := rfail (H.out.keptN ((Kept.refl NoS w).drewN _)) hq2 hk2
          exact ⟨rfl, this.1, (((Kept.refl NoS w).drewN _).ofN).trans this.2⟩
end Go.Proofs.Ytpagolhlbceegaa
