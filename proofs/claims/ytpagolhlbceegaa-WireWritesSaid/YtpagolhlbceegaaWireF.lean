/- The rest of the reader, walked. -/
import Derived.Test.YtpagolhlbceegaaWireD
namespace Go.Proofs.Ytpagolhlbceegaa
open Go.RowKit

def rdMany (bs : List UInt8) (s : RSt) (most : Int) : Int × RSt :=
  if s.err = 0 then (if most < (rdNum bs s).1 then ((rdNum bs s).1, (rdNum bs s).2.fail 4 s.pos) else rdNum bs s) else (0, s)
def rdTake (bs : List UInt8) (s : RSt) (n : Nat) (a : Int) : List UInt8 × RSt :=
  if s.err = 0 then (if bs.length < s.pos + n then ([], { s with err := 6, ea := a }) else ((bs.drop s.pos).take n, { s with pos := s.pos + n })) else ([], s)
def rdPlace (s : RSt) : Int := if s.err = 0 then s.pos else 0
theorem rdNum_err (bs : List UInt8) (s : RSt) (h : s.err ≠ 0) : rdNum bs s = (0, s) := by rw [rdNum, if_neg h]
theorem rdNum_ge (bs : List UInt8) (s : RSt) : 0 ≤ (rdNum bs s).1 ∧ (rdNum bs s).1 ≤ 9223372036854775807 := by
  unfold rdNum
  split
  · split
    · simp
    · rename_i c _
      have := c.toNat_lt
      unfold rdNumC
      split
      · simp
      · split
        · simp
        · split
          · simp only; omega
          · dsimp only
            split
            · simp
            · simp only; omega
  · simp

set_option maxHeartbeats 400000 in
theorem rPlace_any (r q : Nat) (v : Value) (bs : List UInt8) (s : RSt) (w : World) (h : RdAt w r q v bs s) : Calls Try.prog 57 #[.pointer (some ⟨r, 0, none⟩)] w fun e w' => e = .returned (.int .i64 (rdPlace s)) ∧ w = w' := by
  have c0 := h.hr.at 0 rfl
  have c2 := h.hr.at 2 rfl
  have d0 := h.hq.at 0 rfl
  by_cases he : s.err = 0
  · have HF : Hid (rdPlace s = s.pos) := by unfold rdPlace; rw [if_pos he]; exact rfl
    have he1 : (s.err != 0) = false := by simp [he]
    clear he
    go_enter Try.func57, Try.ntmps57
    go_wp2_with (go_at_call 54; refine (rnone_any r q s.err _ c0 d0).mono ?_; rintro e w' ⟨rfl, rfl⟩)
    go_ret
    exact ⟨ret_int HF.out.symm, rfl⟩
  · have HF : Hid (rdPlace s = 0) := by unfold rdPlace; rw [if_neg he]; exact rfl
    have he1 : (s.err != 0) = true := by simp [he]
    clear he
    go_enter Try.func57, Try.ntmps57
    go_wp2_with (go_at_call 54; refine (rnone_any r q s.err _ c0 d0).mono ?_; rintro e w' ⟨rfl, rfl⟩)
    go_ret
    exact ⟨ret_int HF.out.symm, rfl⟩

/-- fails, whatever there was. -/
theorem fails_any (r q : Nat) (v : Value) (bs : List UInt8) (s : RSt) (e a : Int) (w : World) (h : RdAt w r q v bs s) :
    Calls Try.prog 55 #[.pointer (some ⟨q, 0, none⟩), .int .i64 e, .int .i64 a] w fun x w' => x = .returned (.tuple #[]) ∧ RdAt w' r q v bs (s.fail e a) ∧ Kept (RdS r q) w w' := by
  by_cases he : s.err = 0
  · refine (fails_first q e a s.err s.ea _ w h.hq he).mono ?_
    rintro x w' ⟨rfl, hq, hk⟩
    have := rfail h hq hk
    refine ⟨rfl, ?_, this.2⟩
    unfold RSt.fail
    rw [if_pos he]
    exact this.1
  · refine (fails_later q e a s.err w (h.hq.at 0 rfl) (by simpa using he)).mono ?_
    rintro x w' ⟨rfl, rfl⟩
    refine ⟨rfl, ?_, Kept.refl _ _⟩
    unfold RSt.fail
    rw [if_neg he]
    exact h

set_option maxHeartbeats 400000 in
theorem rMany_any (r q : Nat) (v : Value) (bs : List UInt8) (s : RSt) (most : Int) (w : World) (h : RdAt w r q v bs s) (hb : bs.length ≤ 4294967296) : Calls Try.prog 59 #[.pointer (some ⟨r, 0, none⟩), .int .i64 most] w (NumPost w r q v bs (rdMany bs s most)) := by
  have c0 := h.hr.at 0 rfl
  have c2 := h.hr.at 2 rfl
  have d0 := h.hq.at 0 rfl
  have H := Lib.hid h
  clear h
  by_cases he : s.err = 0
  · have he1 : (s.err != 0) = false := by simp [he]
    have hge := rdNum_ge bs s
    by_cases hm : most < (rdNum bs s).1
    · have HF : Hid (rdMany bs s most = ((rdNum bs s).1, (rdNum bs s).2.fail 4 s.pos)) := by unfold rdMany; rw [if_pos he, if_pos hm]; exact rfl
      have HN := Lib.hid (rNum_any r q v bs s w H.out hb)
      clear he
      generalize hX : rdNum bs s = X at *
      clear hX
      go_enter Try.func59, Try.ntmps59
      go_wp2_with (first | (go_at_call 54; refine (rnone_any r q s.err _ c0 d0).mono ?_; rintro e w' ⟨rfl, rfl⟩) | (go_at_call 39; refine HN.out.mono ?_; rintro e w1 ⟨rfl, h1, hk1⟩; have e0 := h1.hr.at 0 rfl) | (go_at_call 55; refine (fails_any r q v bs _ 4 s.pos _ h1).mono ?_; rintro e w2 ⟨rfl, h2, hk2⟩))
      go_ret
      rw [HF.out]
      exact ⟨rfl, h2, hk1.trans hk2⟩
    · have HF : Hid (rdMany bs s most = rdNum bs s) := by unfold rdMany; rw [if_pos he, if_neg hm]; exact rfl
      have HN := Lib.hid (rNum_any r q v bs s w H.out hb)
      clear he
      generalize hX : rdNum bs s = X at *
      clear hX
      go_enter Try.func59, Try.ntmps59
      go_wp2_with (first | (go_at_call 54; refine (rnone_any r q s.err _ c0 d0).mono ?_; rintro e w' ⟨rfl, rfl⟩) | (go_at_call 39; refine HN.out.mono ?_; rintro e w1 ⟨rfl, h1, hk1⟩; have e0 := h1.hr.at 0 rfl))
      go_ret
      rw [HF.out]
      exact ⟨rfl, h1, hk1⟩
  · have HF : Hid (rdMany bs s most = (0, s)) := by unfold rdMany; rw [if_neg he]; exact rfl
    have he1 : (s.err != 0) = true := by simp [he]
    clear he
    go_enter Try.func59, Try.ntmps59
    go_wp2_with (go_at_call 54; refine (rnone_any r q s.err _ c0 d0).mono ?_; rintro e w' ⟨rfl, rfl⟩)
    go_ret
    rw [HF.out]
    exact ⟨rfl, H.out, Kept.refl _ _⟩

/-- A piece of a slice that is read. -/
theorem RdB.piece {w : World} {ao : Option Addr} {cap : Nat} {bs : List UInt8} (h : RdB w (.slice ao bs.length cap) bs) (p n : Nat) (hp : p + n ≤ bs.length) (A : Option Addr) (hA : (if cap = p then ao else Option.map (fun x => x.add p) ao) = A) :
    RdB w (.slice A n (cap - p)) ((bs.drop p).take n) := by
  have hlen : ((bs.drop p).take n).length = n := by rw [List.length_take, List.length_drop]; omega
  unfold RdB
  rw [hlen]
  obtain ⟨_, _, hvv, hc1, hc2⟩ := Sl.form h
  cases hvv
  cases ao with
  | none =>
    have hb0 : bs = [] ∧ cap = 0 := by
      rcases h with ⟨⟨a, h1⟩, h2, _⟩ | ⟨b, off, c, h1, _⟩
      · exact ⟨List.eq_nil_of_length_eq_zero h2, by simp at h1; exact h1.2.2⟩
      · cases h1
    obtain ⟨rfl, rfl⟩ := hb0
    simp at hp
    obtain ⟨rfl, rfl⟩ := hp
    simp at hA
    subst hA
    exact .inl ⟨⟨_, rfl⟩, rfl, rfl⟩
  | some a =>
    rcases h with ⟨⟨a', h1⟩, h2, _⟩ | ⟨b, off, c, h1, h2, h3, h4⟩
    · have hb0 := List.eq_nil_of_length_eq_zero h2
      subst hb0
      simp at hp
      obtain ⟨rfl, rfl⟩ := hp
      simp at h1
      obtain ⟨rfl, rfl⟩ := h1
      simp at hA
      subst hA
      exact .inl ⟨⟨_, rfl⟩, rfl, rfl⟩
    · cases h1
      have hcell : ∀ i u, (bytesV ((bs.drop p).take n))[i]? = some u → w.cell? ⟨b, off + p + i, none⟩ = some u := by
        intro i u hu
        have hi : i < n := by
          have := (List.getElem?_eq_some_iff.1 hu).1
          rw [bytesV_length, hlen] at this
          exact this
        rw [Nat.add_assoc]
        refine h4 (p + i) u ?_
        unfold bytesV at hu ⊢
        rw [List.getElem?_map] at hu ⊢
        rw [List.getElem?_take_of_lt hi, List.getElem?_drop] at hu
        exact hu
      by_cases hcp : cap = p
      · rw [if_pos hcp] at hA
        subst hA
        have hn : n = 0 := by omega
        subst hn
        exact .inr ⟨b, off, _, rfl, by omega, by omega, fun i u hu => by simp [bytesV] at hu⟩
      · rw [if_neg hcp] at hA
        simp only [Option.map_some, Addr.add_none] at hA
        subst hA
        exact .inr ⟨b, off + p, _, rfl, by omega, by omega, hcell⟩

theorem OwnB.shape {w : World} {v : Value} {bs : List UInt8} (h : OwnB w v bs) : ∃ a n cap, v = .slice a n cap :=
  let ⟨a, cap, e⟩ := h.rd.form
  ⟨a, _, cap, e⟩
def TakePost (w : World) (r q : Nat) (v : Value) (bs : List UInt8) (x : List UInt8 × RSt) (e : Ending) (w' : World) : Prop :=
  ∃ v', e = .returned v' ∧ OwnB w' v' x.1 ∧ RdAt w' r q v bs x.2 ∧ Kept (RdS r q) w w' ∧ (∀ k, v'.ownBlock = some k → w.heap.size ≤ k)
set_option maxHeartbeats 400000 in
theorem rTake_any (r q : Nat) (v : Value) (bs : List UInt8) (s : RSt) (n a : Int) (w : World) (h : RdAt w r q v bs s) (hb : bs.length ≤ 4294967296) (hn : 0 ≤ n) (hn2 : n ≤ 9223372036854775807) : Calls Try.prog 58 #[.pointer (some ⟨r, 0, none⟩), .int .i64 n, .int .i64 a] w (TakePost w r q v bs (rdTake bs s n.toNat a)) := by
  obtain ⟨n, rfl⟩ := Int.eq_ofNat_of_zero_le hn
  rw [Int.toNat_natCast]
  obtain ⟨ao, cap, hv, hcap1, hcap2⟩ := Sl.form h.own.rd
  subst hv
  unfold maxLen at hcap2
  have c0 := h.hr.at 0 rfl
  have c1 := h.hr.at 1 rfl
  have c2 := h.hr.at 2 rfl
  have d0 := h.hq.at 0 rfl
  have hle := h.le
  have H := Lib.hid h
  clear h
  by_cases he : s.err = 0
  · have he1 : (s.err != 0) = false := by simp [he]
    by_cases hl : bs.length < s.pos + n
    · have HF : Hid (rdTake bs s n a = ([], { s with err := 6, ea := a })) := by unfold rdTake; rw [if_pos he, if_pos hl]; exact rfl
      have HE := Lib.hid he
      have hl2 : decide ((bs.length : Int) - s.pos < n) = true := by simp; omega
      clear he
      go_enter Try.func58, Try.ntmps58
      go_wp2_with (go_at_call 54; refine (rnone_any r q s.err _ c0 d0).mono ?_; rintro e w' ⟨rfl, rfl⟩)
      go_quiet (fail)
      go_wp2_with (go_at_call 55; refine (fails_first q 6 a s.err s.ea _ _ (H.out.hq.drewN _) HE.out).mono ?_; rintro e w2 ⟨rfl, hq2, hk2⟩)
      go_ret
      rw [HF.out]
      have hr2 := rfail (H.out.keptN ((Kept.refl NoS w).drewN _)) hq2 hk2
      exact ⟨_, rfl, OwnB.nil _, hr2.1, (((Kept.refl NoS w).drewN _).ofN).trans hr2.2, by simp [Value.ownBlock]⟩
    · have HF : Hid (rdTake bs s n a = ((bs.drop s.pos).take n, { s with pos := s.pos + n })) := by unfold rdTake; rw [if_pos he, if_neg hl]; exact rfl
      have hl2 : decide ((bs.length : Int) - s.pos < n) = false := by simp; omega
      have hp1 : s.pos + n ≤ bs.length := by omega
      have hp2 : s.pos + n ≤ cap := by omega
      have hw1 : IntKind.i64.wrap ((s.pos : Int) + n) = (s.pos : Int) + n := IntWalk.i64_in _ (by omega)
      have hw2 : (0 : Int) ≤ (s.pos : Int) + n := by omega
      have hw3 : ((s.pos : Int) + n).toNat = s.pos + n := by omega
      have hw4 : s.pos + n - s.pos = n := by omega
      have hw5 : (s.pos : Int) + n ≤ cap := by omega
      obtain ⟨A, hA⟩ : ∃ A, (if cap = s.pos then ao else Option.map (fun x => x.add s.pos) ao) = A := ⟨_, rfl⟩
      have hpc := Lib.hid (H.out.own.rd.piece s.pos n hp1 A hA)
      clear he
      go_enter Try.func58, Try.ntmps58
      go_wp2_with (go_at_call 54; refine (rnone_any r q s.err _ c0 d0).mono ?_; rintro e w' ⟨rfl, rfl⟩)
      go_quiet (fail)
      go_wp2_with fail
      refine region_tail 15 (by kernel_rfl) (by kernel_rfl) ?_; simp only [List.take_succ_cons, List.take_zero, List.drop_succ_cons, List.drop_zero]; (repeat still_step); refine wpStill_nil ?_
      go_wp2_with fail
      refine (clone_any _ _ _ (hpc.out.keptN ((Kept.refl NoS w).drewN _)) (by rw [List.length_take, List.length_drop]; omega)).mono ?_
      rintro e w1 ⟨v1, rfl, ho1, hk1, hn1⟩
      have h1 := (H.out.keptN ((Kept.refl NoS w).drewN (nq + 1))).keptN hk1
      have e2 := h1.hr.at 2 rfl
      have g2 := h1.hr.free 2
      have hnew : ∀ k, v1.ownBlock = some k → k ≠ r := fun k hk e => by
        have := hn1 k hk
        have := H.out.hr.lt
        simp at *
        omega
      obtain ⟨a1, n1, cap1, rfl⟩ := ho1.shape
      go_wp2_with fail
      go_ret
      rw [HF.out]
      exact ⟨_, rfl, ho1.kept (Kept.setOne _ r 2 _) fun k hk e => hnew k hk e, (radv h1 (s.pos + n) _ (by simp) hp1).1,
        (Kept.trans ((((Kept.refl NoS w).drewN (nq + 1)).trans hk1).ofN) (radv h1 (s.pos + n) _ (by simp) hp1).2), fun k hk => by have := hn1 k hk; simpa using this⟩
  · have HF : Hid (rdTake bs s n a = ([], s)) := by unfold rdTake; rw [if_neg he]; exact rfl
    have he1 : (s.err != 0) = true := by simp [he]
    clear he
    go_enter Try.func58, Try.ntmps58
    go_wp2_with (go_at_call 54; refine (rnone_any r q s.err _ c0 d0).mono ?_; rintro e w' ⟨rfl, rfl⟩)
    go_ret
    rw [HF.out]
    exact ⟨_, rfl, OwnB.nil _, H.out, Kept.refl _ _, by simp [Value.ownBlock]⟩
end Go.Proofs.Ytpagolhlbceegaa
