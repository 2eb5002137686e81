/- What is read without a fault stands there as it is written: plain laws. -/
import Derived.Test.YtpagolhlbceegaaBackL
namespace Go.Proofs.Ytpagolhlbceegaa

/-- A reader's place, and the place of its fault, lie in the bytes. -/
def Good (bs : List UInt8) (s : RSt) : Prop := s.pos ≤ bs.length ∧ (s.err ≠ 0 → 0 ≤ s.ea ∧ s.ea ≤ bs.length)
theorem Good.fail {bs : List UInt8} {s : RSt} (h : Good bs s) (e a : Int) (h0 : 0 ≤ a) (h1 : a ≤ bs.length) : Good bs (s.fail e a) := by
  unfold RSt.fail
  split
  · exact ⟨h.1, fun _ => ⟨h0, h1⟩⟩
  · exact h
theorem rdPlace_ok {bs : List UInt8} {s : RSt} (h : Good bs s) : 0 ≤ rdPlace s ∧ rdPlace s ≤ bs.length := by
  unfold rdPlace
  have := h.1
  split <;> omega
theorem Good.num {bs : List UInt8} {s : RSt} (h : Good bs s) : Good bs (rdNum bs s).2 := by
  have h1 := h.1
  unfold rdNum
  split
  · split
    · exact ⟨h1, fun _ => by simp; omega⟩
    · unfold rdNumC
      split
      · exact ⟨h1, fun _ => by simp; omega⟩
      split
      · exact ⟨h1, fun _ => by simp; omega⟩
      split
      · exact ⟨by simp; omega, fun e => absurd ‹s.err = 0› e⟩
      · simp only []
        split
        · exact ⟨h1, fun _ => by simp; omega⟩
        · exact ⟨by simp; omega, fun e => absurd ‹s.err = 0› e⟩
  · exact h
theorem Good.take {bs : List UInt8} {s : RSt} (h : Good bs s) (n : Nat) (a : Int) (h0 : 0 ≤ a) (h1 : a ≤ bs.length) : Good bs (rdTake bs s n a).2 := by
  have h2 := h.1
  unfold rdTake
  split
  · split
    · exact ⟨h2, fun _ => ⟨h0, h1⟩⟩
    · rename_i hs _
      exact ⟨by simp; omega, fun e => absurd hs e⟩
  · exact h
theorem Good.many {bs : List UInt8} {s : RSt} (h : Good bs s) (most : Int) : Good bs (rdMany bs s most).2 := by
  have h1 := h.1
  unfold rdMany
  split
  · split
    · exact h.num.fail _ _ (by omega) (by omega)
    · exact h.num
  · exact h
theorem Good.bytes {bs : List UInt8} {s : RSt} (h : Good bs s) (most : Int) : Good bs (rdBytes bs s most).2 :=
  (h.many most).take _ _ (rdPlace_ok h).1 (rdPlace_ok h).2
theorem Good.id {bs : List UInt8} {s : RSt} (h : Good bs s) : Good bs (rdID bs s).2 := h.take _ _ (rdPlace_ok h).1 (rdPlace_ok h).2
theorem Good.dot {bs : List UInt8} {s : RSt} (h : Good bs s) : Good bs (rdDot bs s).2 := by
  have hd : (rdDot bs s).2 = (rdNum bs (rdNum bs s).2).2 := by unfold rdDot; split <;> rfl
  rw [hd]
  exact h.num.num
theorem Good.vecGo {bs : List UInt8} : ∀ (k : Nat) {s : RSt} (acc : List Int), Good bs s → Good bs (rdVecGo bs k s acc).2
  | 0, s, acc, h => by
    show Good bs (if s.err = 0 then (acc, s) else ([], s)).2
    split <;> exact h
  | k + 1, s, acc, h => by
    show Good bs (if s.err = 0 then rdVecGo bs k (rdNum bs s).2 (acc ++ [(rdNum bs s).1]) else ([], s)).2
    split
    · exact Good.vecGo k _ h.num
    · exact h
theorem Good.vec {bs : List UInt8} {s : RSt} (h : Good bs s) (most : Int) : Good bs (rdVec bs s most).2 := Good.vecGo _ _ (h.many most)
theorem Good.bool {bs : List UInt8} {s : RSt} (h : Good bs s) : Good bs (rdBool bs s).2 := by
  unfold rdBool
  simp only []
  split
  · exact h.num.fail _ _ (rdPlace_ok h).1 (rdPlace_ok h).2
  · exact h.num

theorem sizeOfNum_small {n : Int} (h : n < 192) : sizeOfNum n = 0 := by
  unfold sizeOfNum
  rw [if_pos h]
theorem rdNum_ok {bs : List UInt8} {s : RSt} (hs : s.err = 0) (h : (rdNum bs s).2.err = 0) :
    Has bs s.pos (encNum (rdNum bs s).1) ∧ (rdNum bs s).2 = { s with pos := s.pos + (encNum (rdNum bs s).1).length } := by
  unfold rdNum at h ⊢
  rw [if_pos hs] at h ⊢
  cases hc : bs[s.pos]? with
  | none => rw [hc] at h; cases h
  | some c =>
    rw [hc] at h
    have hlt := (List.getElem?_eq_some_iff.1 hc)
    obtain ⟨hl, he⟩ := hlt
    have hd : bs.drop s.pos = c :: bs.drop (s.pos + 1) := by rw [List.drop_eq_getElem_cons hl, he]
    have hcl := c.toNat_lt
    show Has bs s.pos (encNum (rdNumC bs s c.toNat).1) ∧ (rdNumC bs s c.toNat).2 = { s with pos := s.pos + (encNum (rdNumC bs s c.toNat).1).length }
    have h' : (rdNumC bs s c.toNat).2.err = 0 := h
    clear h
    unfold rdNumC at h' ⊢
    by_cases h1 : 199 < c.toNat
    · rw [if_pos h1] at h'
      cases h'
    rw [if_neg h1] at h' ⊢
    by_cases h2 : bs.length < s.pos + 1 + (c.toNat - 191)
    · rw [if_pos h2] at h'
      cases h'
    rw [if_neg h2] at h' ⊢
    by_cases h3 : c.toNat < 192
    · rw [if_pos h3] at h' ⊢
      have e1 : encNum (c.toNat : Int) = [c] := by
        unfold encNum
        rw [if_pos (sizeOfNum_small (by omega))]
        have := ofInt_toNat (c.toNat : Int)
        congr 1
        apply UInt8.toNat_inj.1
        omega
      simp only [e1]
      exact ⟨⟨_, hd, by omega⟩, rfl⟩
    rw [if_neg h3] at h' ⊢
    simp only [] at h' ⊢
    have hlen : ((bs.drop (s.pos + 1)).take (c.toNat - 191)).length = c.toNat - 191 := by rw [List.length_take, List.length_drop]; omega
    have hsplit : bs.drop (s.pos + 1) = (bs.drop (s.pos + 1)).take (c.toNat - 191) ++ (bs.drop (s.pos + 1)).drop (c.toNat - 191) := (List.take_append_drop _ _).symm
    have hnb := numBytes_beVal ((bs.drop (s.pos + 1)).take (c.toNat - 191))
    rw [hlen] at hnb
    generalize (bs.drop (s.pos + 1)).take (c.toNat - 191) = l at *
    by_cases h4 : 9223372036854775808 ≤ beVal l ∨ sizeOfNum (beVal l) ≠ c.toNat - 191
    · rw [if_pos h4] at h'
      cases h'
    rw [if_neg h4] at h' ⊢
    have h5 : sizeOfNum (beVal l) = c.toNat - 191 := by
      apply Classical.byContradiction
      intro hne
      exact h4 (.inr hne)
    have e1 : encNum (beVal l : Int) = c :: l := by
      unfold encNum
      have hc1 : UInt8.ofInt (191 + ((c.toNat - 191 : Nat) : Int)) = c := by
        apply UInt8.toNat_inj.1
        have := ofInt_toNat (191 + ((c.toNat - 191 : Nat) : Int))
        omega
      rw [if_neg (by omega), h5, hnb, hc1]
    simp only [e1]
    refine ⟨⟨(bs.drop (s.pos + 1)).drop (c.toNat - 191), ?_, by omega⟩, ?_⟩
    · rw [hd]
      exact congrArg (c :: ·) hsplit
    · simp [hlen]
      omega
theorem rdTake_ok {bs : List UInt8} {s : RSt} (n : Nat) (a : Int) (hs : s.err = 0) (hg : Good bs s) (h : (rdTake bs s n a).2.err = 0) :
    Has bs s.pos (rdTake bs s n a).1 ∧ (rdTake bs s n a).1.length = n ∧ (rdTake bs s n a).2 = { s with pos := s.pos + n } := by
  have h1 := hg.1
  unfold rdTake at h ⊢
  rw [if_pos hs] at h ⊢
  split at h
  · cases h
  · rename_i hn
    rw [if_neg hn]
    refine ⟨⟨(bs.drop s.pos).drop n, (List.take_append_drop _ _).symm, h1⟩, ?_, rfl⟩
    rw [List.length_take, List.length_drop]
    omega
theorem rdMany_ok {bs : List UInt8} {s : RSt} (most : Int) (hs : s.err = 0) (h : (rdMany bs s most).2.err = 0) :
    Has bs s.pos (encNum (rdMany bs s most).1) ∧ (rdMany bs s most).2 = { s with pos := s.pos + (encNum (rdMany bs s most).1).length } ∧ (rdMany bs s most).1 ≤ most := by
  unfold rdMany at h ⊢
  rw [if_pos hs] at h ⊢
  by_cases hm : most < (rdNum bs s).1
  · rw [if_pos hm] at h
    exfalso
    unfold RSt.fail at h
    split at h
    · cases h
    · rename_i hne
      exact hne h
  · rw [if_neg hm] at h ⊢
    exact ⟨(rdNum_ok hs h).1, (rdNum_ok hs h).2, by omega⟩
theorem Has.join {bs : List UInt8} {pos : Nat} {a b : List UInt8} (h : Has bs pos a) (h2 : Has bs (pos + a.length) b) : Has bs pos (a ++ b) := by
  obtain ⟨x, h1, h0⟩ := h
  obtain ⟨y, h3, _⟩ := h2
  refine ⟨y, ?_, h0⟩
  rw [← List.drop_drop, h1, List.drop_left] at h3
  rw [h1, h3, List.append_assoc]
theorem rdBytes_ok {bs : List UInt8} {s : RSt} (hs : s.err = 0) (hg : Good bs s) (h : (rdBytes bs s 200).2.err = 0) :
    Has bs s.pos (encNum (rdBytes bs s 200).1.length ++ (rdBytes bs s 200).1) ∧ (rdBytes bs s 200).2 = { s with pos := s.pos + (encNum (rdBytes bs s 200).1.length ++ (rdBytes bs s 200).1).length } ∧ (rdBytes bs s 200).1.length ≤ 200 := by
  have hm : (rdMany bs s 200).2.err = 0 := by
    apply Classical.byContradiction
    intro hne
    unfold rdBytes at h
    rw [rdTake_err _ _ _ _ hne] at h
    exact hne h
  obtain ⟨h1, h2, h3⟩ := rdMany_ok 200 hs hm
  have hge := rdMany_ge bs s 200
  obtain ⟨t1, t2, t3⟩ := rdTake_ok _ _ hm (hg.many 200) h
  have hlen : ((rdBytes bs s 200).1.length : Int) = (rdMany bs s 200).1 := by
    have : (rdBytes bs s 200).1.length = (rdMany bs s 200).1.toNat := t2
    omega
  rw [hlen]
  have t1' : Has bs (rdMany bs s 200).2.pos (rdBytes bs s 200).1 := t1
  have t3' : (rdBytes bs s 200).2 = { (rdMany bs s 200).2 with pos := (rdMany bs s 200).2.pos + (rdMany bs s 200).1.toNat } := t3
  rw [h2] at t1' t3'
  refine ⟨h1.join t1', ?_, by omega⟩
  rw [t3', List.length_append]
  have : (rdBytes bs s 200).1.length = (rdMany bs s 200).1.toNat := t2
  rw [this]
  simp [Nat.add_assoc]
theorem rdID_ok {bs : List UInt8} {s : RSt} (hs : s.err = 0) (hg : Good bs s) (h : (rdID bs s).2.err = 0) :
    Has bs s.pos (rdID bs s).1 ∧ (rdID bs s).2 = { s with pos := s.pos + (rdID bs s).1.length } := by
  obtain ⟨t1, t2, t3⟩ := rdTake_ok 32 (rdPlace s) hs hg h
  unfold rdID
  rw [if_pos t2]
  exact ⟨t1, by rw [t2]; exact t3⟩
theorem rdDot_ok {bs : List UInt8} {s : RSt} (hs : s.err = 0) (h : (rdDot bs s).2.err = 0) :
    Has bs s.pos (encNum (rdDot bs s).1.1 ++ encNum (rdDot bs s).1.2) ∧ (rdDot bs s).2 = { s with pos := s.pos + (encNum (rdDot bs s).1.1 ++ encNum (rdDot bs s).1.2).length } ∧ I64 (rdDot bs s).1.1 ∧ I64 (rdDot bs s).1.2 ∧ 0 ≤ (rdDot bs s).1.1 ∧ 0 ≤ (rdDot bs s).1.2 := by
  have hd : (rdDot bs s).2 = (rdNum bs (rdNum bs s).2).2 := by unfold rdDot; split <;> rfl
  rw [hd] at h
  have h0 : (rdNum bs s).2.err = 0 := by
    apply Classical.byContradiction
    intro hne
    rw [rdNum_err _ _ hne] at h
    exact hne h
  obtain ⟨a1, a2⟩ := rdNum_ok hs h0
  obtain ⟨b1, b2⟩ := rdNum_ok h0 h
  have e1 := rdNum_ge bs s
  have e2 := rdNum_ge bs (rdNum bs s).2
  have hD : rdDot bs s = (((rdNum bs s).1, (rdNum bs (rdNum bs s).2).1), (rdNum bs (rdNum bs s).2).2) := by unfold rdDot; rw [if_pos h]
  rw [hD]
  simp only []
  clear hD hd
  generalize rdNum bs s = R at *
  obtain ⟨n, S⟩ := R
  simp only at a2 a1 b1 b2 e1 e2 h h0 ⊢
  subst a2
  refine ⟨a1.join b1, ?_, ⟨by omega, by omega⟩, ⟨by omega, by omega⟩, e1.1, e2.1⟩
  rw [b2]
  simp only [List.length_append, Nat.add_assoc]
theorem rdVecGo_ok {bs : List UInt8} : ∀ (k : Nat) (s : RSt) (acc : List Int), s.err = 0 → (rdVecGo bs k s acc).2.err = 0 → s.pos ≤ bs.length →
    ∃ xs : List Int, xs.length = k ∧ (rdVecGo bs k s acc) = (acc ++ xs, { s with pos := s.pos + (encNums xs).length }) ∧ Has bs s.pos (encNums xs) ∧ ∀ x ∈ xs, 0 ≤ x ∧ x ≤ 9223372036854775807
  | 0, s, acc, hs, h, hp => by
    have e : rdVecGo bs 0 s acc = if s.err = 0 then (acc, s) else ([], s) := rfl
    rw [e, if_pos hs]
    exact ⟨[], rfl, by simp [encNums], ⟨bs.drop s.pos, by simp [encNums], hp⟩, by simp⟩
  | k + 1, s, acc, hs, h, hp => by
    have e : rdVecGo bs (k + 1) s acc = if s.err = 0 then rdVecGo bs k (rdNum bs s).2 (acc ++ [(rdNum bs s).1]) else ([], s) := rfl
    rw [e, if_pos hs] at h ⊢
    have h0 : (rdNum bs s).2.err = 0 := by
      apply Classical.byContradiction
      intro hne
      rw [rdVecGo_err _ _ _ _ hne] at h
      exact hne h
    obtain ⟨a1, a2⟩ := rdNum_ok hs h0
    have hge := rdNum_ge bs s
    have hp1 : (rdNum bs s).2.pos = s.pos + (encNum (rdNum bs s).1).length := by rw [a2]
    have hle := a1.le
    obtain ⟨xs, h1, h2, h3, h4⟩ := rdVecGo_ok k (rdNum bs s).2 (acc ++ [(rdNum bs s).1]) h0 h (by omega)
    refine ⟨(rdNum bs s).1 :: xs, by simp [h1], ?_, ?_, ?_⟩
    · rw [h2]
      have he : encNums ((rdNum bs s).1 :: xs) = encNum (rdNum bs s).1 ++ encNums xs := rfl
      rw [he, List.append_assoc, List.length_append, hp1, Nat.add_assoc]
      conv => lhs; rw [a2]
      rfl
    · rw [hp1] at h3
      exact a1.join h3
    · intro x hx
      rcases List.mem_cons.1 hx with rfl | hx
      · exact hge
      · exact h4 x hx
theorem rdVec_ok {bs : List UInt8} {s : RSt} (hs : s.err = 0) (hg : Good bs s) (h : (rdVec bs s 200).2.err = 0) :
    Has bs s.pos (encNum (rdVec bs s 200).1.length ++ encNums (rdVec bs s 200).1) ∧ (rdVec bs s 200).2 = { s with pos := s.pos + (encNum (rdVec bs s 200).1.length ++ encNums (rdVec bs s 200).1).length } ∧ (rdVec bs s 200).1.length ≤ 200 ∧ ∀ x ∈ (rdVec bs s 200).1, 0 ≤ x ∧ x ≤ 9223372036854775807 := by
  have hm : (rdMany bs s 200).2.err = 0 := by
    apply Classical.byContradiction
    intro hne
    unfold rdVec at h
    rw [rdVecGo_err _ _ _ _ hne] at h
    exact hne h
  obtain ⟨h1, h2, h3⟩ := rdMany_ok 200 hs hm
  have hge := rdMany_ge bs s 200
  obtain ⟨xs, x1, x2, x3, x4⟩ := rdVecGo_ok _ _ _ hm h (hg.many 200).1
  have hV : rdVec bs s 200 = ([] ++ xs, { (rdMany bs s 200).2 with pos := (rdMany bs s 200).2.pos + (encNums xs).length }) := x2
  rw [hV]
  simp only [List.nil_append]
  have hlen : (xs.length : Int) = (rdMany bs s 200).1 := by omega
  rw [hlen]
  rw [show (rdMany bs s 200).2.pos = s.pos + (encNum (rdMany bs s 200).1).length by rw [h2]] at x3 ⊢
  refine ⟨h1.join x3, ?_, by omega, x4⟩
  rw [List.length_append, Nat.add_assoc]
  conv => lhs; rw [h2]
theorem rdBool_ok {bs : List UInt8} {s : RSt} (hs : s.err = 0) (h : (rdBool bs s).2.err = 0) :
    Has bs s.pos [boolB (rdBool bs s).1] ∧ (rdBool bs s).2 = { s with pos := s.pos + [boolB (rdBool bs s).1].length } := by
  have hge := rdNum_ge bs s
  by_cases hn : 1 < (rdNum bs s).1
  · exfalso
    unfold rdBool at h
    simp only [] at h
    rw [if_pos hn] at h
    unfold RSt.fail at h
    split at h
    · cases h
    · rename_i hne
      exact hne h
  · have hB : rdBool bs s = ((rdNum bs s).1 == 1, (rdNum bs s).2) := by unfold rdBool; rw [if_neg hn]
    rw [hB] at h ⊢
    obtain ⟨a1, a2⟩ := rdNum_ok hs h
    have he : [boolB ((rdNum bs s).1 == 1)] = encNum (rdNum bs s).1 := by
      rw [boolB_enc]
      rcases (by omega : (rdNum bs s).1 = 0 ∨ (rdNum bs s).1 = 1) with e | e <;> rw [e] <;> rfl
    simp only []
    rw [he]
    exact ⟨a1, a2⟩

/-- What a reader tells of a kind of thing. -/
def rdGet (bs : List UInt8) (s : RSt) (k : Int) : Th × RSt :=
  let z : Th := ⟨k, 0, [], List.replicate 32 0, 0, 0, [], false⟩
  if k = 0 then ({ z with n := (rdNum bs s).1 }, (rdNum bs s).2)
  else if k = 1 ∨ k = 2 then ({ z with b := (rdBytes bs s 200).1 }, (rdBytes bs s 200).2)
  else if k = 3 then ({ z with d := (rdID bs s).1 }, (rdID bs s).2)
  else if k = 4 then ({ z with r := (rdDot bs s).1.1, s := (rdDot bs s).1.2 }, (rdDot bs s).2)
  else if k = 5 then ({ z with v := (rdVec bs s 200).1 }, (rdVec bs s 200).2)
  else ({ z with is := (rdBool bs s).1 }, (rdBool bs s).2)
end Go.Proofs.Ytpagolhlbceegaa
