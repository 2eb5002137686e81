/- What is written is read as it was, and what is cut is told short: plain laws. -/
import Derived.Test.YtpagolhlbceegaaThW
import Derived.Test.YtpagolhlbceegaaThR
namespace Go.Proofs.Ytpagolhlbceegaa

/-- These bytes stand there. -/
def Has (bs : List UInt8) (pos : Nat) (l : List UInt8) : Prop := ∃ x, bs.drop pos = l ++ x ∧ pos ≤ bs.length
/-- There it ends before all of these have come. -/
def Short (bs : List UInt8) (pos : Nat) (l : List UInt8) : Prop := ∃ x, x ≠ [] ∧ l = bs.drop pos ++ x ∧ pos ≤ bs.length
theorem Has.le {bs : List UInt8} {pos : Nat} {l : List UInt8} (h : Has bs pos l) : pos + l.length ≤ bs.length := by
  obtain ⟨x, h1, h2⟩ := h
  have := congrArg List.length h1
  simp at this
  omega
theorem Has.take {bs : List UInt8} {pos : Nat} {l : List UInt8} (h : Has bs pos l) : (bs.drop pos).take l.length = l := by
  obtain ⟨x, h1, h2⟩ := h
  rw [h1, List.take_left]
theorem Has.left {bs : List UInt8} {pos : Nat} {a b : List UInt8} (h : Has bs pos (a ++ b)) : Has bs pos a := by
  obtain ⟨x, h1, h2⟩ := h
  exact ⟨b ++ x, by rw [h1, List.append_assoc], h2⟩
theorem Has.right {bs : List UInt8} {pos : Nat} {a b : List UInt8} (h : Has bs pos (a ++ b)) : Has bs (pos + a.length) b := by
  have hl := h.left.le
  obtain ⟨x, h1, h2⟩ := h
  refine ⟨x, ?_, hl⟩
  rw [← List.drop_drop, h1, List.append_assoc, List.drop_left]
theorem Has.head {bs : List UInt8} {pos : Nat} {c : UInt8} {l : List UInt8} (h : Has bs pos (c :: l)) : bs[pos]? = some c := by
  obtain ⟨x, h1, h2⟩ := h
  have : (bs.drop pos)[0]? = some c := by rw [h1]; rfl
  simpa using this
theorem Has.tail {bs : List UInt8} {pos : Nat} {c : UInt8} {l : List UInt8} (h : Has bs pos (c :: l)) : Has bs (pos + 1) l := Has.right (a := [c]) h
theorem Short.cut {bs : List UInt8} {pos : Nat} {a b : List UInt8} (h : Short bs pos (a ++ b)) : Short bs pos a ∨ (Has bs pos a ∧ Short bs (pos + a.length) b) := by
  obtain ⟨x, h0, h1, h2⟩ := h
  rcases List.append_eq_append_iff.1 h1 with ⟨a', h3, h4⟩ | ⟨c', h3, h4⟩
  · right
    have hh : Has bs pos a := ⟨a', h3, h2⟩
    refine ⟨hh, x, h0, ?_, hh.le⟩
    rw [← List.drop_drop, h3, List.drop_left, h4]
  · by_cases hc : c' = []
    · subst hc
      right
      have hh : Has bs pos a := ⟨[], by rw [h3]; simp, h2⟩
      refine ⟨hh, x, h0, ?_, hh.le⟩
      rw [List.append_nil] at h3
      rw [← List.drop_drop, ← h3, List.drop_length, h4]
      simp
    · exact .inl ⟨c', hc, h3, h2⟩
theorem Short.len {bs : List UInt8} {pos : Nat} {l : List UInt8} (h : Short bs pos l) : bs.length < pos + l.length := by
  obtain ⟨x, h0, h1, h2⟩ := h
  have := congrArg List.length h1
  have h3 : x.length ≠ 0 := fun e => h0 (List.length_eq_zero_iff.1 e)
  simp at this
  omega

theorem ofInt_toNat (x : Int) : ((UInt8.ofInt x).toNat : Int) = x % 256 := by
  have := byteV_mod x
  unfold byteV at this
  injection this with _ h
  exact h.symm
theorem numBytes_succ (n : Int) (k : Nat) : (List.range (k + 1)).map (numByte n (k + 1)) = (List.range k).map (numByte (n / 256) k) ++ [UInt8.ofInt n] := by
  rw [List.range_succ, List.map_append]
  congr 1
  · apply List.map_congr_left
    intro i hi
    rw [List.mem_range] at hi
    unfold numByte
    rw [show k + 1 - 1 - i = (k - 1 - i) + 1 by omega, show 8 * (k - 1 - i + 1) = 8 + 8 * (k - 1 - i) by omega, Int.pow_add, ← Int.ediv_ediv_of_nonneg (by decide)]
    rfl
  · simp [numByte]
theorem beVal_numBytes : ∀ (k : Nat) (n : Nat), n < 256 ^ k → beVal ((List.range k).map (numByte n k)) = n
  | 0, n, h => by
    have : n = 0 := by simpa using h
    subst this
    rfl
  | k + 1, n, h => by
    rw [numBytes_succ, beVal_snoc, show ((n : Int) / 256) = ((n / 256 : Nat) : Int) by omega, beVal_numBytes k (n / 256) (by rw [Nat.pow_succ] at h; omega)]
    have : (UInt8.ofInt (n : Int)).toNat = n % 256 := by
      have := ofInt_toNat n
      omega
    omega
theorem numBytes_go : ∀ (m : Nat) (l : List UInt8), l.length = m → (List.range l.length).map (numByte (beVal l) l.length) = l
  | 0, l, h => by
    have := List.length_eq_zero_iff.1 h
    subst this
    rfl
  | m + 1, l, h => by
    obtain ⟨l, x, rfl⟩ : ∃ l' x, l = l' ++ [x] := ⟨l.dropLast, l.getLast (by intro e; simp [e] at h), (List.dropLast_concat_getLast _).symm⟩
    have ih := numBytes_go m l (by simpa using h)
    rw [List.length_append, List.length_singleton, numBytes_succ, beVal_snoc]
    have hx := x.toNat_lt
    rw [show (((beVal l * 256 + x.toNat : Nat) : Int) / 256) = (beVal l : Int) by omega, ih]
    congr 1
    apply congrArg (· :: [])
    apply UInt8.toNat_inj.1
    have := ofInt_toNat ((beVal l * 256 + x.toNat : Nat) : Int)
    omega
theorem numBytes_beVal (l : List UInt8) : (List.range l.length).map (numByte (beVal l) l.length) = l := numBytes_go _ l rfl

theorem sizeOfNum_zero {n : Int} (h : sizeOfNum n = 0) : n < 192 := by
  unfold sizeOfNum at h
  split at h
  · assumption
  · have := sizeFrom_bd n 7 1
    omega
theorem sizeFrom_end (n : Int) : ∀ f k, sizeFrom f n k < k + f → n / 2 ^ (8 * sizeFrom f n k) ≤ 0
  | 0, k, h => by simp [sizeFrom] at h
  | f + 1, k, h => by
    unfold sizeFrom at h ⊢
    by_cases hc : 0 < n / 2 ^ (8 * k)
    · rw [if_pos hc] at h ⊢
      exact sizeFrom_end n f (k + 1) (by omega)
    · rw [if_neg hc]
      omega
theorem sizeOfNum_lt {n : Nat} (h63 : n < 9223372036854775808) (h : sizeOfNum n ≠ 0) : n < 256 ^ sizeOfNum n := by
  have hb := sizeOfNum_bd n
  by_cases h8 : sizeOfNum n = 8
  · rw [h8]
    omega
  · have hs : sizeOfNum n = sizeFrom 7 n 1 := by
      by_cases h2 : (n : Int) < 192
      · exact absurd (by unfold sizeOfNum; rw [if_pos h2]) h
      · unfold sizeOfNum
        rw [if_neg h2]
    rw [hs] at h8 hb ⊢
    have := sizeFrom_end n 7 1 (by omega)
    generalize sizeFrom 7 (↑n) 1 = k at *
    have hp : (0 : Int) < 2 ^ (8 * k) := Int.pow_pos (by decide)
    have h1 : (n : Int) < 2 ^ (8 * k) := by
      by_cases h2 : (n : Int) < 2 ^ (8 * k)
      · exact h2
      · have h3 := Int.ediv_le_ediv hp (Int.not_lt.1 h2)
        rw [Int.ediv_self (by omega)] at h3
        omega
    have h2 : ((256 ^ k : Nat) : Int) = 2 ^ (8 * k) := by
      rw [Int.pow_mul]
      simp
    omega

theorem rdNum_enc {bs : List UInt8} {s : RSt} {n : Int} (hs : s.err = 0) (h0 : 0 ≤ n) (h1 : n ≤ 9223372036854775807) (h : Has bs s.pos (encNum n)) : rdNum bs s = (n, { s with pos := s.pos + (encNum n).length }) := by
  obtain ⟨m, rfl⟩ := Int.eq_ofNat_of_zero_le h0
  have hle := h.le
  have hb := sizeOfNum_bd m
  unfold encNum at *
  unfold rdNum
  rw [if_pos hs]
  by_cases hk : sizeOfNum m = 0
  · rw [if_pos hk] at *
    have hlt := sizeOfNum_zero hk
    have hc := ofInt_toNat m
    have hc2 : (UInt8.ofInt (m : Int)).toNat = m := by omega
    rw [h.head]
    show rdNumC _ _ _ = _
    unfold rdNumC
    simp at hle
    rw [hc2, if_neg (by omega), if_neg (by omega), if_pos (by omega)]
    simp
  · rw [if_neg hk] at *
    have hc := ofInt_toNat (191 + sizeOfNum m)
    have hc2 : (UInt8.ofInt (191 + (sizeOfNum m : Int))).toNat = 191 + sizeOfNum m := by omega
    have ht := h.tail.take
    rw [h.head]
    show rdNumC _ _ _ = _
    simp only [List.length_map, List.length_range, List.length_cons] at ht hle ⊢
    unfold rdNumC
    rw [hc2, if_neg (by omega), if_neg (by omega), if_neg (by omega)]
    rw [show 191 + sizeOfNum m - 191 = sizeOfNum m by omega, ht, beVal_numBytes _ _ (sizeOfNum_lt (by omega) hk)]
    simp only []
    rw [if_neg (by omega)]
    simp [Nat.add_assoc, Nat.add_comm 1]
theorem rdNum_short {bs : List UInt8} {s : RSt} {n : Int} (hs : s.err = 0) (h : Short bs s.pos (encNum n)) : (rdNum bs s).2.err = 6 := by
  have hl := h.len
  obtain ⟨x, h0, h1, h2⟩ := h
  unfold rdNum
  rw [if_pos hs]
  cases hc : bs[s.pos]? with
  | none => rfl
  | some c =>
    show (rdNumC _ _ _).2.err = 6
    have hd : ∃ y, bs.drop s.pos = c :: y := by
      have hlt := (List.getElem?_eq_some_iff.1 hc)
      obtain ⟨hl, he⟩ := hlt
      exact ⟨_, by rw [List.drop_eq_getElem_cons hl, he]⟩
    obtain ⟨y, hd⟩ := hd
    rw [hd] at h1
    have hyl := congrArg List.length hd
    rw [List.length_drop, List.length_cons] at hyl
    have hb := sizeOfNum_bd n
    unfold encNum at h1 hl
    by_cases hk : sizeOfNum n = 0
    · rw [if_pos hk] at hl
      simp at hl
      omega
    · rw [if_neg hk] at h1 hl
      injection h1 with h3 h4
      have hc1 := ofInt_toNat (191 + sizeOfNum n)
      rw [h3] at hc1
      simp only [List.length_cons, List.length_map, List.length_range] at hl
      unfold rdNumC
      rw [if_neg (by omega), if_pos (by omega)]
theorem rdTake_has {bs : List UInt8} {s : RSt} {l : List UInt8} (a : Int) (hs : s.err = 0) (h : Has bs s.pos l) : rdTake bs s l.length a = (l, { s with pos := s.pos + l.length }) := by
  have := h.le
  unfold rdTake
  rw [if_pos hs, if_neg (by omega), h.take]
theorem rdTake_short {bs : List UInt8} {s : RSt} {l : List UInt8} (a : Int) (hs : s.err = 0) (h : Short bs s.pos l) : (rdTake bs s l.length a).2.err = 6 := by
  have := h.len
  unfold rdTake
  rw [if_pos hs, if_pos (by omega)]
theorem rdTake_err (bs : List UInt8) (s : RSt) (n : Nat) (a : Int) (h : s.err ≠ 0) : rdTake bs s n a = ([], s) := by rw [rdTake, if_neg h]
theorem rdMany_enc {bs : List UInt8} {s : RSt} {n most : Int} (hs : s.err = 0) (h0 : 0 ≤ n) (h1 : n ≤ 9223372036854775807) (hm : n ≤ most) (h : Has bs s.pos (encNum n)) : rdMany bs s most = (n, { s with pos := s.pos + (encNum n).length }) := by
  unfold rdMany
  rw [if_pos hs, rdNum_enc hs h0 h1 h, if_neg (by simp; omega)]
theorem RSt.fail_err {s : RSt} (e a : Int) (h : s.err ≠ 0) : s.fail e a = s := by unfold RSt.fail; rw [if_neg h]
theorem rdMany_short {bs : List UInt8} {s : RSt} {n most : Int} (hs : s.err = 0) (h : Short bs s.pos (encNum n)) : (rdMany bs s most).2.err = 6 := by
  have := rdNum_short hs h
  unfold rdMany
  rw [if_pos hs]
  split
  · show (RSt.fail _ _ _).err = 6
    rw [RSt.fail_err _ _ (by rw [this]; decide), this]
  · exact this
theorem rdMany_err (bs : List UInt8) (s : RSt) (most : Int) (h : s.err ≠ 0) : rdMany bs s most = (0, s) := by rw [rdMany, if_neg h]
theorem rdBytes_enc {bs : List UInt8} {s : RSt} {l : List UInt8} (hs : s.err = 0) (hl : l.length ≤ 1048576) (h : Has bs s.pos (encNum l.length ++ l)) : rdBytes bs s l.length = (l, { s with pos := s.pos + (encNum l.length ++ l).length }) := by
  unfold rdBytes
  rw [rdMany_enc hs (by omega) (by omega) (by omega) h.left]
  have := rdTake_has (bs := bs) (s := { s with pos := s.pos + (encNum l.length).length }) (rdPlace s) hs h.right
  simp only [Int.toNat_natCast]
  rw [this]
  simp [Nat.add_assoc]
theorem rdBytes_short {bs : List UInt8} {s : RSt} {l : List UInt8} (hs : s.err = 0) (hl : l.length ≤ 1048576) (h : Short bs s.pos (encNum l.length ++ l)) : (rdBytes bs s l.length).2.err = 6 := by
  unfold rdBytes
  rcases h.cut with h1 | ⟨h1, h2⟩
  · have := rdMany_short (most := l.length) hs h1
    rw [rdTake_err _ _ _ _ (by rw [this]; decide), this]
  · rw [rdMany_enc hs (by omega) (by omega) (by omega) h1]
    exact rdTake_short (s := { s with pos := s.pos + (encNum l.length).length }) _ hs h2
theorem rdBytes_err (bs : List UInt8) (s : RSt) (most : Int) (h : s.err ≠ 0) : rdBytes bs s most = ([], s) := by
  unfold rdBytes
  rw [rdMany_err _ _ _ h, rdTake_err _ _ _ _ h]
theorem rdID_enc {bs : List UInt8} {s : RSt} {l : List UInt8} (hs : s.err = 0) (hl : l.length = 32) (h : Has bs s.pos l) : rdID bs s = (l, { s with pos := s.pos + l.length }) := by
  unfold rdID
  have := rdTake_has (rdPlace s) hs h
  rw [hl] at this
  rw [this, if_pos hl, hl]
theorem rdID_short {bs : List UInt8} {s : RSt} {l : List UInt8} (hs : s.err = 0) (hl : l.length = 32) (h : Short bs s.pos l) : (rdID bs s).2.err = 6 := by
  have := rdTake_short (rdPlace s) hs h
  rw [hl] at this
  exact this
theorem rdID_err (bs : List UInt8) (s : RSt) (h : s.err ≠ 0) : (rdID bs s).2 = s := by
  unfold rdID
  rw [rdTake_err _ _ _ _ h]
theorem rdDot_enc {bs : List UInt8} {s : RSt} {a b : Int} (hs : s.err = 0) (ha : 0 ≤ a) (ha1 : a ≤ 9223372036854775807) (hb : 0 ≤ b) (hb1 : b ≤ 9223372036854775807) (h : Has bs s.pos (encNum a ++ encNum b)) : rdDot bs s = ((a, b), { s with pos := s.pos + (encNum a ++ encNum b).length }) := by
  unfold rdDot
  have h1 := rdNum_enc hs ha ha1 h.left
  have h2 := rdNum_enc (bs := bs) (s := { s with pos := s.pos + (encNum a).length }) hs hb hb1 h.right
  rw [h1]
  simp only []
  rw [h2, if_pos hs]
  simp [Nat.add_assoc]
theorem rdDot_short {bs : List UInt8} {s : RSt} {a b : Int} (hs : s.err = 0) (ha : 0 ≤ a) (ha1 : a ≤ 9223372036854775807) (h : Short bs s.pos (encNum a ++ encNum b)) : (rdDot bs s).2.err = 6 := by
  have hd : (rdDot bs s).2 = (rdNum bs (rdNum bs s).2).2 := by unfold rdDot; split <;> rfl
  rw [hd]
  rcases h.cut with h1 | ⟨h1, h2⟩
  · have := rdNum_short hs h1
    rw [rdNum_err _ _ (by rw [this]; decide), this]
  · rw [rdNum_enc hs ha ha1 h1]
    exact rdNum_short (s := { s with pos := s.pos + (encNum a).length }) hs h2
theorem rdDot_err (bs : List UInt8) (s : RSt) (h : s.err ≠ 0) : (rdDot bs s).2 = s := by
  have hd : (rdDot bs s).2 = (rdNum bs (rdNum bs s).2).2 := by unfold rdDot; split <;> rfl
  rw [hd, rdNum_err _ _ h, rdNum_err _ _ h]
theorem rdVecGo_enc (bs : List UInt8) : ∀ (xs : List Int) (s : RSt) (acc : List Int), s.err = 0 → (∀ x ∈ xs, 0 ≤ x ∧ x ≤ 9223372036854775807) → Has bs s.pos (encNums xs) → rdVecGo bs xs.length s acc = (acc ++ xs, { s with pos := s.pos + (encNums xs).length })
  | [], s, acc, hs, _, _ => by
    show (if s.err = 0 then (acc, s) else ([], s)) = _
    rw [if_pos hs]
    simp [encNums]
  | x :: xs, s, acc, hs, hx, h => by
    have he : encNums (x :: xs) = encNum x ++ encNums xs := rfl
    rw [he] at h ⊢
    have h1 := rdNum_enc hs (hx x (.head _)).1 (hx x (.head _)).2 h.left
    show (if s.err = 0 then rdVecGo bs xs.length (rdNum bs s).2 (acc ++ [(rdNum bs s).1]) else ([], s)) = _
    rw [if_pos hs, h1]
    have := rdVecGo_enc bs xs { s with pos := s.pos + (encNum x).length } (acc ++ [x]) hs (fun y hy => hx y (.tail _ hy)) h.right
    simp only [this]
    simp [Nat.add_assoc]
theorem rdVecGo_short (bs : List UInt8) : ∀ (xs : List Int) (s : RSt) (acc : List Int), s.err = 0 → (∀ x ∈ xs, 0 ≤ x ∧ x ≤ 9223372036854775807) → Short bs s.pos (encNums xs) → (rdVecGo bs xs.length s acc).2.err = 6
  | [], s, acc, hs, _, h => by
    have := h.len
    obtain ⟨x, h0, h1, h2⟩ := h
    simp [encNums] at this
    omega
  | x :: xs, s, acc, hs, hx, h => by
    have he : encNums (x :: xs) = encNum x ++ encNums xs := rfl
    rw [he] at h
    show (if s.err = 0 then rdVecGo bs xs.length (rdNum bs s).2 (acc ++ [(rdNum bs s).1]) else ([], s)).2.err = 6
    rw [if_pos hs]
    rcases h.cut with h1 | ⟨h1, h2⟩
    · have := rdNum_short hs h1
      rw [rdVecGo_err _ _ _ _ (by rw [this]; decide), this]
    · rw [rdNum_enc hs (hx x (.head _)).1 (hx x (.head _)).2 h1]
      exact rdVecGo_short bs xs { s with pos := s.pos + (encNum x).length } _ hs (fun y hy => hx y (.tail _ hy)) h2
theorem rdVec_enc {bs : List UInt8} {s : RSt} {xs : List Int} (hs : s.err = 0) (hl : xs.length ≤ 1048576) (hx : ∀ x ∈ xs, 0 ≤ x ∧ x ≤ 9223372036854775807) (h : Has bs s.pos (encNum xs.length ++ encNums xs)) : rdVec bs s xs.length = (xs, { s with pos := s.pos + (encNum xs.length ++ encNums xs).length }) := by
  unfold rdVec
  rw [rdMany_enc hs (by omega) (by omega) (by omega) h.left]
  have := rdVecGo_enc bs xs { s with pos := s.pos + (encNum xs.length).length } [] hs hx h.right
  simp only [Int.toNat_natCast]
  rw [this]
  simp [Nat.add_assoc]
theorem rdVec_short {bs : List UInt8} {s : RSt} {xs : List Int} (hs : s.err = 0) (hl : xs.length ≤ 1048576) (hx : ∀ x ∈ xs, 0 ≤ x ∧ x ≤ 9223372036854775807) (h : Short bs s.pos (encNum xs.length ++ encNums xs)) : (rdVec bs s xs.length).2.err = 6 := by
  unfold rdVec
  rcases h.cut with h1 | ⟨h1, h2⟩
  · have := rdMany_short (most := xs.length) hs h1
    rw [rdVecGo_err _ _ _ _ (by rw [this]; decide), this]
  · rw [rdMany_enc hs (by omega) (by omega) (by omega) h1]
    exact rdVecGo_short bs xs { s with pos := s.pos + (encNum xs.length).length } _ hs hx h2
theorem rdVec_err (bs : List UInt8) (s : RSt) (most : Int) (h : s.err ≠ 0) : (rdVec bs s most).2 = s := by
  unfold rdVec
  rw [rdMany_err _ _ _ h, rdVecGo_err _ _ _ _ h]
theorem boolB_enc (b : Bool) : [boolB b] = encNum (if b then 1 else 0) := by cases b <;> decide
theorem rdBool_enc {bs : List UInt8} {s : RSt} {b : Bool} (hs : s.err = 0) (h : Has bs s.pos [boolB b]) : rdBool bs s = (b, { s with pos := s.pos + [boolB b].length }) := by
  unfold rdBool
  rw [boolB_enc] at h ⊢
  have := rdNum_enc hs (by split <;> decide) (by split <;> decide) h
  rw [this]
  cases b <;> simp
theorem rdBool_short {bs : List UInt8} {s : RSt} {b : Bool} (hs : s.err = 0) (h : Short bs s.pos [boolB b]) : (rdBool bs s).2.err = 6 := by
  rw [boolB_enc] at h
  have := rdNum_short hs h
  unfold rdBool
  simp only []
  split
  · rw [RSt.fail_err _ _ (by rw [this]; decide), this]
  · exact this
theorem rdBool_err (bs : List UInt8) (s : RSt) (h : s.err ≠ 0) : (rdBool bs s).2 = s := by
  unfold rdBool
  rw [rdNum_err _ _ h]
  simp

/-- What a thing is written as, whatever its kind. -/
def thAll (t : Th) : List UInt8 := if thKnown t then (thEnc t).1 else []
theorem thing_cases {t : Th} (h : thKnown t = true) : t.kind = 0 ∨ t.kind = 1 ∨ t.kind = 2 ∨ t.kind = 3 ∨ t.kind = 4 ∨ t.kind = 5 ∨ t.kind = 6 := by
  simp [thKnown] at h
  omega
theorem rdThing_err (bs : List UInt8) (s : RSt) (t : Th) (h : s.err ≠ 0) : (rdThing bs s t).2 = s := by
  unfold rdThing
  split
  · rw [rdNum_err _ _ h]
  split
  · rw [rdBytes_err _ _ _ h]
  split
  · exact rdID_err _ _ h
  split
  · exact rdDot_err _ _ h
  split
  · exact rdVec_err _ _ _ h
  split
  · exact rdBool_err _ _ h
  · rfl
theorem nums_ok {t : Th} (hv : ∀ x ∈ t.v, I64 x) (h : (!t.v.any (fun n => decide (n < 0))) = true) : ∀ x ∈ t.v, 0 ≤ x ∧ x ≤ 9223372036854775807 := fun x hx => by
  simp at h
  exact ⟨h x hx, (hv x hx).2⟩
theorem rdThing_enc {bs : List UInt8} {s : RSt} {t : Th} (hs : s.err = 0) (ht : ThOk t) (hb : t.b.length ≤ 1048576) (hv : t.v.length ≤ 1048576) (hok : (thEnc t).2 = true ∨ thKnown t = false) (h : Has bs s.pos (thAll t)) : rdThing bs s t = (true, { s with pos := s.pos + (thAll t).length }) := by
  unfold thAll at *
  by_cases hk : thKnown t = true
  · rw [if_pos hk] at *
    rw [hk] at hok
    simp only [Bool.true_eq_false, or_false] at hok
    rcases thing_cases hk with e | e | e | e | e | e | e
    · simp only [thEnc, e, if_true] at h hok ⊢
      simp only [rdThing, e, if_true]
      rw [rdNum_enc hs (by simpa using hok) ht.n.2 h]
      simp
    · simp [thEnc, e] at h hok ⊢
      simp [rdThing, e]
      rw [rdBytes_enc hs hb h]
      simp
    · simp [thEnc, e] at h hok ⊢
      simp [rdThing, e]
      rw [rdBytes_enc hs hb h]
      simp
    · simp [thEnc, e] at h hok ⊢
      simp [rdThing, e]
      rw [rdID_enc hs ht.d h]
      simp
    · simp [thEnc, e] at h hok ⊢
      simp [rdThing, e]
      rw [rdDot_enc hs hok.1 ht.r.2 hok.2 ht.s.2 h]
      simp
    · have h2 := nums_ok ht.v (by simpa [thEnc, e] using hok)
      simp [thEnc, e] at h ⊢
      simp [rdThing, e]
      rw [rdVec_enc hs hv h2 h]
      simp
    · simp [thEnc, e] at h hok ⊢
      simp [rdThing, e]
      rw [rdBool_enc hs h]
      simp
  · rw [if_neg hk] at *
    have hn : t.kind < 0 ∨ 6 < t.kind := by
      simp [thKnown] at hk
      omega
    unfold rdThing
    rw [if_neg (by omega), if_neg (by omega), if_neg (by omega), if_neg (by omega), if_neg (by omega), if_neg (by omega)]
    rfl
theorem rdThing_short {bs : List UInt8} {s : RSt} {t : Th} (hs : s.err = 0) (ht : ThOk t) (hb : t.b.length ≤ 1048576) (hv : t.v.length ≤ 1048576) (hok : (thEnc t).2 = true ∨ thKnown t = false) (h : Short bs s.pos (thAll t)) : (rdThing bs s t).2.err = 6 := by
  unfold thAll at *
  by_cases hk : thKnown t = true
  · rw [if_pos hk] at *
    rw [hk] at hok
    simp only [Bool.true_eq_false, or_false] at hok
    rcases thing_cases hk with e | e | e | e | e | e | e
    · simp [thEnc, e] at h hok ⊢
      simp [rdThing, e]
      exact rdNum_short hs h
    · simp [thEnc, e] at h hok ⊢
      simp [rdThing, e]
      exact rdBytes_short hs hb h
    · simp [thEnc, e] at h hok ⊢
      simp [rdThing, e]
      exact rdBytes_short hs hb h
    · simp [thEnc, e] at h hok ⊢
      simp [rdThing, e]
      exact rdID_short hs ht.d h
    · simp [thEnc, e] at h hok ⊢
      simp [rdThing, e]
      exact rdDot_short hs hok.1 ht.r.2 h
    · have h2 := nums_ok ht.v (by simpa [thEnc, e] using hok)
      simp [thEnc, e] at h ⊢
      simp [rdThing, e]
      exact rdVec_short hs hv h2 h
    · simp [thEnc, e] at h hok ⊢
      simp [rdThing, e]
      exact rdBool_short hs h
  · rw [if_neg hk] at *
    have := h.len
    obtain ⟨x, h0, h1, h2⟩ := h
    simp at this
    omega

def encAll (ts : List Th) : List UInt8 := ts.flatMap thAll
theorem encAll_take (ts : List Th) {k : Nat} {t : Th} (ht : ts[k]? = some t) : encAll (ts.take (k + 1)) = encAll (ts.take k) ++ thAll t := by
  unfold encAll
  rw [List.take_add_one, List.flatMap_append, ht]
  simp
def rdRun (bs : List UInt8) (s : RSt) (ts : List Th) : RSt := ts.foldl (fun s t => (rdThing bs s t).2) s
theorem rdRun_take (bs : List UInt8) (s : RSt) (ts : List Th) {k : Nat} {t : Th} (ht : ts[k]? = some t) : rdRun bs s (ts.take (k + 1)) = (rdThing bs (rdRun bs s (ts.take k)) t).2 := by
  unfold rdRun
  rw [List.take_add_one, List.foldl_append, ht]
  simp
theorem rdRun_err (bs : List UInt8) : ∀ (ts : List Th) (s : RSt), s.err ≠ 0 → rdRun bs s ts = s
  | [], _, _ => rfl
  | t :: ts, s, h => by
    show rdRun bs (rdThing bs s t).2 ts = s
    rw [rdThing_err _ _ _ h]
    exact rdRun_err bs ts s h
/-- What a thing must be that is read as it was. -/
structure ThFine (t : Th) : Prop where
  ok : ThOk t
  b : t.b.length ≤ 1048576
  v : t.v.length ≤ 1048576
  n : (thEnc t).2 = true ∨ thKnown t = false
theorem rdRun_short (bs : List UInt8) : ∀ (ts : List Th) (s : RSt), s.err = 0 → (∀ t ∈ ts, ThFine t) → Short bs s.pos (encAll ts) → (rdRun bs s ts).err = 6
  | [], s, hs, _, h => by
    have := h.len
    obtain ⟨x, h0, h1, h2⟩ := h
    simp [encAll] at this
    omega
  | t :: ts, s, hs, ht, h => by
    have hf := ht t (.head _)
    show (rdRun bs (rdThing bs s t).2 ts).err = 6
    have he : encAll (t :: ts) = thAll t ++ encAll ts := rfl
    rw [he] at h
    rcases h.cut with h1 | ⟨h1, h2⟩
    · have := rdThing_short hs hf.ok hf.b hf.v hf.n h1
      rw [rdRun_err _ _ _ (by rw [this]; decide), this]
    · rw [rdThing_enc hs hf.ok hf.b hf.v hf.n h1]
      exact rdRun_short bs ts { s with pos := s.pos + (thAll t).length } hs (fun u hu => ht u (.tail _ hu)) h2
end Go.Proofs.Ytpagolhlbceegaa
