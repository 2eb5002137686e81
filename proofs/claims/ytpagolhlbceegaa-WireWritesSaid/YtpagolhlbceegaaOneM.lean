/- What is read of any kind of thing without a fault stands there as it is written. -/
import Derived.Test.YtpagolhlbceegaaOneL
import Derived.Test.YtpagolhlbceegaaBack
namespace Go.Proofs.Ytpagolhlbceegaa

theorem encNum_pos (n : Int) : 0 < (encNum n).length := by
  unfold encNum
  split <;> simp
structure GetOk (bs : List UInt8) (s : RSt) (x : Th × RSt) : Prop where
  ok : ThOk x.1
  b : x.1.b.length ≤ 1048576
  v : x.1.v.length ≤ 1048576
  has : Has bs s.pos (thAll x.1)
  st : x.2 = { s with pos := s.pos + (thAll x.1).length }
  okT : okT x.1 = true
  pos : 0 < (thAll x.1).length
theorem rdGet_good {bs : List UInt8} {s : RSt} {k : Int} (hg : Good bs s) : Good bs (rdGet bs s k).2 := by
  unfold rdGet
  simp only []
  split
  · exact hg.num
  split
  · exact hg.bytes 200
  split
  · exact hg.id
  split
  · exact hg.dot
  split
  · exact hg.vec 200
  · exact hg.bool
theorem I64.zero : I64 0 := ⟨by decide, by decide⟩
theorem rdGet_ok {bs : List UInt8} {s : RSt} {k : Int} (hk : 0 ≤ k ∧ k ≤ 6) (hs : s.err = 0) (hg : Good bs s) (h : (rdGet bs s k).2.err = 0) : GetOk bs s (rdGet bs s k) := by
  rcases (by omega : k = 0 ∨ k = 1 ∨ k = 2 ∨ k = 3 ∨ k = 4 ∨ k = 5 ∨ k = 6) with rfl | rfl | rfl | rfl | rfl | rfl | rfl
  · have hX : rdGet bs s 0 = (⟨0, (rdNum bs s).1, [], List.replicate 32 0, 0, 0, [], false⟩, (rdNum bs s).2) := rfl
    rw [hX] at h ⊢
    obtain ⟨h1, h2⟩ := rdNum_ok hs h
    have hge := rdNum_ge bs s
    have hA : thAll ⟨0, (rdNum bs s).1, [], List.replicate 32 0, 0, 0, [], false⟩ = encNum (rdNum bs s).1 := rfl
    have hT : okT ⟨0, (rdNum bs s).1, [], List.replicate 32 0, 0, 0, [], false⟩ = true := by
      show (decide (0 ≤ (rdNum bs s).1) || _) = true
      rw [decide_eq_true hge.1]
      rfl
    exact ⟨⟨(show I64 0 from ⟨by decide, by decide⟩), ⟨by simp; omega, by simp; omega⟩, rfl, I64.zero, I64.zero, by simp⟩, by simp, by simp, by rw [hA]; exact h1, by rw [hA]; exact h2, hT, by rw [hA]; exact encNum_pos _⟩
  · have hX : rdGet bs s 1 = (⟨1, 0, (rdBytes bs s 200).1, List.replicate 32 0, 0, 0, [], false⟩, (rdBytes bs s 200).2) := rfl
    rw [hX] at h ⊢
    obtain ⟨h1, h2, h3⟩ := rdBytes_ok hs hg h
    have hA : thAll ⟨1, 0, (rdBytes bs s 200).1, List.replicate 32 0, 0, 0, [], false⟩ = encNum (rdBytes bs s 200).1.length ++ (rdBytes bs s 200).1 := rfl
    have := encNum_pos (rdBytes bs s 200).1.length
    exact ⟨⟨(show I64 1 from ⟨by decide, by decide⟩), I64.zero, rfl, I64.zero, I64.zero, by simp⟩, by simp only []; omega, by simp, by rw [hA]; exact h1, by rw [hA]; exact h2, rfl, by rw [hA, List.length_append]; omega⟩
  · have hX : rdGet bs s 2 = (⟨2, 0, (rdBytes bs s 200).1, List.replicate 32 0, 0, 0, [], false⟩, (rdBytes bs s 200).2) := rfl
    rw [hX] at h ⊢
    obtain ⟨h1, h2, h3⟩ := rdBytes_ok hs hg h
    have hA : thAll ⟨2, 0, (rdBytes bs s 200).1, List.replicate 32 0, 0, 0, [], false⟩ = encNum (rdBytes bs s 200).1.length ++ (rdBytes bs s 200).1 := rfl
    have := encNum_pos (rdBytes bs s 200).1.length
    exact ⟨⟨(show I64 2 from ⟨by decide, by decide⟩), I64.zero, rfl, I64.zero, I64.zero, by simp⟩, by simp only []; omega, by simp, by rw [hA]; exact h1, by rw [hA]; exact h2, rfl, by rw [hA, List.length_append]; omega⟩
  · have hX : rdGet bs s 3 = (⟨3, 0, [], (rdID bs s).1, 0, 0, [], false⟩, (rdID bs s).2) := rfl
    rw [hX] at h ⊢
    obtain ⟨h1, h2⟩ := rdID_ok hs hg h
    have hA : thAll ⟨3, 0, [], (rdID bs s).1, 0, 0, [], false⟩ = (rdID bs s).1 := rfl
    have hl : (rdID bs s).1.length = 32 := by
      unfold rdID
      split <;> simp_all
    exact ⟨⟨(show I64 3 from ⟨by decide, by decide⟩), I64.zero, hl, I64.zero, I64.zero, by simp⟩, by simp, by simp, by rw [hA]; exact h1, by rw [hA]; exact h2, rfl, by rw [hA]; omega⟩
  · have hX : rdGet bs s 4 = (⟨4, 0, [], List.replicate 32 0, (rdDot bs s).1.1, (rdDot bs s).1.2, [], false⟩, (rdDot bs s).2) := rfl
    rw [hX] at h ⊢
    obtain ⟨h1, h2, h3, h4, h5, h6⟩ := rdDot_ok hs h
    have hA : thAll ⟨4, 0, [], List.replicate 32 0, (rdDot bs s).1.1, (rdDot bs s).1.2, [], false⟩ = encNum (rdDot bs s).1.1 ++ encNum (rdDot bs s).1.2 := rfl
    have hT : okT ⟨4, 0, [], List.replicate 32 0, (rdDot bs s).1.1, (rdDot bs s).1.2, [], false⟩ = true := by
      show ((decide (0 ≤ (rdDot bs s).1.1) && decide (0 ≤ (rdDot bs s).1.2)) || _) = true
      rw [decide_eq_true h5, decide_eq_true h6]
      rfl
    have := encNum_pos (rdDot bs s).1.1
    exact ⟨⟨(show I64 4 from ⟨by decide, by decide⟩), I64.zero, rfl, h3, h4, by simp⟩, by simp, by simp, by rw [hA]; exact h1, by rw [hA]; exact h2, hT, by rw [hA, List.length_append]; omega⟩
  · have hX : rdGet bs s 5 = (⟨5, 0, [], List.replicate 32 0, 0, 0, (rdVec bs s 200).1, false⟩, (rdVec bs s 200).2) := rfl
    rw [hX] at h ⊢
    obtain ⟨h1, h2, h3, h4⟩ := rdVec_ok hs hg h
    have hA : thAll ⟨5, 0, [], List.replicate 32 0, 0, 0, (rdVec bs s 200).1, false⟩ = encNum (rdVec bs s 200).1.length ++ encNums (rdVec bs s 200).1 := rfl
    have hT : okT ⟨5, 0, [], List.replicate 32 0, 0, 0, (rdVec bs s 200).1, false⟩ = true := by
      show ((!(rdVec bs s 200).1.any (fun n => decide (n < 0))) || _) = true
      have : (rdVec bs s 200).1.any (fun n => decide (n < 0)) = false := by
        rw [List.any_eq_false]
        intro x hx
        have := h4 x hx
        simp
        omega
      rw [this]
      rfl
    have := encNum_pos (rdVec bs s 200).1.length
    exact ⟨⟨(show I64 5 from ⟨by decide, by decide⟩), I64.zero, rfl, I64.zero, I64.zero, fun x hx => ⟨by have := h4 x hx; omega, (h4 x hx).2⟩⟩, by simp, by simp only []; omega, by rw [hA]; exact h1, by rw [hA]; exact h2, hT, by rw [hA, List.length_append]; omega⟩
  · have hX : rdGet bs s 6 = (⟨6, 0, [], List.replicate 32 0, 0, 0, [], (rdBool bs s).1⟩, (rdBool bs s).2) := rfl
    rw [hX] at h ⊢
    obtain ⟨h1, h2⟩ := rdBool_ok hs h
    have hA : thAll ⟨6, 0, [], List.replicate 32 0, 0, 0, [], (rdBool bs s).1⟩ = [boolB (rdBool bs s).1] := rfl
    exact ⟨⟨(show I64 6 from ⟨by decide, by decide⟩), I64.zero, rfl, I64.zero, I64.zero, by simp⟩, by simp, by simp, by rw [hA]; exact h1, by rw [hA]; exact h2, rfl, by rw [hA]; simp⟩
end Go.Proofs.Ytpagolhlbceegaa
