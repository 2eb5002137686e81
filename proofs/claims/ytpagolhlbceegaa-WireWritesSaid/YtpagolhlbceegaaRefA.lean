/- The document's writer: its forms. -/
import Derived.Test.YtpagolhlbceegaaWireM
import Derived.Laws.OwnMore
import Derived.Deep.DeepCutAuto
import Derived.Deep.CutBlock
import Derived.Deep.LoopGhost
namespace Go.Proofs.Ytpagolhlbceegaa
open Go.RowKit

theorem ownB_lit (w : World) (cs : List UInt8) (c : Array Value) (n : Nat) (hc : c = (bytesV cs).toArray) (hn : n = cs.length) (hm : n ≤ maxLen) : OwnB (w.alloc (.cells c 5)) (.slice (some ⟨w.heap.size, 0, none⟩) n n) cs := by
  subst hc hn
  have := World.ownsRow_lit (base := 0) (e := 5) (size := 1) w (bytesV cs).toArray cs.length (Nat.zero_le _) hm (by simp [bytesV])
  unfold OwnB
  simpa using this
theorem Grew.fresh {a b c : World} {v v' : Value} (hk : Kept NoS a b) (hf : ∀ k, v.ownBlock = some k → a.heap.size ≤ k) (h : Grew b c v v') : Kept NoS a c ∧ ∀ k, v'.ownBlock = some k → a.heap.size ≤ k := by
  refine ⟨hk.step h.1 fun i hi e => ?_, fun k hk' => ?_⟩
  · have := hf i e
    omega
  · rcases h.2 with e | ⟨m, e, h2⟩
    · exact hf k (by rw [← e]; exact hk')
    · have := hk.size
      rw [e] at hk'
      cases hk'
      omega
theorem ret0 (K : Nat) : Value.int .i64 ((K : Int) - 1) = .int .i64 ((K : Int) - 1 - (0 : Nat)) := by
  congr 1
  omega
set_option maxHeartbeats 400000 in
theorem refNum_any (n : Int) (w : World) (h0 : 0 ≤ n) (h1 : n ≤ 9223372036854775807) : Calls Try.prog 53 #[.int .i64 n] w (NewB w (encNum n) (fun v' => v')) := by
  by_cases hn : n < 192
  · have hr : sizeOfNum n = 0 := by unfold sizeOfNum; rw [if_pos hn]
    have HR : Hid (encNum n = [UInt8.ofInt n]) := by
      show _ = _
      unfold encNum
      rw [if_pos hr]
    clear hr
    go_enter Try.func53, Try.ntmps53
    go_wp2
    go_ret
    refine ⟨_, rfl, ?_, (Kept.refl NoS w).alloc _, fun k hk => ?_⟩
    · rw [HR.out]
      exact ownB_lit w _ _ 1 (by rw [byteV_of n h0 (by omega)]; rfl) rfl (by decide)
    · simp [Value.ownBlock] at hk
      omega
  · have hr : sizeOfNum n = sizeFrom 7 n 1 := by unfold sizeOfNum; rw [if_neg hn]
    have hk0 : sizeOfNum n ≠ 0 := by
      have := sizeFrom_bd n 7 1
      omega
    have hk8 := sizeOfNum_bd n
    have HR := Lib.hid hr
    have h2 : decide (n < 192) = false := by simp; omega
    have HE : Hid (encNum n = UInt8.ofInt (191 + sizeOfNum n) :: (List.range (sizeOfNum n)).map (numByte n (sizeOfNum n))) := by unfold encNum; rw [if_neg hk0]; exact rfl
    clear hr
    generalize sizeOfNum n = K at *
    go_enter Try.func53, Try.ntmps53
    go_upto_block 0 with fail
    go_cut [3] (fun k wr => k = .int .i64 K ∧ w = wr)
    case first =>
      go_wp2_with fail
      go_loopw [3] (fun k wr => ∃ j : Nat, 1 ≤ j ∧ j ≤ 8 ∧ k = .int .i64 j ∧ sizeFrom 7 n 1 = sizeFrom (8 - j) n j ∧ w = wr) (fun k _ => (8 - intOf k).toNat)
      case atStart => exact ⟨1, by omega, by omega, rfl, rfl, rfl⟩
      case round =>
        obtain ⟨j, hj1, hj8, rfl, hs, rfl⟩ := hrel
        have HS := Lib.hid hs
        clear hs
        by_cases hlt : j < 8
        · have hlt' : decide ((j : Int) < 8) = true := by simp; omega
          by_cases hd : 0 < n / 2 ^ (8 * j)
          · go_wp2_with fail
            refine ⟨⟨j + 1, by omega, by omega, by go_num, by rw [HS.out, show 8 - j = (8 - (j + 1)) + 1 from by omega, sizeFrom, if_pos hd], trivial⟩, by simp [intOf]; omega⟩
          · have e : K = j := by rw [HR.out, HS.out, show 8 - j = (8 - (j + 1)) + 1 from by omega, sizeFrom, if_neg (by omega)]
            go_wp2_with fail
            go_meet
            exact ⟨by rw [e], rfl⟩
        · have e : K = j := by rw [HR.out, HS.out, show 8 - j = 0 from by omega, sizeFrom]
          have hlt' : decide ((j : Int) < 8) = false := by simp; omega
          go_wp2_with fail
          go_meet
          exact ⟨by rw [e], rfl⟩
    case rest =>
      obtain ⟨rfl, rfl⟩ := hcut
      clear HR
      go_wp2_with fail
      have hb0 := Blk.new w #[Value.int .u8 (191 + (K : Int))] 5
      have ho0 : OwnB (w.alloc (.cells #[.int .u8 (191 + (K : Int))] 5)) (.slice (some ⟨w.heap.size, 0, none⟩) 1 1) [UInt8.ofInt (191 + K)] := ownB_lit w _ _ 1 (by rw [byteV_of (191 + (K : Int)) (by omega) (by omega)]; rfl) rfl (by decide)
      go_loopw [4, 5] (fun s i wr => ∃ j : Nat, j ≤ K ∧ i = .int .i64 ((K : Int) - 1 - j) ∧ OwnB wr s ([UInt8.ofInt (191 + K)] ++ (List.range j).map (numByte n K)) ∧ Kept NoS w wr ∧ ∀ k, s.ownBlock = some k → w.heap.size ≤ k) (fun _ i _ => (intOf i + 1).toNat)
      case atStart => exact ⟨0, by omega, ret0 K, by simpa using ho0, (Kept.refl NoS w).alloc _, fun k hk => by simp [Value.ownBlock] at hk; omega⟩
      case round =>
        obtain ⟨j, hj, rfl, ho, hk, hf⟩ := hrel
        by_cases hlt : j < K
        · obtain ⟨m, hm⟩ : ∃ m : Nat, (K : Int) - 1 - j = m := ⟨K - 1 - j, by omega⟩
          have hmn : K - 1 - j = m := by omega
          rw [hm]
          have HM := Lib.hid hm
          have HMN : Hid (numByte n K j = UInt8.ofInt (n / 2 ^ (8 * m))) := by
            show _ = _
            unfold numByte
            rw [hmn]
          have hm7 : m ≤ 7 := by omega
          clear hm hmn
          have t0 : decide ((0 : Int) ≤ m) = true := by simp
          go_wp2_with (at_builtin; refine wpList_appB rfl (.tmp 32) (.tmp 38) _ rfl u4 _ rfl (ho.alloc _) _ [numByte n K j] rfl ?_ ?_ ?_; rotate_left 2; intro v2 w2 ho3 hg3)
          · obtain ⟨hkk, hff⟩ := Grew.fresh (hk.alloc _) hf hg3
            refine ⟨⟨j + 1, by omega, ?_, ?_, hkk, hff⟩, by simp [intOf]⟩
            · have := HM.out
              go_num
            · rw [List.range_succ, List.map_append, ← List.append_assoc]
              exact ho3
          · rw [byteV_mod, HMN.out]
            exact srcB_new wr _
          · simp; omega
        · have e : j = K := by omega
          subst e
          have t0 : decide ((0 : Int) ≤ (j : Int) - 1 - j) = false := by simp; omega
          go_wp2_with fail
          go_ret
          exact ⟨_, rfl, by rw [HE.out]; exact ho, hk, hf⟩
end Go.Proofs.Ytpagolhlbceegaa
