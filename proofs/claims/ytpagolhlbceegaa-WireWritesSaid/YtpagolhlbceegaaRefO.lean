/- Bytes that are written over. -/
import Derived.Test.YtpagolhlbceegaaRefA
namespace Go.Proofs.Ytpagolhlbceegaa
open Go.RowKit

theorem xor_all : ∀ n : Fin 256, bits BinOp.xor IntKind.u8 (n.val : Int) 165 = ((UInt8.ofNat n.val ^^^ 165).toNat : Int) := by decide +kernel
theorem xor_byte (x : UInt8) : Value.int .u8 (bits BinOp.xor IntKind.u8 (x.toNat : Int) 165) = byteV (x ^^^ 165) := by
  have h := xor_all ⟨x.toNat, x.toNat_lt⟩
  simp only [UInt8.ofNat_toNat] at h
  unfold byteV
  rw [h]
theorem OwnB.stored {w : World} {g n cap : Nat} {bs : List UInt8} (h : OwnB w (.slice (some ⟨g, 0, none⟩) n cap) bs) (hn : n = bs.length) (k : Nat) (y : UInt8) : OwnB (w.setCell ⟨g, k, none⟩ (byteV y)) (.slice (some ⟨g, 0, none⟩) n cap) (bs.set k y) := by
  subst hn
  unfold OwnB at h ⊢
  have := (World.ownsRow.stored h k (byteV y)).1
  rw [List.length_set]
  unfold bytesV at this ⊢
  rw [List.map_set]
  exact this
theorem OwnB.head {w : World} {a : Option Addr} {n cap : Nat} {bs : List UInt8} (h : OwnB w (.slice a n cap) bs) {k : Nat} {x : UInt8} (hx : bs[k]? = some x) : ∃ g, a = some ⟨g, 0, none⟩ ∧ w.cell? ⟨g, k, none⟩ = some (byteV x) ∧ w.frozen? ⟨g, k, none⟩ = false := by
  have hk := (List.getElem?_eq_some_iff.1 hx).1
  rcases h.2 with ⟨e, e2⟩ | ⟨g, cap', cur, e, _, hg, _⟩
  · have hl : bs.length = 0 := e2
    omega
  · cases e
    have hc := h.cells (g := g) rfl k (byteV x) (by simp [bytesV, hx])
    rw [Addr.add_none, Nat.zero_add] at hc
    refine ⟨g, rfl, hc, ?_⟩
    simp [World.frozen?, hg]
set_option maxHeartbeats 1000000 in
theorem overB_any (v : Value) (bs : List UInt8) (w : World) (hO : OwnB w v bs) (hx : bs.length ≤ 4294967296) : Calls Try.prog 35 #[v] w fun e w' => e = .returned (.tuple #[]) ∧ Kept (IsB v.ownBlock) w w' := by
  obtain ⟨ao, cap, rfl, hc1, hc2⟩ := Sl.form hO.rd
  unfold maxLen at hc2
  have HO := Lib.hid hO
  clear hO
  obtain ⟨n, hn⟩ : ∃ n, n = bs.length := ⟨_, rfl⟩
  have HN := Lib.hid hn
  rw [← hn] at HO hx hc1 ⊢
  clear hn
  go_enter Try.func35, Try.ntmps35
  go_wp2_with fail
  go_loopw [2] (fun i wr => ∃ (k : Nat) (cs : List UInt8), i = .int .i64 k ∧ k ≤ n ∧ n = cs.length ∧ OwnB wr (.slice ao n cap) cs ∧ Kept (IsB (Value.slice ao n cap).ownBlock) w wr) (fun i _ => (n - intOf i).toNat)
  case atStart => exact ⟨0, bs, rfl, by omega, HN.out, HO.out, Kept.refl _ _⟩
  case round =>
    obtain ⟨k, cs, rfl, hk, hcl, ho, hkw⟩ := hrel
    by_cases hlt : k < n
    · obtain ⟨x, hx⟩ := some_at cs (by omega : k < cs.length)
      obtain ⟨g, rfl, c0, f0⟩ := ho.head hx
      unfold byteV at c0
      have t0 : decide ((k : Int) < n) = true := by simp; omega
      have HH := Lib.hid ho
      have HCL := Lib.hid hcl
      clear ho hx hcl
      go_wp2_with fail
      refine ⟨⟨k + 1, cs.set k (x ^^^ 165), by go_num, by omega, by rw [List.length_set]; exact HCL.out, ?_, ?_⟩, by simp [intOf]; omega⟩
      · rw [xor_byte]
        exact OwnB.stored HH.out HCL.out k _
      · exact hkw.setCell (p := ⟨g, k, none⟩) (.inr rfl) _
    · have t0 : decide ((k : Int) < n) = false := by simp; omega
      go_wp2_with fail
      go_end0
      exact ⟨rfl, hkw⟩
end Go.Proofs.Ytpagolhlbceegaa
