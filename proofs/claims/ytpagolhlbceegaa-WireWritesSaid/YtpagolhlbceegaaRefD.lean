/- Bytes that are lent, kept and written over: the kit's helpers. -/
import Derived.Test.YtpagolhlbceegaaRefA
import Derived.Deep.RegionHeld
namespace Go.Proofs.Ytpagolhlbceegaa
open Go.RowKit

def lentTail : List UInt8 := [201, 202, 203, 204]
def LentPost (w : World) (xs : List UInt8) (e : Ending) (w' : World) : Prop :=
  ∃ a c, e = .returned (.slice a xs.length c) ∧ OwnB w' (.slice a (xs.length + 4) c) (xs ++ lentTail) ∧ Kept NoS w w' ∧ (∀ k, (Value.slice a (xs.length + 4) c).ownBlock = some k → w.heap.size ≤ k)
theorem OwnB.shapeN {w : World} {v : Value} {bs : List UInt8} (h : OwnB w v bs) (n : Nat) (hn : n = bs.length) : ∃ a c, v = .slice a n c ∧ n ≤ c ∧ c ≤ maxLen := by
  subst hn
  exact Sl.form h.rd
set_option maxRecDepth 100000 in
set_option maxHeartbeats 1000000 in
theorem lent_any (b : Value) (xs : List UInt8) (w : World) (hB : RdB w b xs) (hx : xs.length ≤ 4294967296) : Calls Try.prog 19 #[b] w (LentPost w xs) := by
  obtain ⟨ao, cap, rfl⟩ := hB.form
  have ho0 : OwnB (w.alloc (.cells #[] 5)) (.slice (some ⟨w.heap.size, 0, none⟩) 0 0) [] := World.ownsRow_made w #[] 0 (Nat.zero_le _) (Nat.zero_le _) rfl
  have hs := RdB.src (hB.keptN ((Kept.refl NoS w).alloc (.cells #[] 5)))
  have hn1 : ([] : List UInt8).length + xs.length ≤ 70368744177664 := by simp; omega
  clear hB
  go_enter Try.func19, Try.ntmps19
  go_wp2_with (first | (at_builtin; refine wpList_appB rfl (.tmp 4) (.tmp 5) _ rfl (.slice (some ⟨w.heap.size, 0, none⟩) 0 0) [] rfl ho0 _ xs rfl hs ?_ ?_; rotate_left; intro v1 w1 ho1 hg1) | (at_builtin; refine wpList_appB rfl (.tmp 6) (.tmp 7) _ rfl v1 xs rfl (ho1.alloc _) _ lentTail rfl (RdB.src (ownB_lit w1 lentTail _ 4 rfl rfl (by decide)).rd) ?_ ?_; rotate_left; intro v2 w2 ho2 hg2; obtain ⟨a2, c2, hv2, hc1, hc2⟩ := OwnB.shapeN ho2 (xs.length + 4) (by simp [lentTail]); subst hv2; have HO := Lib.hid ho2; clear ho2; unfold maxLen at hc2))
  · obtain ⟨hk1, hf1⟩ := Grew.fresh ((Kept.refl NoS w).alloc (.cells #[] 5)) (fun k hk => by simp [Value.ownBlock] at hk; omega) hg1
    obtain ⟨hk2, hf2⟩ := Grew.fresh (hk1.alloc _) hf1 hg2
    go_ret
    exact ⟨a2, c2, rfl, HO.out, hk2, hf2⟩
  · simp [lentTail]; omega
  · simp; omega
theorem kept_str (xs : List UInt8) : Hid (((xs ++ lentTail).drop xs.length).take 4 = lentTail) := by
  show _ = _
  rw [List.drop_left]
  rfl
theorem RdB.full {w : World} {a : Option Addr} {n c : Nat} {xs ys : List UInt8} (h : RdB w (.slice a n c) (xs ++ ys)) (hn : n = (xs ++ ys).length) : RdB w (.slice a xs.length c) xs := by
  subst hn
  have := RdB.piece h 0 xs.length (by simp) a (by split <;> cases a <;> simp [Addr.add]; all_goals (try (split <;> simp_all)))
  rw [List.drop_zero, List.take_left] at this
  exact this
set_option maxRecDepth 100000 in
set_option maxHeartbeats 2000000 in
theorem keptB_any (a : Option Addr) (c : Nat) (b : Value) (xs : List UInt8) (w : World) (hO : OwnB w (.slice a (xs.length + 4) c) (xs ++ lentTail)) (hB : RdB w b xs) (hx : xs.length ≤ 4294967296) : Calls Try.prog 23 #[.slice a xs.length c, b] w (RetTrue w) := by
  obtain ⟨bo, bcap, rfl⟩ := hB.form
  obtain ⟨g, rfl⟩ : ∃ g, a = some ⟨g, 0, none⟩ := by
    rcases hO.2 with ⟨h, _⟩ | ⟨g, cap, cur, h, _⟩
    · injection h with h1 h2 h3
      omega
    · injection h with h1 h2 h3
      exact ⟨g, h1⟩
  obtain ⟨a', c', e, hc1, hc2⟩ := OwnB.shapeN hO (xs.length + 4) (by simp [lentTail])
  obtain rfl : c = c' := by injection e
  unfold maxLen at hc2
  have hr : RdB w (.slice (some ⟨g, 0, none⟩) (xs.length + 4) c) (xs ++ lentTail) := hO.rd
  have hne : ¬ c = xs.length := by omega
  have hp : RdB w (.slice (some ((⟨g, 0, none⟩ : Addr).add xs.length)) 4 (c - xs.length)) lentTail := by
    have := RdB.piece (bs := xs ++ lentTail) (by rw [show (xs ++ lentTail).length = xs.length + 4 by simp [lentTail]]; exact hr) xs.length 4 (by simp [lentTail]) (some ((⟨g, 0, none⟩ : Addr).add xs.length)) (by rw [if_neg hne]; rfl)
    rw [(kept_str xs).out] at this
    exact this
  rw [Addr.add_none, Nat.zero_add] at hp
  have hr1 := hr.full (xs := xs) (ys := lentTail) (by simp [lentTail])
  have hl4 := (ownB_lit w lentTail _ 4 rfl rfl (by decide)).rd
  have HC : Hid (∀ w', Kept NoS w w' → (convert 28 9 (.slice (some ⟨g, 0, none⟩) xs.length c)).run Try.prog w' = .ok (.string ⟨xs.toArray⟩) w' ∧ (convert 28 9 (.slice bo xs.length bcap)).run Try.prog w' = .ok (.string ⟨xs.toArray⟩) w' ∧
      (convert 28 9 (.slice (some ⟨g, xs.length, none⟩) (((xs.length : Int) + 4).toNat - xs.length) (c - xs.length))).run Try.prog w' = .ok (.string ⟨lentTail.toArray⟩) w') := fun w' hk => ⟨(hr1.keptN hk).conv, (hB.keptN hk).conv, by rw [show ((xs.length : Int) + 4).toNat - xs.length = 4 by omega]; exact (hp.keptN hk).conv⟩
  have hv0 := HC.out _ ((Kept.refl NoS w).drew)
  have hv1 := HC.out _ (((Kept.refl NoS w).alloc (.cells #[.int .u8 201, .int .u8 202, .int .u8 203, .int .u8 204] 5)).drew)
  have hv4 : (convert 28 9 (.slice (some ⟨w.heap.size, 0, none⟩) 4 4)).run Try.prog (w.alloc (.cells #[.int .u8 201, .int .u8 202, .int .u8 203, .int .u8 204] 5)).drew = .ok (.string ⟨lentTail.toArray⟩) (w.alloc (.cells #[.int .u8 201, .int .u8 202, .int .u8 203, .int .u8 204] 5)).drew := (hl4.keptN ((Kept.refl _ _).drew)).conv
  have t0 : decide ((c : Int) ≥ xs.length + 4) = true := by simp; omega
  have b1 : IntKind.i64.wrap ((xs.length : Int) + 4) = xs.length + 4 := by rw [IntKind.wrap_i64]; omega
  clear hp hr hO hB hr1 hl4
  have t1 : (0 : Int) ≤ xs.length := by omega
  have t2 : (xs.length : Int) ≤ (xs.length : Int) + 4 := by omega
  have t3 : (xs.length : Int) + 4 ≤ (c : Int) := by omega
  go_enter Try.func23, Try.ntmps23
  go_wp2_with fail
  go_region_held (fun w' => (convert 28 9 (.slice (some ⟨g, 0, none⟩) xs.length c)).run Try.prog w' = .ok (.string ⟨xs.toArray⟩) w' ∧ (convert 28 9 (.slice bo xs.length bcap)).run Try.prog w' = .ok (.string ⟨xs.toArray⟩) w' ∧
      (convert 28 9 (.slice (some ⟨g, xs.length, none⟩) (((xs.length : Int) + 4).toNat - xs.length) (c - xs.length))).run Try.prog w' = .ok (.string ⟨lentTail.toArray⟩) w') (first | exact hv0 | exact hv1) ((fail))
  all_goals
    go_wp2
    go_ret
    exact ⟨rfl, ((Kept.refl NoS w).alloc _).drew⟩
theorem OwnB.stored {w : World} {g n cap : Nat} {bs : List UInt8} (h : OwnB w (.slice (some ⟨g, 0, none⟩) n cap) bs) (hn : n = bs.length) (k : Nat) (y : UInt8) : OwnB (w.setCell ⟨g, k, none⟩ (byteV y)) (.slice (some ⟨g, 0, none⟩) n cap) (bs.set k y) := by
  subst hn
  unfold OwnB at h ⊢
  have := (World.ownsRow.stored h k (byteV y)).1
  rw [List.length_set]
  unfold bytesV at this ⊢
  rw [List.map_set]
  exact this
theorem OwnB.head {w : World} {a : Option Addr} {n cap : Nat} {bs : List UInt8} (h : OwnB w (.slice a n cap) bs) {k : Nat} {x : UInt8} (hx : bs[k]? = some x) : ∃ g, a = some ⟨g, 0, none⟩ ∧ w.cell? ⟨g, k, none⟩ = some (byteV x) ∧ w.frozen? ⟨g, k, none⟩ = false := by
  have hk := (List.getElem?_eq_some_iff.1 hx).1
  rcases h.2 with ⟨e, e2⟩ | ⟨g, cap', cur, e, _, hg, _⟩
  · have hl : bs.length = 0 := e2
    omega
  · cases e
    have hc := h.cells (g := g) rfl k (byteV x) (by simp [bytesV, hx])
    rw [Addr.add_none, Nat.zero_add] at hc
    refine ⟨g, rfl, hc, ?_⟩
    simp [World.frozen?, hg]
end Go.Proofs.Ytpagolhlbceegaa
