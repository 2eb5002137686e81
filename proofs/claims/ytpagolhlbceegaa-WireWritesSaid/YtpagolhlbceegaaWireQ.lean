/- A digest read. -/
import Derived.Test.YtpagolhlbceegaaWireP
namespace Go.Proofs.Ytpagolhlbceegaa
open Go.RowKit

def rdID (bs : List UInt8) (s : RSt) : List UInt8 × RSt := (if (rdTake bs s 32 (rdPlace s)).1.length = 32 then (rdTake bs s 32 (rdPlace s)).1 else List.replicate 32 0, (rdTake bs s 32 (rdPlace s)).2)
theorem rdTake_len (bs : List UInt8) (s : RSt) (n : Nat) (a : Int) : (rdTake bs s n a).1.length = n ∨ (rdTake bs s n a).1 = [] := by
  unfold rdTake
  split
  · split
    · exact .inr rfl
    · left; simp only [List.length_take, List.length_drop]; omega
  · exact .inr rfl
def IDPost (w : World) (r q : Nat) (v : Value) (bs : List UInt8) (x : List UInt8 × RSt) (e : Ending) (w' : World) : Prop :=
  e = .returned (.agg (bytesV x.1).toArray) ∧ x.1.length = 32 ∧ RdAt w' r q v bs x.2 ∧ Kept (RdS r q) w w'
theorem copy_id (w : World) (g : Nat) (v : Value) (t : TypeId) (ds : List UInt8) (hg : Blk w g (bytesV (List.replicate 32 0)).toArray t) (hv : RdB w v ds) (hl : ds.length = 32 ∨ ds = []) :
    ∃ n w', (Builtin.copy_ #[28, 28] 3 #[.slice (some ⟨g, 0, none⟩) 32 32, v]).run Try.prog w = .ok (goInt n) w' ∧ Blk w' g (bytesV (if ds.length = 32 then ds else List.replicate 32 0)).toArray t ∧ Kept (AtB g) w w' := by
  have hsz : (Try.prog.info? 5).map (·.size) = some 1 := by kernel_rfl
  rcases hl with hl | rfl
  · rw [if_pos hl]
    rcases hv with ⟨_, h2, _⟩ | ⟨b, off, cap, rfl, h2, h3, h4⟩
    · omega
    · have hrun := run_copy_row (P := Try.prog) w 28 28 3 5 g 0 32 32 ⟨b, off, none⟩ ds.length cap (bytesV (List.replicate 32 0)).toArray t (bytesV ds) Try.underlying28 hsz hg
        (by rw [bytesV_length, hl]; rfl) (fun j v hj => by rw [Addr.add_none]; exact h4 j v hj) (by rw [List.size_toArray, bytesV_length, bytesV_length, hl]; simp) (bytesV_one ds)
      have hL : (bytesV (List.replicate 32 0)).toArray.toList.drop (0 + (bytesV ds).length) = [] := List.drop_eq_nil_of_le (by simp [bytesV, hl])
      rw [hL, List.take_zero, List.nil_append, List.append_nil] at hrun
      exact ⟨_, _, hrun, setRow_heap w g _ (bytesV ds).toArray t _ hg, ⟨rfl, rfl, rfl, by simp, fun k hk hn => setRow_other w g k _ (fun e => hn e)⟩⟩
  · obtain ⟨ao, cap, rfl⟩ := hv.form
    have hrun := run_copy_none (P := Try.prog) w 28 28 3 5 (some ⟨g, 0, none⟩) ao 32 32 0 cap Try.underlying28 hsz rfl
    exact ⟨0, w, hrun, hg, Kept.refl _ _⟩
set_option maxRecDepth 100000 in
set_option maxHeartbeats 1000000 in
theorem rID_any (r q : Nat) (v : Value) (bs : List UInt8) (s : RSt) (w : World) (h : RdAt w r q v bs s) (hb : bs.length ≤ 4294967296) : Calls Try.prog 42 #[.pointer (some ⟨r, 0, none⟩)] w (IDPost w r q v bs (rdID bs s)) := by
  have HT : Hid (∀ w, RdAt w r q v bs s → Calls Try.prog 58 #[.pointer (some ⟨r, 0, none⟩), .int .i64 32, .int .i64 (rdPlace s)] w (TakePost w r q v bs (rdTake bs s 32 (rdPlace s)))) := fun w h => rTake_any r q v bs s 32 (rdPlace s) w h hb (by decide) (by decide)
  have hlen := rdTake_len bs s 32 (rdPlace s)
  have HF : Hid (rdID bs s = (if (rdTake bs s 32 (rdPlace s)).1.length = 32 then (rdTake bs s 32 (rdPlace s)).1 else List.replicate 32 0, (rdTake bs s 32 (rdPlace s)).2)) := (rfl : rdID bs s = _)
  have hlt := h.lt
  have h0 := Lib.hid (h.keptN ((Kept.refl NoS w).alloc (.cells (bytesV (List.replicate 32 0)).toArray 40)))
  have H := Lib.hid h
  clear h
  generalize rdID bs s = R at *
  generalize rdTake bs s 32 (rdPlace s) = T at *
  go_enter Try.func42, Try.ntmps42
  go_wp2_with fail
  generalize hZ : (#[.int .u8 0, .int .u8 0, .int .u8 0, .int .u8 0, .int .u8 0, .int .u8 0, .int .u8 0, .int .u8 0, .int .u8 0, .int .u8 0, .int .u8 0, .int .u8 0, .int .u8 0, .int .u8 0, .int .u8 0, .int .u8 0, .int .u8 0, .int .u8 0, .int .u8 0, .int .u8 0, .int .u8 0, .int .u8 0, .int .u8 0, .int .u8 0, .int .u8 0, .int .u8 0, .int .u8 0, .int .u8 0, .int .u8 0, .int .u8 0, .int .u8 0, .int .u8 0] : Array Value) = Z
  have hzb : Z = (bytesV (List.replicate 32 0)).toArray := by rw [← hZ]; kernel_rfl
  clear hZ
  subst hzb
  have hbn : Hid (∀ w', Kept NoS (w.alloc (.cells (bytesV (List.replicate 32 0)).toArray 40)) w' → Blk w' w.heap.size (bytesV (List.replicate 32 0)).toArray 40) := fun w' hk => (Blk.new w _ _).kept hk fun e => e
  have hnr : Hid (¬ RdS r q w.heap.size) := fun e => by
    have h1 := hlt r (.inl rfl)
    have h2 := hlt q (.inr (.inl rfl))
    rcases e with e | e <;> omega
  replace hlen := Lib.hid hlen
  go_region_with (first | (go_at_call 57; refine (rPlace_any r q v bs s _ (h0.out.keptN (by first | exact (Kept.refl _ _).drew | exact Kept.refl _ _))).mono ?_; rintro e w' ⟨rfl, rfl⟩) | (go_at_call 58; refine (HT.out _ (h0.out.keptN (by first | exact (Kept.refl _ _).drew | exact Kept.refl _ _))).mono ?_; rintro e w2 ⟨v2, rfl, ho2, h2, hk2, hn2⟩; obtain ⟨nc, w3, hcp, hb3, hk3⟩ := copy_id w2 w.heap.size v2 40 T.1 ((hbn.out _ (by first | exact (Kept.refl _ _).drew | exact Kept.refl _ _)).kept hk2 hnr.out) ho2.rd hlen.out))
  have hR1 : R.1 = if T.1.length = 32 then T.1 else List.replicate 32 0 := by rw [HF.out]
  have hR2 : R.2 = T.2 := by rw [HF.out]
  rw [← hR1] at hb3
  rw [← hR2] at h2
  have hlr : R.1.length = 32 := by rw [hR1]; split <;> simp_all
  have hzs : (bytesV R.1).toArray.size = 32 := by rw [List.size_toArray, bytesV_length, hlr]
  have hz1 : (bytesV R.1).toArray.all (·.oneCell') = true := all_oneCell_toArray (bytesV_one _)
  clear hR1 hR2 HF
  have HZ := Lib.hid hzs
  have HZ1 := Lib.hid hz1
  have HL := Lib.hid hlr
  clear hzs hz1 hlr
  go_wp2_with (first | (refine wpList_load_row rfl 40 (.tmp 2) rfl w.heap.size rfl _ _ (0, 0) _ hb3 Try.underlying40 rfl (by rw [HZ.out]; kernel_rfl) ?_) | (refine wpList_storeBlk rfl 40 (.tmp 2) (.tmp 9) rfl w.heap.size _ _ 40 rfl rfl hb3 (by rw [HZ.out]; kernel_rfl) rfl HZ1.out ?_; intro w4 hb4 hk4))
  refine bodyPost_ret (v := .agg (bytesV R.1).toArray) (results_cell_row (P := Try.prog) rfl _ _ w.heap.size 40 _ (0, 0) _ rfl hb4 Try.underlying40 rfl (by rw [HZ.out]; kernel_rfl)) rfl ?_
  have hk34 := hk3.trans hk4
  refine ⟨rfl, HL.out, h2.kept hk34 fun k hk e => ?_, ?_⟩
  · have := hlt k hk
    unfold AtB at e
    omega
  · exact Kept.step (S := RdS r q) ((((Kept.refl (RdS r q) w).alloc _).drew).trans hk2) hk34 fun k hk e => by unfold AtB at e; omega
end Go.Proofs.Ytpagolhlbceegaa
