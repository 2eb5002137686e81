/- A writer and a reader that are nil, or that nobody made. -/
import Derived.Test.YtpagolhlbceegaaWireL
import Derived.Laws.CopyOwn
namespace Go.Proofs.Ytpagolhlbceegaa
open Go.RowKit

/-- Nobody made it: nil, or a first field that is nil. -/
def Inv (w : World) (v : Value) : Prop := v = .pointer none ∨ ∃ p, v = .pointer (some ⟨p, 0, none⟩) ∧ w.cell? ⟨p, 0, none⟩ = some (.pointer none)
theorem Inv.keptN {w w' : World} {v : Value} (h : Inv w v) (hk : Kept NoS w w') : Inv w' v := by
  rcases h with h | ⟨p, h, hc⟩
  · exact .inl h
  · exact .inr ⟨p, h, (World.cell?_of_block (w := w) (hk.block p (World.block_lt_of_cell? w ⟨p, 0, none⟩ hc) fun e => e)).trans hc⟩
set_option maxHeartbeats 400000 in
theorem invWriter (v : Value) (w : World) (h : Inv w v) : Calls Try.prog 50 #[v] w fun e w' => e = .returned (.bool true) ∧ w = w' := by
  rcases h with rfl | ⟨p, rfl, hc⟩
  all_goals
    go_enter Try.func50, Try.ntmps50
    go_wp2
    go_ret
    exact ⟨rfl, rfl⟩
set_option maxHeartbeats 400000 in
theorem invReader (v : Value) (w : World) (h : Inv w v) : Calls Try.prog 54 #[v] w fun e w' => e = .returned (.bool true) ∧ w = w' := by
  rcases h with rfl | ⟨p, rfl, hc⟩
  all_goals
    go_enter Try.func54, Try.ntmps54
    go_wp2
    go_ret
    exact ⟨rfl, rfl⟩
def RetV (w : World) (v : Value) (e : Ending) (w' : World) : Prop := e = .returned v ∧ Kept NoS w w'
set_option maxHeartbeats 400000 in
theorem inv_put (v : Value) (x : Value) (w : World) (h : Inv w v) : Calls Try.prog 49 #[v, x] w (RetV w (.int .i64 1)) := by
  go_enter Try.func49, Try.ntmps49
  go_wp2_with (go_at_call 50; refine (invWriter v _ (h.keptN (by first | exact Kept.refl _ _ | exact (Kept.refl NoS w).alloc _))).mono ?_; rintro e w' ⟨rfl, rfl⟩)
  go_ret
  exact ⟨rfl, by first | exact Kept.refl _ _ | exact (Kept.refl NoS w).alloc _⟩
set_option maxHeartbeats 400000 in
theorem inv_wNum (v : Value) (n : Int) (w : World) (h : Inv w v) : Calls Try.prog 10 #[v, .int .i64 n] w (RetV w (.int .i64 1)) := by
  go_enter Try.func10, Try.ntmps10
  go_wp2_with (go_at_call 49; refine (inv_put v _ _ (h.keptN (by first | exact Kept.refl _ _ | exact (Kept.refl NoS w).alloc _))).mono ?_; rintro e w1 ⟨rfl, hk1⟩)
  go_ret
  exact ⟨rfl, by first | exact hk1 | exact new_kept _ hk1⟩
set_option maxHeartbeats 400000 in
theorem inv_wText (v : Value) (s : ByteArray) (w : World) (h : Inv w v) : Calls Try.prog 9 #[v, .string s] w (RetV w (.int .i64 1)) := by
  go_enter Try.func9, Try.ntmps9
  go_wp2_with (go_at_call 49; refine (inv_put v _ _ (h.keptN (by first | exact Kept.refl _ _ | exact (Kept.refl NoS w).alloc _))).mono ?_; rintro e w1 ⟨rfl, hk1⟩)
  go_ret
  exact ⟨rfl, by first | exact hk1 | exact new_kept _ hk1⟩
set_option maxHeartbeats 400000 in
theorem inv_wBytes (v : Value) (x : Value) (w : World) (h : Inv w v) : Calls Try.prog 20 #[v, x] w (RetV w (.int .i64 1)) := by
  go_enter Try.func20, Try.ntmps20
  go_wp2_with (go_at_call 49; refine (inv_put v _ _ (h.keptN (by first | exact Kept.refl _ _ | exact (Kept.refl NoS w).alloc _))).mono ?_; rintro e w1 ⟨rfl, hk1⟩)
  go_ret
  exact ⟨rfl, by first | exact hk1 | exact new_kept _ hk1⟩
set_option maxHeartbeats 400000 in
theorem inv_wDot (v : Value) (r n : Int) (w : World) (h : Inv w v) : Calls Try.prog 26 #[v, .agg #[.int .i64 r, .int .i64 n]] w (RetV w (.int .i64 1)) := by
  go_enter Try.func26, Try.ntmps26
  go_wp2_with (go_at_call 49; refine (inv_put v _ _ (h.keptN (by first | exact Kept.refl _ _ | exact (Kept.refl NoS w).alloc _))).mono ?_; rintro e w1 ⟨rfl, hk1⟩)
  go_ret
  exact ⟨rfl, by first | exact hk1 | exact new_kept _ hk1⟩
set_option maxHeartbeats 400000 in
theorem inv_wVector (v : Value) (x : Value) (w : World) (h : Inv w v) : Calls Try.prog 28 #[v, x] w (RetV w (.int .i64 1)) := by
  go_enter Try.func28, Try.ntmps28
  go_wp2_with (go_at_call 49; refine (inv_put v _ _ (h.keptN (by first | exact Kept.refl _ _ | exact (Kept.refl NoS w).alloc _))).mono ?_; rintro e w1 ⟨rfl, hk1⟩)
  go_ret
  exact ⟨rfl, by first | exact hk1 | exact new_kept _ hk1⟩
set_option maxHeartbeats 400000 in
theorem inv_wBool (v : Value) (b : Bool) (w : World) (h : Inv w v) : Calls Try.prog 30 #[v, .bool b] w (RetV w (.int .i64 1)) := by
  go_enter Try.func30, Try.ntmps30
  go_wp2_with (go_at_call 49; refine (inv_put v _ _ (h.keptN (by first | exact Kept.refl _ _ | exact (Kept.refl NoS w).alloc _))).mono ?_; rintro e w1 ⟨rfl, hk1⟩)
  go_ret
  exact ⟨rfl, by first | exact hk1 | exact new_kept _ hk1⟩
set_option maxHeartbeats 400000 in
theorem inv_wID (v : Value) (cs : Array Value) (hs : cs.size = 32) (w : World) (h : Inv w v) : Calls Try.prog 24 #[v, .agg cs] w (RetV w (.int .i64 1)) := by
  go_enter Try.func24, Try.ntmps24
  go_wp2_with (first | (go_at_call 49; refine (inv_put v _ _ (h.keptN (by first | exact Kept.refl _ _ | exact (Kept.refl NoS w).alloc _))).mono ?_; rintro e w1 ⟨rfl, hk1⟩) | (refine wpList_load_row rfl 40 (.tmp 3) rfl _ rfl _ cs (0, 0) _ (Blk.new w _ _) Try.underlying40 rfl (by rw [hs]; kernel_rfl) ?_))
  go_ret
  exact ⟨rfl, new_kept _ hk1⟩
set_option maxHeartbeats 400000 in
theorem inv_wLen (v : Value)  (w : World) (h : Inv w v) : Calls Try.prog 34 #[v] w (RetV w (.int .i64 0)) := by
  go_enter Try.func34, Try.ntmps34
  go_wp2_with (go_at_call 50; refine (invWriter v _ (h.keptN (by first | exact Kept.refl _ _ | exact (Kept.refl NoS w).alloc _))).mono ?_; rintro e w' ⟨rfl, rfl⟩)
  go_ret
  exact ⟨rfl, by first | exact Kept.refl _ _ | exact (Kept.refl NoS w).alloc _⟩
set_option maxHeartbeats 400000 in
theorem inv_wDone (v : Value)  (w : World) (h : Inv w v) : Calls Try.prog 11 #[v] w (RetV w (.tuple #[.slice none 0 0, .int .i64 1])) := by
  go_enter Try.func11, Try.ntmps11
  go_wp2_with (go_at_call 50; refine (invWriter v _ (h.keptN (by first | exact Kept.refl _ _ | exact (Kept.refl NoS w).alloc _))).mono ?_; rintro e w' ⟨rfl, rfl⟩)
  go_ret2
  exact ⟨rfl, by first | exact Kept.refl _ _ | exact (Kept.refl NoS w).alloc _⟩
set_option maxRecDepth 100000 in
set_option maxHeartbeats 400000 in
theorem inv_rNum (v : Value)  (w : World) (h : Inv w v) : Calls Try.prog 39 #[v] w (RetV w (.int .i64 0)) := by
  go_enter Try.func39, Try.ntmps39
  go_wp2_with (go_at_call 54; refine (invReader v _ (h.keptN (by first | exact Kept.refl _ _ | exact (Kept.refl NoS w).alloc _))).mono ?_; rintro e w' ⟨rfl, rfl⟩)
  go_ret
  exact ⟨rfl, by first | exact Kept.refl _ _ | exact (Kept.refl NoS w).alloc _⟩
set_option maxHeartbeats 400000 in
theorem inv_rPlace (v : Value)  (w : World) (h : Inv w v) : Calls Try.prog 57 #[v] w (RetV w (.int .i64 0)) := by
  go_enter Try.func57, Try.ntmps57
  go_wp2_with (go_at_call 54; refine (invReader v _ (h.keptN (by first | exact Kept.refl _ _ | exact (Kept.refl NoS w).alloc _))).mono ?_; rintro e w' ⟨rfl, rfl⟩)
  go_ret
  exact ⟨rfl, by first | exact Kept.refl _ _ | exact (Kept.refl NoS w).alloc _⟩
set_option maxHeartbeats 400000 in
theorem inv_rMany (v : Value) (most : Int) (w : World) (h : Inv w v) : Calls Try.prog 59 #[v, .int .i64 most] w (RetV w (.int .i64 0)) := by
  go_enter Try.func59, Try.ntmps59
  go_wp2_with (go_at_call 54; refine (invReader v _ (h.keptN (by first | exact Kept.refl _ _ | exact (Kept.refl NoS w).alloc _))).mono ?_; rintro e w' ⟨rfl, rfl⟩)
  go_ret
  exact ⟨rfl, by first | exact Kept.refl _ _ | exact (Kept.refl NoS w).alloc _⟩
set_option maxHeartbeats 400000 in
theorem inv_rTake (v : Value) (n a : Int) (w : World) (h : Inv w v) : Calls Try.prog 58 #[v, .int .i64 n, .int .i64 a] w (RetV w (.slice none 0 0)) := by
  go_enter Try.func58, Try.ntmps58
  go_wp2_with (go_at_call 54; refine (invReader v _ (h.keptN (by first | exact Kept.refl _ _ | exact (Kept.refl NoS w).alloc _))).mono ?_; rintro e w' ⟨rfl, rfl⟩)
  go_ret
  exact ⟨rfl, by first | exact Kept.refl _ _ | exact (Kept.refl NoS w).alloc _⟩
set_option maxHeartbeats 400000 in
theorem inv_rRest (v : Value)  (w : World) (h : Inv w v) : Calls Try.prog 38 #[v] w (RetV w (.int .i64 0)) := by
  go_enter Try.func38, Try.ntmps38
  go_wp2_with (go_at_call 54; refine (invReader v _ (h.keptN (by first | exact Kept.refl _ _ | exact (Kept.refl NoS w).alloc _))).mono ?_; rintro e w' ⟨rfl, rfl⟩)
  go_ret
  exact ⟨rfl, by first | exact Kept.refl _ _ | exact (Kept.refl NoS w).alloc _⟩
set_option maxHeartbeats 400000 in
theorem inv_rBytes (v : Value) (most : Int) (w : World) (h : Inv w v) : Calls Try.prog 41 #[v, .int .i64 most] w (RetV w (.slice none 0 0)) := by
  go_enter Try.func41, Try.ntmps41
  go_wp2_with fail
  refine (inv_rPlace v w h).mono ?_
  rintro e w1 ⟨rfl, hk1⟩
  go_wp2_with fail
  refine (inv_rMany v most w1 (h.keptN hk1)).mono ?_
  rintro e w2 ⟨rfl, hk2⟩
  go_wp2_with fail
  refine (inv_rTake v 0 0 w2 (h.keptN (hk1.trans hk2))).mono ?_
  rintro e w3 ⟨rfl, hk3⟩
  go_wp2_with fail
  go_ret
  exact ⟨rfl, (hk1.trans hk2).trans hk3⟩
set_option maxHeartbeats 400000 in
theorem inv_rText (v : Value) (most : Int) (w : World) (h : Inv w v) : Calls Try.prog 40 #[v, .int .i64 most] w (RetV w (.string ⟨#[]⟩)) := by
  go_enter Try.func40, Try.ntmps40
  go_wp2_with fail
  refine (inv_rBytes v most w h).mono ?_
  rintro e w1 ⟨rfl, hk1⟩
  have hcv := (OwnB.nil w1).rd.conv
  go_wp2_with fail
  go_ret
  exact ⟨rfl, hk1⟩
set_option maxHeartbeats 400000 in
theorem inv_rBool (v : Value) (w : World) (h : Inv w v) : Calls Try.prog 45 #[v] w (RetV w (.bool false)) := by
  go_enter Try.func45, Try.ntmps45
  go_wp2_with fail
  refine (inv_rPlace v w h).mono ?_
  rintro e w1 ⟨rfl, hk1⟩
  go_wp2_with fail
  refine (inv_rNum v w1 (h.keptN hk1)).mono ?_
  rintro e w2 ⟨rfl, hk2⟩
  go_wp2_with fail
  go_ret
  exact ⟨rfl, hk1.trans hk2⟩
set_option maxHeartbeats 400000 in
theorem inv_rVector (v : Value) (most : Int) (w : World) (h : Inv w v) : Calls Try.prog 44 #[v, .int .i64 most] w (RetV w (.slice none 0 0)) := by
  go_enter Try.func44, Try.ntmps44
  go_wp2_with fail
  refine (inv_rMany v most w h).mono ?_
  rintro e w1 ⟨rfl, hk1⟩
  go_wp2_with fail
  refine wp_loop_rounds 1 ?_
  rw [rounds_succ]
  go_wp2_with (go_at_call 54; refine (invReader v _ (h.keptN hk1)).mono ?_; rintro e w' ⟨rfl, rfl⟩)
  go_ret
  exact ⟨rfl, hk1⟩
set_option maxHeartbeats 400000 in
theorem inv_rPlaceS (v : Value) (w : World) (h : Inv w v) : Calls Try.prog 57 #[v] w fun e w' => e = .returned (.int .i64 0) ∧ w' = w := by
  go_enter Try.func57, Try.ntmps57
  go_wp2_with (go_at_call 54; refine (invReader v _ h).mono ?_; rintro e w' ⟨rfl, rfl⟩)
  go_ret
  exact ⟨rfl, rfl⟩
set_option maxHeartbeats 400000 in
theorem inv_rTakeS (v : Value) (n a : Int) (w : World) (h : Inv w v) : Calls Try.prog 58 #[v, .int .i64 n, .int .i64 a] w fun e w' => e = .returned (.slice none 0 0) ∧ w' = w := by
  go_enter Try.func58, Try.ntmps58
  go_wp2_with (go_at_call 54; refine (invReader v _ h).mono ?_; rintro e w' ⟨rfl, rfl⟩)
  go_ret
  exact ⟨rfl, rfl⟩
/-- A whole array or struct into a block that is known whole. -/
theorem wpList_storeBlk {P : Program} {w : World} {ops : Array Oper} {rest : List Oper} {o : Oper} {a : Act} {Q : Exit → Act → World → Prop} (hgd : o.guard = none) (ty : TypeId) (x y : Operand) (ho : o.op = .store ty x y)
    (b : Nat) (vs c' : Array Value) (t : TypeId) (hx : a.eval x = .pointer (some ⟨b, 0, none⟩)) (hy : a.eval y = .agg c') (hb : Blk w b vs t) (hi : (P.info? ty).map (·.size) = some c'.size) (hs : vs.size = c'.size) (h1 : c'.all (·.oneCell') = true)
    (h : ∀ w', Blk w' b c' t → Kept (AtB b) w w' → wpList P ops Q rest (a.put o.dst undef) w') : wpList P ops Q (o :: rest) a w :=
  wpList_plain hgd fun K hK => by
    unfold Oper.wp execOp
    simp only [ho, hx, hy, Instr.storeAt, Instr.sureAddr, Sem.run_bind, Sem.run_pure, Result.andThen_ok, run_storeVar_row w b t ty vs c' hb hi hs h1]
    exact hK _ _ (h _ (setRow_heap w b vs c' t _ hb) ⟨rfl, rfl, rfl, by simp, fun k hk hn => setRow_other w b k c' (fun e => hn e)⟩)
def zeroID : Value := .agg (bytesV (List.replicate 32 0)).toArray
set_option maxRecDepth 100000 in
set_option maxHeartbeats 400000 in
theorem inv_rID (v : Value) (w : World) (h : Inv w v) : Calls Try.prog 42 #[v] w (RetV w zeroID) := by
  go_enter Try.func42, Try.ntmps42
  go_wp2_with fail
  generalize hZ : (#[.int .u8 0, .int .u8 0, .int .u8 0, .int .u8 0, .int .u8 0, .int .u8 0, .int .u8 0, .int .u8 0, .int .u8 0, .int .u8 0, .int .u8 0, .int .u8 0, .int .u8 0, .int .u8 0, .int .u8 0, .int .u8 0, .int .u8 0, .int .u8 0, .int .u8 0, .int .u8 0, .int .u8 0, .int .u8 0, .int .u8 0, .int .u8 0, .int .u8 0, .int .u8 0, .int .u8 0, .int .u8 0, .int .u8 0, .int .u8 0, .int .u8 0, .int .u8 0] : Array Value) = Z
  have hsz : Z.size = 32 := by rw [← hZ]; rfl
  have hzb : Z = (bytesV (List.replicate 32 0)).toArray := by rw [← hZ]; kernel_rfl
  have hz1 : Z.all (·.oneCell') = true := by rw [hzb]; exact all_oneCell_toArray (bytesV_one _)
  have HB := Lib.hid hzb
  clear hzb
  have HZ := Lib.hid hZ
  have HZ1 := Lib.hid hz1
  clear hZ hz1
  refine region_tail 5 (by kernel_rfl) (by kernel_rfl) ?_; simp only [List.take_succ_cons, List.take_zero, List.drop_succ_cons, List.drop_zero]; (repeat still_step)
  still_call (inv_rPlaceS v _ (h.keptN ((Kept.refl NoS w).alloc _).drew))
  (repeat still_step)
  still_call (inv_rTakeS v _ _ _ (h.keptN ((Kept.refl NoS w).alloc _).drew))
  (repeat still_step)
  refine wpStill_nil ?_
  refine wpList_copy_nothing rfl (.tmp 3) (.tmp 7) 28 28 rfl 5 Try.underlying28 (by kernel_rfl) _ _ _ _ _ _ rfl rfl rfl ?_
  go_wp2_with (first | (refine wpList_load_row rfl 40 (.tmp 2) rfl w.heap.size rfl _ _ (0, 0) _ (Blk.drew (Blk.new w _ _)) Try.underlying40 rfl (by rw [hsz]; kernel_rfl) ?_) | (refine wpList_storeBlk rfl 40 (.tmp 2) (.tmp 9) rfl w.heap.size Z Z 40 rfl rfl (Blk.drew (Blk.new w _ _)) (by rw [hsz]; kernel_rfl) rfl HZ1.out ?_; intro w2 hb2 hk2))
  refine bodyPost_ret (v := .agg Z) (results_cell_row (P := Try.prog) rfl _ _ w.heap.size 40 Z (0, 0) _ rfl hb2 Try.underlying40 rfl (by rw [hsz]; kernel_rfl)) rfl ?_
  refine ⟨by rw [HB.out]; exact rfl, Kept.step (((Kept.refl NoS w).alloc _).drew) hk2 fun k hk e => by unfold AtB at e; omega⟩
set_option maxHeartbeats 400000 in
theorem inv_rDot (v : Value) (w : World) (h : Inv w v) : Calls Try.prog 43 #[v] w (RetV w (.agg #[.int .i64 0, .int .i64 0])) := by
  go_enter Try.func43, Try.ntmps43
  go_wp2_with fail
  refine (inv_rNum v _ (h.keptN ((Kept.refl NoS w).alloc _))).mono ?_
  rintro e w1 ⟨rfl, hk1⟩
  have hb1 := (Blk.new w #[.int .i64 0, .int .i64 0] 42).kept hk1 (fun e => e)
  have hk1' := new_kept _ hk1
  go_wp2_with fail
  refine (inv_rNum v _ (h.keptN (hk1'.alloc _))).mono ?_
  rintro e w2 ⟨rfl, hk2⟩
  have hb2 := (Blk.new w1 #[.int .i64 0, .int .i64 0] 42).kept hk2 (fun e => e)
  have hb3 := (hb1.alloc _).kept hk2 (fun e => e)
  have hk2' := hk1'.trans (new_kept _ hk2)
  have c1 := hb2.at 1 rfl
  have f1 := hb2.free 1
  have hne : w.heap.size ≠ w1.heap.size := Nat.ne_of_lt hb1.lt
  go_wp2_with fail
  have hkk := hk2'.trans (Kept.refl NoS w2)
  have h3 : Kept NoS w (w2.setCell ⟨w1.heap.size, 1, none⟩ (.int .i64 0)) := Kept.step hk2' (Kept.setOne w2 w1.heap.size 1 _) fun k hk e => by
    unfold AtB at e
    have := hb1.lt
    omega
  have hb4 := hb3.setOther (a := ⟨w1.heap.size, 1, none⟩) hne (.int .i64 0)
  have g0 := hb4.at 0 rfl
  have g1 := hb4.at 1 rfl
  have k0 := hb4.free 0
  have k1 := hb4.free 1
  go_wp2_with (go_at_call 54; refine (invReader v _ (h.keptN h3)).mono ?_; rintro e w' ⟨rfl, rfl⟩)
  refine bodyPost_ret (v := .agg #[.int .i64 0, .int .i64 0]) (results_cell_row (P := Try.prog) rfl _ _ w.heap.size 42 #[.int .i64 0, .int .i64 0] (0, 0) _ rfl ((hb4.set 0 _).set 1 _) Try.underlying42 rfl (by kernel_rfl)) rfl ?_
  exact ⟨rfl, Kept.step h3 ((Kept.setOne _ w.heap.size 0 _).trans (Kept.setOne _ w.heap.size 1 _)) fun k hk e => by unfold AtB at e; omega⟩
set_option maxHeartbeats 400000 in
theorem inv_rEnd (v : Value) (w : World) (h : Inv w v) : Calls Try.prog 46 #[v] w (RetV w (.agg #[.int .i64 1, .int .i64 0])) := by
  rcases h with rfl | ⟨p, rfl, hc⟩
  · go_enter Try.func46, Try.ntmps46
    go_wp2_with fail
    refine bodyPost_ret (v := .agg #[.int .i64 1, .int .i64 0]) (results_cell_row (P := Try.prog) rfl _ _ w.heap.size 68 #[.int .i64 1, .int .i64 0] (0, 0) _ rfl ?_ Try.underlying68 rfl (by kernel_rfl)) rfl ?_
    · exact Blk.new w _ _
    · exact ⟨rfl, (Kept.refl NoS w).alloc _⟩
  · have hl := World.block_lt_of_cell? w ⟨p, 0, none⟩ hc
    go_enter Try.func46, Try.ntmps46
    go_wp2_with fail
    refine bodyPost_ret (v := .agg #[.int .i64 1, .int .i64 0]) (results_cell_row (P := Try.prog) rfl _ _ w.heap.size 68 #[.int .i64 1, .int .i64 0] (0, 0) _ rfl ?_ Try.underlying68 rfl (by kernel_rfl)) rfl ?_
    · exact Blk.new w _ _
    · exact ⟨rfl, (Kept.refl NoS w).alloc _⟩
end Go.Proofs.Ytpagolhlbceegaa
