/- 'WireNone', walked: the law itself. -/
import Derived.Test.YtpagolhlbceegaaWireN
import Derived.Stop.BytesEq
namespace Go.Proofs.Ytpagolhlbceegaa
open Go.RowKit

theorem wn_facts (w w0 : World) (hw0 : w0 = (((w.alloc (.cells #[.pointer none, .int .i64 0, .slice none 0 0] 74)).alloc (.cells #[.pointer none, .pointer (some ⟨w.heap.size, 0, none⟩)] 22)).alloc (.cells #[.pointer none, .slice none 0 0, .int .i64 0] 77)).alloc (.cells #[.pointer none, .pointer (some ⟨w.heap.size + 1 + 1, 0, none⟩)] 59)) : Inv w0 (.pointer (some ⟨w.heap.size, 0, none⟩)) ∧ Inv w0 (.pointer (some ⟨w.heap.size + 1 + 1, 0, none⟩)) ∧ Kept NoS w w0 ∧
    Blk w0 (w.heap.size + 1) #[.pointer none, .pointer (some ⟨w.heap.size, 0, none⟩)] 22 ∧ Blk w0 (w.heap.size + 1 + 1 + 1) #[.pointer none, .pointer (some ⟨w.heap.size + 1 + 1, 0, none⟩)] 59 := by
  subst hw0
  refine ⟨.inr ⟨_, rfl, ?_⟩, .inr ⟨_, rfl, ?_⟩, ((((Kept.refl NoS w).alloc _).alloc _).alloc _).alloc _, ?_, ?_⟩
  · exact ((((Blk.new w _ _).alloc _).alloc _).alloc _).at 0 rfl
  · exact ((Blk.newAt _ _ (by simp)).alloc _).at 0 rfl
  · exact ((Blk.newAt _ _ (by simp)).alloc _).alloc _
  · exact Blk.newAt _ _ (by simp)

theorem size_byte (w : World) : (sizeOf 5).run Try.prog w = .ok 1 w := by kernel_rfl
theorem id_eql (a b : List UInt8) (ha : a.length = 32) (hb : b.length = 32) (w : World) : (binOp .eql 40 (.agg (bytesV a).toArray) (.agg (bytesV b).toArray)).run Try.prog w = .ok (.bool (a == b)) w :=
  run_eql_bytes w 40 5 32 Try.underlying40 Try.underlying5 size_byte a b ha hb
theorem id_neq (a b : List UInt8) (ha : a.length = 32) (hb : b.length = 32) (w : World) : (binOp .neq 40 (.agg (bytesV a).toArray) (.agg (bytesV b).toArray)).run Try.prog w = .ok (.bool (!(a == b))) w := by
  have h := run_equalIn_bytes w 9998 40 5 32 Try.underlying40 Try.underlying5 size_byte a b ha hb
  rw [run_neq_struct]
  exact congrArg (fun r : Result Bool => Result.andThen r fun b w' => .ok (Value.bool (!b)) w') h
theorem id_guardT : Try.prog.eqGuardType Try.prog.depth 40 = false := by kernel_rfl
theorem id_guard (op : BinOp) (x y : Operand) (a b : Array Value) (w : World) : (eqGuard op 40 x y (.agg a) (.agg b)).run Try.prog w = .ok () w := run_eqGuard_agg w op _ x y a b id_guardT
def litID : Value := .agg #[.int .u8 0, .int .u8 0, .int .u8 0, .int .u8 0, .int .u8 0, .int .u8 0, .int .u8 0, .int .u8 0, .int .u8 0, .int .u8 0, .int .u8 0, .int .u8 0, .int .u8 0, .int .u8 0, .int .u8 0, .int .u8 0, .int .u8 0, .int .u8 0, .int .u8 0, .int .u8 0, .int .u8 0, .int .u8 0, .int .u8 0, .int .u8 0, .int .u8 0, .int .u8 0, .int .u8 0, .int .u8 0, .int .u8 0, .int .u8 0, .int .u8 0, .int .u8 0]
theorem litID_eq : litID = zeroID := by unfold litID zeroID; kernel_rfl
theorem zero_neq (w : World) : (binOp .neq 40 zeroID (.agg #[.int .u8 0, .int .u8 0, .int .u8 0, .int .u8 0, .int .u8 0, .int .u8 0, .int .u8 0, .int .u8 0, .int .u8 0, .int .u8 0, .int .u8 0, .int .u8 0, .int .u8 0, .int .u8 0, .int .u8 0, .int .u8 0, .int .u8 0, .int .u8 0, .int .u8 0, .int .u8 0, .int .u8 0, .int .u8 0, .int .u8 0, .int .u8 0, .int .u8 0, .int .u8 0, .int .u8 0, .int .u8 0, .int .u8 0, .int .u8 0, .int .u8 0, .int .u8 0])).run Try.prog w = .ok (.bool false) w := by
  have h := id_neq (List.replicate 32 0) (List.replicate 32 0) (by simp) (by simp) w
  have e : (.agg #[.int .u8 0, .int .u8 0, .int .u8 0, .int .u8 0, .int .u8 0, .int .u8 0, .int .u8 0, .int .u8 0, .int .u8 0, .int .u8 0, .int .u8 0, .int .u8 0, .int .u8 0, .int .u8 0, .int .u8 0, .int .u8 0, .int .u8 0, .int .u8 0, .int .u8 0, .int .u8 0, .int .u8 0, .int .u8 0, .int .u8 0, .int .u8 0, .int .u8 0, .int .u8 0, .int .u8 0, .int .u8 0, .int .u8 0, .int .u8 0, .int .u8 0, .int .u8 0] : Value) = .agg (bytesV (List.replicate 32 0)).toArray := litID_eq
  rw [e]
  exact h
theorem zero_guard (x y : Operand) (w : World) : (eqGuard .neq 40 x y zeroID (.agg #[.int .u8 0, .int .u8 0, .int .u8 0, .int .u8 0, .int .u8 0, .int .u8 0, .int .u8 0, .int .u8 0, .int .u8 0, .int .u8 0, .int .u8 0, .int .u8 0, .int .u8 0, .int .u8 0, .int .u8 0, .int .u8 0, .int .u8 0, .int .u8 0, .int .u8 0, .int .u8 0, .int .u8 0, .int .u8 0, .int .u8 0, .int .u8 0, .int .u8 0, .int .u8 0, .int .u8 0, .int .u8 0, .int .u8 0, .int .u8 0, .int .u8 0, .int .u8 0])).run Try.prog w = .ok () w := id_guard .neq x y _ _ w

set_option maxRecDepth 100000 in
set_option maxHeartbeats 4000000 in
theorem none_any (n : Int) (w : World) : Calls Try.prog 6 #[.int .i64 n] w (RetTrue w) := by
  have hzn := zero_neq
  have hzg := zero_guard
  go_enter Try.func6, Try.ntmps6
  go_wp2_with fail
  obtain ⟨w0, hw0⟩ : ∃ w0, w0 = (((w.alloc (.cells #[.pointer none, .int .i64 0, .slice none 0 0] 74)).alloc (.cells #[.pointer none, .pointer (some ⟨w.heap.size, 0, none⟩)] 22)).alloc (.cells #[.pointer none, .slice none 0 0, .int .i64 0] 77)).alloc (.cells #[.pointer none, .pointer (some ⟨w.heap.size + 1 + 1, 0, none⟩)] 59) := ⟨_, rfl⟩
  rw [← hw0]
  obtain ⟨ia, ib, hk0, hba, hbb⟩ := wn_facts w w0 hw0
  clear hw0
  go_loopw [5] (fun i wr => (i = .int .i64 0 ∨ i = .int .i64 1 ∨ i = .int .i64 2) ∧ Kept NoS w0 wr) (fun i _ => (2 - intOf i).toNat)
  case atStart => exact ⟨.inl rfl, Kept.refl _ _⟩
  case round =>
    obtain ⟨hi, hk⟩ := hrel
    have ba := hba.kept hk fun e => e
    have bb := hbb.kept hk fun e => e
    rcases hi with rfl | rfl | rfl
    · have c0 := ba.at 0 rfl
      have d0 := bb.at 0 rfl
      have iw : Inv w0 (.pointer none) := (Or.inl rfl : Inv w0 (.pointer none))
      have ir : Inv w0 (.pointer none) := (Or.inl rfl : Inv w0 (.pointer none))
      clear ba bb hba hbb
      go_wp2_with fail
      go_quiet (fail)
      replace hk := hk.drewN nq
      go_wp2_with fail
      refine (inv_wDone (.pointer none) _ (iw.keptN hk)).mono ?_
      rintro e v1 ⟨rfl, hj1⟩
      have hm1 := hk.trans hj1
      clear hj1
      go_wp2_with fail
      refine (inv_wNum (.pointer none) n _ (iw.keptN hm1)).mono ?_
      rintro e v2 ⟨rfl, hj2⟩
      have hm2 := hm1.trans hj2
      clear hj2
      go_wp2_with fail
      refine (inv_wText (.pointer none) ⟨#[97]⟩ _ (iw.keptN hm2)).mono ?_
      rintro e v3 ⟨rfl, hj3⟩
      have hm3 := hm2.trans hj3
      clear hj3
      go_wp2_with fail
      refine (inv_wBytes (.pointer none) (.slice none 0 0) _ (iw.keptN hm3)).mono ?_
      rintro e v4 ⟨rfl, hj4⟩
      have hm4 := hm3.trans hj4
      clear hj4
      go_wp2_with fail
      refine (inv_wID (.pointer none) _ rfl _ (iw.keptN hm4)).mono ?_
      rintro e v5 ⟨rfl, hj5⟩
      have hm5 := hm4.trans hj5
      clear hj5
      go_wp2_with fail
      refine (inv_wDot (.pointer none) 0 0 _ (iw.keptN hm5)).mono ?_
      rintro e v6 ⟨rfl, hj6⟩
      have hm6 := hm5.trans hj6
      clear hj6
      go_wp2_with fail
      refine (inv_wVector (.pointer none) (.slice none 0 0) _ (iw.keptN hm6)).mono ?_
      rintro e v7 ⟨rfl, hj7⟩
      have hm7 := hm6.trans hj7
      clear hj7
      go_wp2_with fail
      refine (inv_wBool (.pointer none) true _ (iw.keptN hm7)).mono ?_
      rintro e v8 ⟨rfl, hj8⟩
      have hm8 := hm7.trans hj8
      clear hj8
      go_wp2_with fail
      refine (inv_wLen (.pointer none) _ (iw.keptN hm8)).mono ?_
      rintro e v9 ⟨rfl, hj9⟩
      have hm9 := hm8.trans hj9
      clear hj9
      go_wp2_with fail
      refine (inv_rNum (.pointer none) _ (ir.keptN hm9)).mono ?_
      rintro e v10 ⟨rfl, hj10⟩
      have hm10 := hm9.trans hj10
      clear hj10
      go_wp2_with fail
      refine (inv_rText (.pointer none) n _ (ir.keptN hm10)).mono ?_
      rintro e v11 ⟨rfl, hj11⟩
      have hm11 := hm10.trans hj11
      clear hj11
      go_wp2_with fail
      refine (inv_rBytes (.pointer none) n _ (ir.keptN hm11)).mono ?_
      rintro e v12 ⟨rfl, hj12⟩
      have hm12 := hm11.trans hj12
      clear hj12
      go_wp2_with fail
      refine (inv_rID (.pointer none) _ (ir.keptN hm12)).mono ?_
      rintro e v13 ⟨rfl, hj13⟩
      have hm13 := hm12.trans hj13
      clear hj13
      go_wp2_with fail
      refine (inv_rDot (.pointer none) _ (ir.keptN hm13)).mono ?_
      rintro e v14 ⟨rfl, hj14⟩
      have hm14 := hm13.trans hj14
      clear hj14
      go_wp2_with fail
      refine (inv_rVector (.pointer none) n _ (ir.keptN hm14)).mono ?_
      rintro e v15 ⟨rfl, hj15⟩
      have hm15 := hm14.trans hj15
      clear hj15
      go_wp2_with fail
      refine (inv_rBool (.pointer none) _ (ir.keptN hm15)).mono ?_
      rintro e v16 ⟨rfl, hj16⟩
      have hm16 := hm15.trans hj16
      clear hj16
      go_wp2_with fail
      refine (inv_rRest (.pointer none) _ (ir.keptN hm16)).mono ?_
      rintro e v17 ⟨rfl, hj17⟩
      have hm17 := hm16.trans hj17
      clear hj17
      go_wp2_with fail
      refine (inv_rEnd (.pointer none) _ (ir.keptN hm17)).mono ?_
      rintro e v18 ⟨rfl, hj18⟩
      have hm18 := hm17.trans hj18
      clear hj18
      go_wp2_with fail
      go_roundw
      case rel => exact ⟨.inr (.inl rfl), hm18⟩
      case measure => simp [intOf]
    · have c0 := ba.at 1 rfl
      have d0 := bb.at 1 rfl
      have iw : Inv w0 (.pointer (some ⟨w.heap.size, 0, none⟩)) := ia
      have ir : Inv w0 (.pointer (some ⟨w.heap.size + 1 + 1, 0, none⟩)) := ib
      clear ba bb hba hbb
      go_wp2_with fail
      go_quiet (fail)
      replace hk := hk.drewN nq
      go_wp2_with fail
      refine (inv_wDone (.pointer (some ⟨w.heap.size, 0, none⟩)) _ (iw.keptN hk)).mono ?_
      rintro e v1 ⟨rfl, hj1⟩
      have hm1 := hk.trans hj1
      clear hj1
      go_wp2_with fail
      refine (inv_wNum (.pointer (some ⟨w.heap.size, 0, none⟩)) n _ (iw.keptN hm1)).mono ?_
      rintro e v2 ⟨rfl, hj2⟩
      have hm2 := hm1.trans hj2
      clear hj2
      go_wp2_with fail
      refine (inv_wText (.pointer (some ⟨w.heap.size, 0, none⟩)) ⟨#[97]⟩ _ (iw.keptN hm2)).mono ?_
      rintro e v3 ⟨rfl, hj3⟩
      have hm3 := hm2.trans hj3
      clear hj3
      go_wp2_with fail
      refine (inv_wBytes (.pointer (some ⟨w.heap.size, 0, none⟩)) (.slice none 0 0) _ (iw.keptN hm3)).mono ?_
      rintro e v4 ⟨rfl, hj4⟩
      have hm4 := hm3.trans hj4
      clear hj4
      go_wp2_with fail
      refine (inv_wID (.pointer (some ⟨w.heap.size, 0, none⟩)) _ rfl _ (iw.keptN hm4)).mono ?_
      rintro e v5 ⟨rfl, hj5⟩
      have hm5 := hm4.trans hj5
      clear hj5
      go_wp2_with fail
      refine (inv_wDot (.pointer (some ⟨w.heap.size, 0, none⟩)) 0 0 _ (iw.keptN hm5)).mono ?_
      rintro e v6 ⟨rfl, hj6⟩
      have hm6 := hm5.trans hj6
      clear hj6
      go_wp2_with fail
      refine (inv_wVector (.pointer (some ⟨w.heap.size, 0, none⟩)) (.slice none 0 0) _ (iw.keptN hm6)).mono ?_
      rintro e v7 ⟨rfl, hj7⟩
      have hm7 := hm6.trans hj7
      clear hj7
      go_wp2_with fail
      refine (inv_wBool (.pointer (some ⟨w.heap.size, 0, none⟩)) true _ (iw.keptN hm7)).mono ?_
      rintro e v8 ⟨rfl, hj8⟩
      have hm8 := hm7.trans hj8
      clear hj8
      go_wp2_with fail
      refine (inv_wLen (.pointer (some ⟨w.heap.size, 0, none⟩)) _ (iw.keptN hm8)).mono ?_
      rintro e v9 ⟨rfl, hj9⟩
      have hm9 := hm8.trans hj9
      clear hj9
      go_wp2_with fail
      refine (inv_rNum (.pointer (some ⟨w.heap.size + 1 + 1, 0, none⟩)) _ (ir.keptN hm9)).mono ?_
      rintro e v10 ⟨rfl, hj10⟩
      have hm10 := hm9.trans hj10
      clear hj10
      go_wp2_with fail
      refine (inv_rText (.pointer (some ⟨w.heap.size + 1 + 1, 0, none⟩)) n _ (ir.keptN hm10)).mono ?_
      rintro e v11 ⟨rfl, hj11⟩
      have hm11 := hm10.trans hj11
      clear hj11
      go_wp2_with fail
      refine (inv_rBytes (.pointer (some ⟨w.heap.size + 1 + 1, 0, none⟩)) n _ (ir.keptN hm11)).mono ?_
      rintro e v12 ⟨rfl, hj12⟩
      have hm12 := hm11.trans hj12
      clear hj12
      go_wp2_with fail
      refine (inv_rID (.pointer (some ⟨w.heap.size + 1 + 1, 0, none⟩)) _ (ir.keptN hm12)).mono ?_
      rintro e v13 ⟨rfl, hj13⟩
      have hm13 := hm12.trans hj13
      clear hj13
      go_wp2_with fail
      refine (inv_rDot (.pointer (some ⟨w.heap.size + 1 + 1, 0, none⟩)) _ (ir.keptN hm13)).mono ?_
      rintro e v14 ⟨rfl, hj14⟩
      have hm14 := hm13.trans hj14
      clear hj14
      go_wp2_with fail
      refine (inv_rVector (.pointer (some ⟨w.heap.size + 1 + 1, 0, none⟩)) n _ (ir.keptN hm14)).mono ?_
      rintro e v15 ⟨rfl, hj15⟩
      have hm15 := hm14.trans hj15
      clear hj15
      go_wp2_with fail
      refine (inv_rBool (.pointer (some ⟨w.heap.size + 1 + 1, 0, none⟩)) _ (ir.keptN hm15)).mono ?_
      rintro e v16 ⟨rfl, hj16⟩
      have hm16 := hm15.trans hj16
      clear hj16
      go_wp2_with fail
      refine (inv_rRest (.pointer (some ⟨w.heap.size + 1 + 1, 0, none⟩)) _ (ir.keptN hm16)).mono ?_
      rintro e v17 ⟨rfl, hj17⟩
      have hm17 := hm16.trans hj17
      clear hj17
      go_wp2_with fail
      refine (inv_rEnd (.pointer (some ⟨w.heap.size + 1 + 1, 0, none⟩)) _ (ir.keptN hm17)).mono ?_
      rintro e v18 ⟨rfl, hj18⟩
      have hm18 := hm17.trans hj18
      clear hj18
      go_wp2_with fail
      go_roundw
      case rel => exact ⟨.inr (.inr rfl), hm18⟩
      case measure => simp [intOf]
    · go_wp2_with fail
      refine (awake_any _).mono ?_
      rintro e w1 ⟨rfl, hk1⟩
      go_wp2_with fail
      go_ret
      exact ⟨rfl, (hk0.trans hk).trans hk1⟩
end Go.Proofs.Ytpagolhlbceegaa
