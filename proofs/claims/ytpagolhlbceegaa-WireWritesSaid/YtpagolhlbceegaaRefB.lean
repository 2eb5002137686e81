/- The document's writer: what is put. -/
import Derived.Test.YtpagolhlbceegaaRefA
namespace Go.Proofs.Ytpagolhlbceegaa
open Go.RowKit

/-- The document's writer, made. -/
structure RfAt (w : World) (x : Nat) (lim : Int) (v : Value) (bs : List UInt8) (err : Int) : Prop where
  hx : Blk w x #[.int .i64 lim, v, .int .i64 err] 56
  own : OwnB w v bs
theorem RfAt.vx {w : World} {x : Nat} {lim : Int} {v : Value} {bs : List UInt8} {err : Int} (h : RfAt w x lim v bs err) : v.ownBlock ≠ some x := owns_ne h.own h.hx (by decide)
def RfB (x : Nat) (v : Value) : Nat → Prop := fun k => k = x ∨ v.ownBlock = some k
theorem RfAt.kept {S : Nat → Prop} {w w' : World} {x : Nat} {lim : Int} {v : Value} {bs : List UInt8} {err : Int} (h : RfAt w x lim v bs err) (hk : Kept S w w') (hn : ∀ k, RfB x v k → ¬ S k) : RfAt w' x lim v bs err :=
  ⟨h.hx.kept hk (hn x (.inl rfl)), h.own.kept hk fun k e => hn k (.inr e)⟩
theorem RfAt.keptN {w w' : World} {x : Nat} {lim : Int} {v : Value} {bs : List UInt8} {err : Int} (h : RfAt w x lim v bs err) (hk : Kept NoS w w') : RfAt w' x lim v bs err := h.kept hk fun _ _ e => e
theorem RfAt.lt {w : World} {x : Nat} {lim : Int} {v : Value} {bs : List UInt8} {err : Int} (h : RfAt w x lim v bs err) : ∀ k, RfB x v k → k < w.heap.size := by
  rintro k (rfl | e)
  · exact h.hx.lt
  · exact owns_lt h.own e
def RfPost (w : World) (x : Nat) (lim : Int) (v : Value) (r : List UInt8 × Int) (e : Ending) (w' : World) : Prop :=
  ∃ v', e = .returned (.int .i64 r.2) ∧ RfAt w' x lim v' r.1 r.2 ∧ Kept (RfB x v) w w' ∧ (v'.ownBlock = v.ownBlock ∨ ∃ k, v'.ownBlock = some k ∧ w.heap.size ≤ k)

theorem OwnB.shape' {w : World} {v : Value} {bs : List UInt8} (h : OwnB w v bs) : ∃ a c, v = .slice a bs.length c := by
  obtain ⟨a, c, e, _⟩ := Sl.form h.rd
  exact ⟨a, c, e⟩
theorem rfStep {w : World} {x : Nat} {lim : Int} {v : Value} {bs : List UInt8} {err : Int} (h : RfAt w x lim v bs err) (e : Int) : RfAt (w.setCell ⟨x, 2, none⟩ (.int .i64 e)) x lim v bs e :=
  ⟨h.hx.set 2 _, h.own.kept (Kept.setOne w x 2 (.int .i64 e)) fun k hk e' => h.vx (by rw [hk, e'])⟩
theorem rfGrew {w w2 : World} {x : Nat} {lim : Int} {v v2 : Value} {bs : List UInt8} {err : Int} (h : RfAt w x lim v bs err) (hg : Grew w w2 v v2) : Blk w2 x #[.int .i64 lim, v, .int .i64 err] 56 :=
  h.hx.kept hg.1 fun e => h.vx e
theorem rfDone {w w2 : World} {x : Nat} {lim : Int} {v v2 : Value} {bs bs2 : List UInt8} {err : Int} (h : RfAt w x lim v bs err) (hb : Blk w2 x #[.int .i64 lim, v, .int .i64 err] 56) (ho : OwnB w2 v2 bs2) (hg : Grew w w2 v v2) :
    RfAt (w2.setCell ⟨x, 1, none⟩ v2) x lim v2 bs2 err := by
  have hne : v2.ownBlock ≠ some x := by
    rcases hg.2 with e | ⟨k, e, h2⟩
    · rw [e]
      exact h.vx
    · rw [e]
      intro e'
      cases e'
      have := h.hx.lt
      omega
  exact ⟨hb.set 1 _, ho.kept (Kept.setOne w2 x 1 v2) fun k hk e' => hne (by rw [hk, e'])⟩
theorem rfKept {w w1 w2 : World} {x : Nat} {lim : Int} {v v2 : Value} {bs : List UInt8} {err : Int} (hq : Kept NoS w w1) (_h : RfAt w1 x lim v bs err) (hg : Grew w1 w2 v v2) : Kept (RfB x v) w (w2.setCell ⟨x, 1, none⟩ v2) :=
  (hq.ofN.trans (hg.1.mono fun _ _ e => .inr e)).trans ((Kept.setOne w2 x 1 v2).mono fun _ _ e => .inl e)
theorem rfOwn {w w1 w2 : World} {v v2 : Value} (hq : Kept NoS w w1) (hg : Grew w1 w2 v v2) : v2.ownBlock = v.ownBlock ∨ ∃ k, v2.ownBlock = some k ∧ w.heap.size ≤ k := by
  rcases hg.2 with e | ⟨k, e, h2⟩
  · exact .inl e
  · exact .inr ⟨k, e, Nat.le_trans hq.size h2⟩
set_option maxHeartbeats 1000000 in
theorem refPut_any (x : Nat) (lim : Int) (v : Value) (bs : List UInt8) (err : Int) (w : World) (h : RfAt w x lim v bs err) (hb : bs.length ≤ 4294967296) (b : Value) (enc : List UInt8) (hB : RdB w b enc) (he : enc.length ≤ 4294967296) (y : Value) (ns : List Int) (hy : RdI w y ns) :
    Calls Try.prog 21 #[.pointer (some ⟨x, 0, none⟩), b, y] w (RfPost w x lim v (wput lim bs err enc (!ns.any (fun n => decide (n < 0))))) := by
  have c0 := h.hx.at 0 rfl
  have c1 := h.hx.at 1 rfl
  have c2 := h.hx.at 2 rfl
  obtain ⟨ao, cap, rfl⟩ := hB.form
  obtain ⟨yo, ycap, rfl, hyc, hyc2⟩ := hy.form
  unfold maxLen at hyc2
  have HF : Hid (wput lim bs err enc (!ns.any (fun n => decide (n < 0))) = if err = 0 then (if (!ns.any (fun n => decide (n < 0))) then (if lim < bs.length + enc.length then (bs, 4) else (bs ++ enc, 0)) else (bs, 3)) else (bs, err)) := (rfl : wput lim bs err enc _ = _)
  have H := Lib.hid h
  have HB := Lib.hid hB
  have HY := Lib.hid hy
  clear h hB hy
  by_cases hr : err = 0
  · subst hr
    go_enter Try.func21, Try.ntmps21
    go_wp2_with fail
    go_loopw [7] (fun i wr => ∃ k : Nat, i = .int .i64 k ∧ k ≤ ns.length ∧ (ns.take k).any (fun n => decide (n < 0)) = false ∧ w = wr) (fun i _ => (ns.length - intOf i).toNat)
    case atStart => exact ⟨0, rfl, by omega, by simp, rfl⟩
    case round =>
      obtain ⟨k, rfl, hk, hany, rfl⟩ := hrel
      have HA := Lib.hid hany
      clear hany
      by_cases hlt : k < ns.length
      · obtain ⟨n, hn⟩ := some_at ns hlt
        obtain ⟨b1, o1, rfl, hc1⟩ := HY.out.get hn
        have t0 : decide ((k : Int) < ns.length) = true := by simp; omega
        have HN := Lib.hid hn
        clear hn
        by_cases hneg : n < 0
        · have hd1 := H.out.hx.free 2
          have HR : Hid (wput lim bs 0 enc (!ns.any (fun n => decide (n < 0))) = (bs, 3)) := by
            have hm := List.mem_of_getElem? HN.out
            have : ns.any (fun n => decide (n < 0)) = true := List.any_eq_true.2 ⟨n, hm, by simpa using hneg⟩
            show _ = _
            unfold wput
            rw [this]
            rfl
          go_wp2_with fail
          go_ret
          rw [HR.out]
          exact ⟨v, rfl, rfStep H.out 3, (Kept.setOne w x 2 (.int .i64 3)).mono fun _ _ e => .inl e, .inl rfl⟩
        · have t1 : decide (n < 0) = false := by simp; omega
          have hk2 : (ns.take (k + 1)).any (fun n => decide (n < 0)) = false := by
            rw [List.take_add_one, HN.out, List.any_append, HA.out]
            simp
            omega
          have HK2 := Lib.hid hk2
          clear hk2
          go_wp2_with fail
          exact ⟨⟨k + 1, by go_num, by omega, HK2.out, trivial⟩, by simp [intOf]; omega⟩
      · have hkl : k = ns.length := by omega
        subst hkl
        have t0 : decide ((ns.length : Int) < ns.length) = false := by simp
        have hall : ns.any (fun n => decide (n < 0)) = false := by
          have := HA.out
          rwa [List.take_length] at this
        obtain ⟨av, cv, rfl⟩ := OwnB.shape' H.out.own
        have hwr : IntKind.i64.wrap ((bs.length : Int) + enc.length) = bs.length + enc.length := by rw [IntKind.wrap_i64]; omega
        have d0 : w.cell? ⟨x, 0, none⟩ = some (.int .i64 lim) := c0
        have d1 : w.cell? ⟨x, 1, none⟩ = some (.slice av bs.length cv) := c1
        have d2 : w.cell? ⟨x, 2, none⟩ = some (.int .i64 0) := c2
        clear c0 c1 c2
        by_cases hlong : lim < (bs.length : Int) + enc.length
        · have t1 : decide (lim < (bs.length : Int) + enc.length) = true := decide_eq_true hlong
          have HR : Hid (wput lim bs 0 enc (!ns.any (fun n => decide (n < 0))) = (bs, 4)) := by
            show _ = _
            unfold wput
            rw [hall, if_pos rfl]
            exact if_pos hlong
          have hd1 := H.out.hx.free 2
          clear hall
          go_wp2_with fail
          go_quiet (fail)
          go_wp2_with fail
          go_ret
          rw [HR.out]
          have hq : Kept NoS w (w.drewN nq) := (Kept.refl NoS w).drewN nq
          exact ⟨_, rfl, rfStep (H.out.keptN hq) 4, hq.ofN.trans ((Kept.setOne (w.drewN nq) x 2 (.int .i64 4)).mono fun _ _ e => .inl e), .inl rfl⟩
        · have t1 : decide (lim < (bs.length : Int) + enc.length) = false := decide_eq_false hlong
          have HR : Hid (wput lim bs 0 enc (!ns.any (fun n => decide (n < 0))) = (bs ++ enc, 0)) := by
            show _ = _
            unfold wput
            rw [hall, if_pos rfl]
            exact if_neg hlong
          have hd1 := H.out.hx.free 1
          clear hall
          go_wp2_with fail
          go_quiet (fail)
          have hq : Kept NoS w (w.drewN nq) := (Kept.refl NoS w).drewN nq
          go_wp2_with (at_builtin; refine wpList_appB rfl (.tmp 59) (.tmp 60) _ rfl _ bs rfl (H.out.keptN hq).own _ enc rfl (RdB.src (HB.out.keptN hq)) ?_ ?_; rotate_left; intro v2 w2 ho2 hg2; replace hg2 : Grew (w.drewN nq) w2 (.slice av bs.length cv) v2 := hg2; have hb2 := rfGrew (H.out.keptN hq) hg2; have d3 := hb2.at 1 rfl; have d4 := hb2.free 1; obtain ⟨a2, n2, c2, hv2⟩ := OwnB.shape ho2; subst hv2)
          · go_ret
            rw [HR.out]
            exact ⟨_, rfl, rfDone (H.out.keptN hq) hb2 ho2 hg2, rfKept hq (H.out.keptN hq) hg2, rfOwn hq hg2⟩
          · omega
  · have e0 : (err != 0) = true := by simp [hr]
    have HR := Lib.hid hr
    clear hr
    go_enter Try.func21, Try.ntmps21
    go_wp2_with fail
    go_ret
    rw [HF.out, if_neg HR.out]
    exact ⟨v, rfl, H.out, Kept.refl _ _, .inl rfl⟩
end Go.Proofs.Ytpagolhlbceegaa
