/- The writer, walked: its first error, what is put, and what it answers. -/
import Derived.Test.YtpagolhlbceegaaWireB
namespace Go.Proofs.Ytpagolhlbceegaa
open Go.RowKit

theorem Blk.newAt {w : World} {n : Nat} (vs : Array Value) (e : TypeId) (hn : n = w.heap.size) : Blk (w.alloc (.cells vs e)) n vs e := by subst hn; exact Blk.new w vs e
set_option maxHeartbeats 400000 in
theorem failed_any (q : Nat) (e : Int) (w : World) (h0 : w.cell? ⟨q, 0, none⟩ = some (.int .i64 e)) :
    Calls Try.prog 51 #[.pointer (some ⟨q, 0, none⟩)] w fun r w' => r = .returned (.bool (e != 0)) ∧ w = w' := by
  go_enter Try.func51, Try.ntmps51
  go_wp2
  go_ret
  exact ⟨rfl, rfl⟩
set_option maxHeartbeats 400000 in
theorem wnone_any (p q : Nat) (w : World) (h0 : w.cell? ⟨p, 0, none⟩ = some (.pointer (some ⟨q, 0, none⟩))) :
    Calls Try.prog 50 #[.pointer (some ⟨p, 0, none⟩)] w fun r w' => r = .returned (.bool false) ∧ w = w' := by
  go_enter Try.func50, Try.ntmps50
  go_wp2
  go_ret
  exact ⟨rfl, rfl⟩
set_option maxHeartbeats 400000 in
theorem fails_first (q : Nat) (e a e0 a0 : Int) (t : TypeId) (w : World) (hq : Blk w q #[.int .i64 e0, .int .i64 a0] t) (h0 : e0 = 0) :
    Calls Try.prog 55 #[.pointer (some ⟨q, 0, none⟩), .int .i64 e, .int .i64 a] w fun r w' => r = .returned (.tuple #[]) ∧ Blk w' q #[.int .i64 e, .int .i64 a] t ∧ Kept (AtB q) w w' := by
  subst h0
  have c0 := hq.at 0 rfl
  have c1 := hq.at 1 rfl
  have f0 := hq.free 0
  have f1 := hq.free 1
  go_enter Try.func55, Try.ntmps55
  go_wp2
  go_end0
  exact ⟨rfl, (hq.set 0 _).set 1 _, ((Kept.refl (AtB q) w).setCell (p := ⟨q, 0, none⟩) (.inr rfl) _).setCell (p := ⟨q, 1, none⟩) (.inr rfl) _⟩
set_option maxHeartbeats 400000 in
theorem fails_later (q : Nat) (e a e0 : Int) (w : World) (c0 : w.cell? ⟨q, 0, none⟩ = some (.int .i64 e0)) (h0 : (e0 == 0) = false) :
    Calls Try.prog 55 #[.pointer (some ⟨q, 0, none⟩), .int .i64 e, .int .i64 a] w fun r w' => r = .returned (.tuple #[]) ∧ w = w' := by
  go_enter Try.func55, Try.ntmps55
  go_wp2
  go_end0
  exact ⟨rfl, rfl⟩

/-- A writer that somebody made: its block p, its first error's block q, its limit, its bytes. -/
structure WrAt (w : World) (p q : Nat) (lim : Int) (v : Value) (bs : List UInt8) (err : Int) : Prop where
  hp : Blk w p #[.pointer (some ⟨q, 0, none⟩), .int .i64 lim, v] 74
  hq : Blk w q #[.int .i64 err, .int .i64 0] 82
  own : OwnB w v bs
theorem WrAt.pq {w : World} {p q : Nat} {lim : Int} {v : Value} {bs : List UInt8} {err : Int} (h : WrAt w p q lim v bs err) : p ≠ q := h.hp.ne h.hq (by decide)
theorem WrAt.vp {w : World} {p q : Nat} {lim : Int} {v : Value} {bs : List UInt8} {err : Int} (h : WrAt w p q lim v bs err) : v.ownBlock ≠ some p := owns_ne h.own h.hp (by decide)
theorem WrAt.vq {w : World} {p q : Nat} {lim : Int} {v : Value} {bs : List UInt8} {err : Int} (h : WrAt w p q lim v bs err) : v.ownBlock ≠ some q := owns_ne h.own h.hq (by decide)
/-- The blocks of a writer. -/
def WrB (p q : Nat) (v : Value) : Nat → Prop := fun k => k = p ∨ k = q ∨ v.ownBlock = some k
theorem WrAt.kept {S : Nat → Prop} {w w' : World} {p q : Nat} {lim : Int} {v : Value} {bs : List UInt8} {err : Int} (h : WrAt w p q lim v bs err) (hk : Kept S w w') (hn : ∀ k, WrB p q v k → ¬ S k) : WrAt w' p q lim v bs err :=
  ⟨h.hp.kept hk (hn p (.inl rfl)), h.hq.kept hk (hn q (.inr (.inl rfl))), h.own.kept hk fun k e => hn k (.inr (.inr e))⟩
theorem WrAt.keptN {w w' : World} {p q : Nat} {lim : Int} {v : Value} {bs : List UInt8} {err : Int} (h : WrAt w p q lim v bs err) (hk : Kept NoS w w') : WrAt w' p q lim v bs err := h.kept hk fun _ _ e => e
theorem WrAt.lt {w : World} {p q : Nat} {lim : Int} {v : Value} {bs : List UInt8} {err : Int} (h : WrAt w p q lim v bs err) : ∀ k, WrB p q v k → k < w.heap.size := by
  rintro k (rfl | rfl | e)
  · exact h.hp.lt
  · exact h.hq.lt
  · exact owns_lt h.own e

/-- What a writer is behind a thing that is put. -/
def wput (lim : Int) (bs : List UInt8) (err : Int) (enc : List UInt8) (ok : Bool) : List UInt8 × Int :=
  if err = 0 then (if ok then (if lim < bs.length + enc.length then (bs, 4) else (bs ++ enc, 0)) else (bs, 3)) else (bs, err)
def PutPost (w : World) (p q : Nat) (lim : Int) (v : Value) (r : List UInt8 × Int) (e : Ending) (w' : World) : Prop :=
  ∃ v', e = .returned (.int .i64 r.2) ∧ WrAt w' p q lim v' r.1 r.2 ∧ Kept (WrB p q v) w w' ∧ (v'.ownBlock = v.ownBlock ∨ ∃ k, v'.ownBlock = some k ∧ w.heap.size ≤ k)

theorem PutPost.alloc {w : World} {o : Obj} {p q : Nat} {lim : Int} {v : Value} {r : List UInt8 × Int} {e : Ending} {w' : World} (h : PutPost (w.alloc o) p q lim v r e w') : PutPost w p q lim v r e w' := by
  obtain ⟨v', h1, h2, h3, h4⟩ := h
  refine ⟨v', h1, h2, ((Kept.refl _ w).alloc o).trans h3, ?_⟩
  rcases h4 with e | ⟨k, e, e2⟩
  · exact .inl e
  · exact .inr ⟨k, e, by simp at e2; omega⟩
set_option maxHeartbeats 1000000 in
theorem put_any (p q : Nat) (lim : Int) (v x : Value) (bs enc : List UInt8) (err : Int) (ok : Bool) (w : World) (h : WrAt w p q lim v bs err) (hb : bs.length ≤ 4294967296) (he : enc.length ≤ 4398046511104)
    (hform : Calls Try.prog 61 #[.slice none 0 0, x] w (FormPost w (.slice none 0 0) [] enc ok)) :
    Calls Try.prog 49 #[.pointer (some ⟨p, 0, none⟩), x] w (PutPost w p q lim v (wput lim bs err enc ok)) := by
  have HF := Lib.hid hform
  clear hform
  have c0 := h.hp.at 0 rfl
  have d0 := h.hq.at 0 rfl
  by_cases he0 : err = 0
  · subst he0
    have hw := Lib.hid h
    clear h
    cases ok
    · go_enter Try.func49, Try.ntmps49
      go_wp2_with (first | (go_at_call 50; refine (wnone_any p q _ c0).mono ?_; rintro e w' ⟨rfl, rfl⟩) | (go_at_call 51; refine (failed_any q 0 _ d0).mono ?_; rintro e w' ⟨rfl, rfl⟩))
      refine HF.out.mono ?_
      rintro e w1 ⟨v1, rfl, ho1, hg1⟩
      have hk1 : Kept NoS w w1 := hg1.1.mono fun k _ e => by simp [IsB, Value.ownBlock] at e
      have h1 := hw.out.keptN hk1
      have c10 := h1.hp.at 0 rfl
      have d10 := h1.hq.at 0 rfl
      go_wp2_with (go_at_call 55; refine (fails_first q 3 0 0 0 _ _ h1.hq rfl).mono ?_; rintro e w2 ⟨rfl, hq2, hk2⟩; have c20 := (h1.hp.kept hk2 h1.pq).at 0 rfl; have d20 := hq2.at 0 rfl)
      go_ret
      exact ⟨v, rfl, ⟨h1.hp.kept hk2 h1.pq, hq2, h1.own.kept hk2 fun k e e' => h1.vq (by rw [e, e'])⟩, Kept.step (S := WrB p q v) hk1.ofN hk2 fun i _ e => .inr (.inl e), .inl rfl⟩
    · by_cases hlong : lim < bs.length + enc.length
      · have hput : wput lim bs 0 enc true = (bs, 4) := by simp [wput, hlong]
        have HP := Lib.hid hput
        clear hput
        go_enter Try.func49, Try.ntmps49
        go_wp2_with (first | (go_at_call 50; refine (wnone_any p q _ c0).mono ?_; rintro e w' ⟨rfl, rfl⟩) | (go_at_call 51; refine (failed_any q 0 _ d0).mono ?_; rintro e w' ⟨rfl, rfl⟩))
        refine HF.out.mono ?_
        rintro e w1 ⟨v1, rfl, ho1, hg1⟩
        rw [List.nil_append] at ho1
        have hk1 : Kept NoS w w1 := hg1.1.mono fun k _ e => by simp [IsB, Value.ownBlock] at e
        have h1 := hw.out.keptN hk1
        obtain ⟨a1, cap1, rfl⟩ := ho1.rd.form
        obtain ⟨a2, cap2, rfl⟩ := h1.own.rd.form
        have c10 := h1.hp.at 0 rfl
        have c11 := h1.hp.at 1 rfl
        have c12 := h1.hp.at 2 rfl
        have d10 := h1.hq.at 0 rfl
        go_wp2_with fail
        go_quiet (fail)
        go_wp2_with (go_at_call 55; refine (fails_first q 4 0 0 0 _ _ (h1.hq.drewN _) rfl).mono ?_; rintro e w2 ⟨rfl, hq2, hk2⟩; have c20 := ((h1.hp.drewN _).kept hk2 h1.pq).at 0 rfl; have d20 := hq2.at 0 rfl)
        go_ret
        rw [HP.out]
        exact ⟨_, rfl, ⟨(h1.hp.drewN _).kept hk2 h1.pq, hq2, (h1.own.keptN ((Kept.refl _ _).drewN _)).kept hk2 fun k e e' => h1.vq (by rw [e, e'])⟩, Kept.step (S := WrB p q _) (hk1.drewN _).ofN hk2 fun i _ e => .inr (.inl e), .inl rfl⟩
      · have hput : wput lim bs 0 enc true = (bs ++ enc, 0) := by simp only [wput, if_neg hlong, if_true]
        have HP := Lib.hid hput
        clear hput
        go_enter Try.func49, Try.ntmps49
        go_wp2_with (first | (go_at_call 50; refine (wnone_any p q _ c0).mono ?_; rintro e w' ⟨rfl, rfl⟩) | (go_at_call 51; refine (failed_any q 0 _ d0).mono ?_; rintro e w' ⟨rfl, rfl⟩))
        refine HF.out.mono ?_
        rintro e w1 ⟨v1, rfl, ho1, hg1⟩
        rw [List.nil_append] at ho1
        have hk1 : Kept NoS w w1 := hg1.1.mono fun k _ e => by simp [IsB, Value.ownBlock] at e
        have h1 := hw.out.keptN hk1
        obtain ⟨a1, cap1, rfl⟩ := ho1.rd.form
        obtain ⟨a2, cap2, rfl⟩ := h1.own.rd.form
        have c10 := h1.hp.at 0 rfl
        have c11 := h1.hp.at 1 rfl
        have c12 := h1.hp.at 2 rfl
        have d10 := h1.hq.at 0 rfl
        go_wp2_with fail
        go_quiet (fail)
        have hq' := h1.hq.drewN nq
        have hp' := h1.hp.drewN nq
        have vp := h1.vp
        have vq := h1.vq
        go_wp2_with (at_builtin; refine wpList_appB rfl (.tmp 24) (.tmp 25) _ rfl (.slice a2 bs.length cap2) bs rfl (h1.own.keptN ((Kept.refl _ _).drewN _)) _ enc rfl (RdB.src (ho1.rd.keptN ((Kept.refl _ _).drewN _))) ?_ ?_; rotate_left; intro v2 w2 ho2 hg2; obtain ⟨a3, cap3, rfl⟩ := ho2.rd.form; have hp2 := hp'.kept hg2.1 vp; have hq2 := hq'.kept hg2.1 vq; have c22 := hp2.at 2 rfl; have f22 := hp2.free 2; have d20 := hq2.at 0 rfl; have c20 := hp2.at 0 rfl; have npq := hp2.ne hq2 (by decide))
        · go_ret
          rw [HP.out]
          have hkp := Kept.setOne w2 p 2 (.slice a3 (bs.length + enc.length) cap3)
          rw [List.length_append] at ho2
          have hgo := hg2.2
          rw [List.length_append] at hgo
          exact ⟨.slice a3 (bs.length + enc.length) cap3, rfl, ⟨hp2.set 2 _, hq2.setOther (a := ⟨p, 2, none⟩) (Ne.symm npq) _, ho2.kept hkp fun k e e' => owns_ne ho2 hp2 (by decide) (by rw [e, e'])⟩,
            Kept.step (S := WrB p q (.slice a2 bs.length cap2)) (Kept.step (S := WrB p q (.slice a2 bs.length cap2)) (hk1.drewN nq).ofN hg2.1 fun i _ e => .inr (.inr e)) hkp fun i _ e => .inl e,
            by rcases hgo with e | ⟨k, e, e2⟩
               · exact .inl e
               · exact .inr ⟨k, e, Nat.le_trans hk1.size e2⟩⟩
        · omega
  · have he1 : (err != 0) = true := by simpa using he0
    go_enter Try.func49, Try.ntmps49
    go_wp2_with (first | (go_at_call 50; refine (wnone_any p q _ c0).mono ?_; rintro e w' ⟨rfl, rfl⟩) | (go_at_call 51; refine (failed_any q err _ d0).mono ?_; rintro e w' ⟨rfl, rfl⟩))
    go_ret
    exact ⟨v, by simp [wput, he0], by simpa [wput, he0] using h, Kept.refl _ _, .inl rfl⟩

section
variable (p q : Nat) (lim : Int) (v : Value) (bs : List UInt8) (err : Int) (w : World) (h : WrAt w p q lim v bs err) (hb : bs.length ≤ 4294967296)
include h hb
theorem wNum_any (n : Int) (hn : I64 n) : Calls Try.prog 10 #[.pointer (some ⟨p, 0, none⟩), .int .i64 n] w (PutPost w p q lim v (wput lim bs err (encNum n) (decide (0 ≤ n)))) := by
  have HP := Lib.hid (put_any p q lim v (.iface 3 (.int .i64 n)) bs _ err _ w h hb (by have := encNum_len n; omega) (form_num n (.slice none 0 0) [] w hn.1 hn.2 (OwnB.nil w) (by simp)))
  clear h
  go_enter Try.func10, Try.ntmps10
  go_wp2_with fail
  refine HP.out.mono ?_
  rintro e w1 ⟨v1, rfl, r⟩
  go_wp2_with fail
  go_ret
  exact ⟨v1, rfl, r⟩
theorem wText_any (s : ByteArray) (hs : s.size ≤ 1099511627776) : Calls Try.prog 9 #[.pointer (some ⟨p, 0, none⟩), .string s] w (PutPost w p q lim v (wput lim bs err (encNum s.size ++ s.data.toList) true)) := by
  have hl : s.data.toList.length = s.size := by simp
  have HP := Lib.hid (put_any p q lim v (.iface 9 (.string s)) bs _ err _ w h hb (by have := encNum_len s.size; rw [List.length_append]; omega) (form_str s (.slice none 0 0) [] w hs (OwnB.nil w) (by simp)))
  clear h hl
  go_enter Try.func9, Try.ntmps9
  go_wp2_with fail
  refine HP.out.mono ?_
  rintro e w1 ⟨v1, rfl, r⟩
  go_wp2_with fail
  go_ret
  exact ⟨v1, rfl, r⟩
theorem wBytes_any (x : Value) (xs : List UInt8) (hx : RdB w x xs) (hs : xs.length ≤ 1099511627776) : Calls Try.prog 20 #[.pointer (some ⟨p, 0, none⟩), x] w (PutPost w p q lim v (wput lim bs err (encNum xs.length ++ xs) true)) := by
  have HP := Lib.hid (put_any p q lim v (.iface 28 x) bs _ err _ w h hb (by have := encNum_len xs.length; rw [List.length_append]; omega) (form_bytes x xs (.slice none 0 0) [] w hx (fun k _ => by simp [Value.ownBlock]) hs (OwnB.nil w) (by simp)))
  clear h
  go_enter Try.func20, Try.ntmps20
  go_wp2_with fail
  refine HP.out.mono ?_
  rintro e w1 ⟨v1, rfl, r⟩
  go_wp2_with fail
  go_ret
  exact ⟨v1, rfl, r⟩
theorem wID_any (d : List UInt8) (hd : d.length = 32) : Calls Try.prog 24 #[.pointer (some ⟨p, 0, none⟩), .agg (bytesV d).toArray] w (PutPost w p q lim v (wput lim bs err d true)) := by
  have hsz : (bytesV d).toArray.size = 32 := by rw [List.size_toArray, bytesV_length, hd]
  have HP := Lib.hid (put_any p q lim v (.iface 40 (idV d)) bs _ err _ _ (h.keptN ((Kept.refl NoS w).alloc (.cells (bytesV d).toArray 40))) hb (by omega) (form_id d hd (.slice none 0 0) [] _ (OwnB.nil _) (by simp)))
  clear h
  go_enter Try.func24, Try.ntmps24
  go_wp2_with (refine wpList_load_row rfl 40 (.tmp 3) rfl _ rfl _ (bytesV d).toArray (0, 0) _ (Blk.new w _ _) Try.underlying40 rfl (by rw [hsz]; kernel_rfl) ?_)
  refine HP.out.mono ?_
  rintro e w1 ⟨v1, rfl, r⟩
  go_wp2_with fail
  go_ret
  exact PutPost.alloc ⟨v1, rfl, r⟩
theorem wDot_any (r n : Int) (hr : I64 r) (hn : I64 n) : Calls Try.prog 26 #[.pointer (some ⟨p, 0, none⟩), .agg #[.int .i64 r, .int .i64 n]] w (PutPost w p q lim v (wput lim bs err (encNum r ++ encNum n) (decide (0 ≤ r) && decide (0 ≤ n)))) := by
  have HP := Lib.hid (put_any p q lim v (.iface 42 (.agg #[.int .i64 r, .int .i64 n])) bs _ err _ _ (h.keptN ((Kept.refl NoS w).alloc (.cells #[.int .i64 r, .int .i64 n] 42))) hb (by have := encNum_len r; have := encNum_len n; rw [List.length_append]; omega) (form_dot r n (.slice none 0 0) [] _ hr.1 hr.2 hn.1 hn.2 (OwnB.nil _) (by simp)))
  clear h
  go_enter Try.func26, Try.ntmps26
  go_wp2_with fail
  refine HP.out.mono ?_
  rintro e w1 ⟨v1, rfl, r⟩
  go_wp2_with fail
  go_ret
  exact PutPost.alloc ⟨v1, rfl, r⟩
theorem wVector_any (x : Value) (xs : List Int) (hx : RdI w x xs) (hs : xs.length ≤ 68719476736) (hi : ∀ n ∈ xs, I64 n) : Calls Try.prog 28 #[.pointer (some ⟨p, 0, none⟩), x] w (PutPost w p q lim v (wput lim bs err (encNum xs.length ++ encNums xs) (!xs.any (fun n => decide (n < 0))))) := by
  have HP := Lib.hid (put_any p q lim v (.iface 43 x) bs _ err _ w h hb (by have := encNum_len xs.length; have := encNums_len xs; rw [List.length_append]; omega) (form_vec x xs (.slice none 0 0) [] w hx (fun k _ => by simp [Value.ownBlock]) hs hi (OwnB.nil w) (by simp)))
  clear h
  go_enter Try.func28, Try.ntmps28
  go_wp2_with fail
  refine HP.out.mono ?_
  rintro e w1 ⟨v1, rfl, r⟩
  go_wp2_with fail
  go_ret
  exact ⟨v1, rfl, r⟩
theorem wBool_any (b : Bool) : Calls Try.prog 30 #[.pointer (some ⟨p, 0, none⟩), .bool b] w (PutPost w p q lim v (wput lim bs err ([boolB b]) true)) := by
  have HP := Lib.hid (put_any p q lim v (.iface 4 (.bool b)) bs _ err _ w h hb (by simp) (form_bool b (.slice none 0 0) [] w (OwnB.nil w) (by simp)))
  clear h
  go_enter Try.func30, Try.ntmps30
  go_wp2_with fail
  refine HP.out.mono ?_
  rintro e w1 ⟨v1, rfl, r⟩
  go_wp2_with fail
  go_ret
  exact ⟨v1, rfl, r⟩
end
/-- A limit: no limit ends a writer ahead of it. -/
theorem newWriter_any (lim : Int) (w : World) (h0 : 0 ≤ lim) (h1 : lim ≤ 67108864) : Calls Try.prog 8 #[.int .i64 lim] w fun e w' => ∃ p q, e = .returned (.tuple #[.pointer (some ⟨p, 0, none⟩), .int .i64 0]) ∧ WrAt w' p q lim (.slice none 0 0) [] 0 ∧ Kept NoS w w' ∧ w.heap.size ≤ p ∧ w.heap.size ≤ q := by
  go_enter Try.func8, Try.ntmps8
  go_wp2
  go_ret2
  refine ⟨_, _, rfl, ⟨Blk.newAt _ _ (by simp), (Blk.new w _ _).alloc _, OwnB.nil _⟩, ((Kept.refl _ _).alloc _).alloc _, ?_, Nat.le_refl _⟩
  simp
theorem newWriter_bad (lim : Int) (w : World) (h0 : lim < 0 ∨ 67108864 < lim) : Calls Try.prog 8 #[.int .i64 lim] w fun e w' => e = .returned (.tuple #[.pointer none, .int .i64 3]) ∧ w = w' := by
  by_cases hl : lim < 0
  · go_enter Try.func8, Try.ntmps8
    go_wp2
    go_ret2
    exact ⟨rfl, rfl⟩
  · have h1 : 67108864 < lim := by omega
    clear h0
    go_enter Try.func8, Try.ntmps8
    go_wp2
    go_ret2
    exact ⟨rfl, rfl⟩

set_option maxHeartbeats 400000 in
theorem clone_any (v : Value) (bs : List UInt8) (w : World) (hv : RdB w v bs) (hb : bs.length ≤ 4398046511104) : Calls Try.prog 52 #[v] w fun e w' => ∃ v', e = .returned v' ∧ OwnB w' v' bs ∧ Kept NoS w w' ∧ (∀ k, v'.ownBlock = some k → w.heap.size ≤ k) := by
  obtain ⟨ao, cap, rfl⟩ := hv.form
  have heq := fun (w : World) => Lib.run_eql_slice_nil (P := Try.prog) w 28 5 ao bs.length cap 0 0 Try.underlying28
  cases ao with
  | none =>
    have hn : bs = [] := by
      rcases hv with ⟨_, h2, _⟩ | ⟨b, off, c, h1, _⟩
      · exact List.eq_nil_of_length_eq_zero h2
      · cases h1
    subst hn
    rcases hv with ⟨⟨a, h1⟩, _, _⟩ | ⟨b, off, c, h1, _⟩
    · cases h1
      simp only [Option.isNone_none, List.length_nil] at heq
      go_enter Try.func52, Try.ntmps52
      go_wp2
      go_ret
      exact ⟨_, rfl, OwnB.nil _, Kept.refl _ _, by simp [Value.ownBlock]⟩
    · cases h1
  | some a =>
    have hs := RdB.src (hv.keptN ((Kept.refl NoS w).alloc (.cells #[] 5)))
    have ho : OwnB (w.alloc (.cells #[] 5)) (.slice (some ⟨w.heap.size, 0, none⟩) 0 0) [] := World.ownsRow_made w #[] 0 (Nat.zero_le _) (Nat.zero_le _) rfl
    clear hv
    simp only [Option.isNone_some] at heq
    go_enter Try.func52, Try.ntmps52
    go_wp2_with (at_builtin; refine wpList_appB rfl (.tmp 5) (.tmp 6) _ rfl (.slice (some ⟨w.heap.size, 0, none⟩) 0 0) [] rfl ho _ bs rfl hs ?_ ?_; rotate_left; intro v2 w2 ho2 hg2)
    · go_ret
      refine ⟨v2, rfl, ho2, ?_, ?_⟩
      · exact ((Kept.refl NoS w).alloc (.cells #[] 5)).step hg2.1 fun i hi e => by simp [IsB, Value.ownBlock] at e; omega
      · intro k hk
        rcases hg2.2 with e | ⟨k', e, e2⟩
        · rw [hk] at e; simp [Value.ownBlock] at e; omega
        · rw [hk] at e; cases e; simp at e2; omega
    · simp; omega

set_option maxHeartbeats 400000 in
theorem wLen_any (p q : Nat) (lim : Int) (v : Value) (bs : List UInt8) (err : Int) (w : World) (h : WrAt w p q lim v bs err) : Calls Try.prog 34 #[.pointer (some ⟨p, 0, none⟩)] w fun e w' => e = .returned (.int .i64 bs.length) ∧ w = w' := by
  obtain ⟨ao, cap, rfl⟩ := h.own.rd.form
  have c0 := h.hp.at 0 rfl
  have c2 := h.hp.at 2 rfl
  go_enter Try.func34, Try.ntmps34
  go_wp2_with (go_at_call 50; refine (wnone_any p q _ c0).mono ?_; rintro e w' ⟨rfl, rfl⟩)
  go_ret
  exact ⟨rfl, rfl⟩
def doneB (err : Int) (bs : List UInt8) : List UInt8 := if err = 0 then bs else []
/-- What is answered is bytes in new memory. -/
def NewB (w : World) (bs : List UInt8) (f : Value → Value) (e : Ending) (w' : World) : Prop := ∃ v', e = .returned (f v') ∧ OwnB w' v' bs ∧ Kept NoS w w' ∧ (∀ k, v'.ownBlock = some k → w.heap.size ≤ k)
set_option maxHeartbeats 400000 in
theorem wDone_any (p q : Nat) (lim : Int) (v : Value) (bs : List UInt8) (err : Int) (w : World) (h : WrAt w p q lim v bs err) (hb : bs.length ≤ 4294967296) : Calls Try.prog 11 #[.pointer (some ⟨p, 0, none⟩)] w (NewB w (doneB err bs) (fun v' => .tuple #[v', .int .i64 err])) := by
  have c0 := h.hp.at 0 rfl
  have d0 := h.hq.at 0 rfl
  by_cases he : err = 0
  · subst he
    have HC := Lib.hid (clone_any v bs w h.own.rd (by omega))
    obtain ⟨ao, cap, rfl⟩ := h.own.rd.form
    have c2 := h.hp.at 2 rfl
    clear h
    go_enter Try.func11, Try.ntmps11
    go_wp2_with (first | (go_at_call 50; refine (wnone_any p q _ c0).mono ?_; rintro e w' ⟨rfl, rfl⟩) | (go_at_call 51; refine (failed_any q 0 _ d0).mono ?_; rintro e w' ⟨rfl, rfl⟩))
    refine HC.out.mono ?_
    rintro e w1 ⟨v1, rfl, r⟩
    go_wp2_with fail
    go_ret2
    exact ⟨v1, rfl, r⟩
  · have he1 : (err != 0) = true := by simpa using he
    have HE := Lib.hid he
    clear he
    go_enter Try.func11, Try.ntmps11
    go_wp2_with (first | (go_at_call 50; refine (wnone_any p q _ c0).mono ?_; rintro e w' ⟨rfl, rfl⟩) | (go_at_call 51; refine (failed_any q err _ d0).mono ?_; rintro e w' ⟨rfl, rfl⟩))
    go_quiet (fail)
    go_wp2
    go_ret2
    refine ⟨_, rfl, ?_, (Kept.refl _ _).drewN _, by simp [Value.ownBlock]⟩
    unfold doneB
    rw [if_neg HE.out]
    exact OwnB.nil _
end Go.Proofs.Ytpagolhlbceegaa
