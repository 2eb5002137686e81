/- Vectors and digests read; lists of numbers held against each other. -/
import Derived.Test.YtpagolhlbceegaaWireN
namespace Go.Proofs.Ytpagolhlbceegaa
open Go.RowKit

/-- A slice of numbers of the call's own. -/
def OwnI (w : World) (v : Value) (xs : List Int) : Prop := w.ownsRow 0 3 1 v xs.length (xs.map (Value.int .i64))
theorem OwnI.rd {w : World} {v : Value} {xs : List Int} (h : OwnI w v xs) : RdI w v xs := Sl.ofOwns h
theorem OwnI.kept {S : Nat → Prop} {w w' : World} {v : Value} {xs : List Int} (h : OwnI w v xs) (hk : Kept S w w') (hn : ∀ k, v.ownBlock = some k → ¬ S k) : OwnI w' v xs := owns_kept h hk hn
theorem OwnI.alloc {w : World} {v : Value} {xs : List Int} (h : OwnI w v xs) (o : Obj) : OwnI (w.alloc o) v xs := World.ownsRow.alloc h o
theorem OwnI.nil (w : World) : OwnI w (.slice none 0 0) [] := World.ownsRow_nil w 0 _ 1
theorem OwnI.shape {w : World} {v : Value} {xs : List Int} (h : OwnI w v xs) : ∃ a n cap, v = .slice a n cap :=
  let ⟨a, cap, e, _⟩ := h.rd.form
  ⟨a, _, cap, e⟩
theorem Try.infoInt : (Try.prog.info? 3).map (fun i => (i.zero, i.size, i.bytes)) = some (some (.int .i64 0), 1, 8) := by kernel_rfl
theorem srcI_new (w : World) (x : Int) : Src Try.prog 1 43 (.slice (some ⟨w.heap.size, 0, none⟩) 1 1) 1 [.int .i64 x] (w.alloc (.cells #[.int .i64 x] 3)) := by
  refine Sl.src Try.underlying43 (.inr ⟨_, 0, 1, rfl, Nat.le_refl _, by decide, fun i u hu => ?_⟩) rfl (by simp [Value.oneCell'])
  rw [(Blk.new w _ _).cell]
  simpa using hu
theorem wpList_pushI {w : World} {ops : Array Oper} {rest : List Oper} {o : Oper} {a : Act} {Q : Exit → Act → World → Prop} (hgd : o.guard = none) (s x : Operand)
    (ho : o.op = .call { callee := .builtin .append, args := #[s, x], argTypes := #[43, 43] })
    (v : Value) (xs : List Int) (hs : a.eval s = v) (hown : OwnI w v xs) (xv : Value) (n : Int) (hx : a.eval x = xv) (hsrc : Src Try.prog 1 43 xv 1 [.int .i64 n] w)
    (hb : xs.length ≤ 8796093022208)
    (h : ∀ v' w', OwnI w' v' (xs ++ [n]) → Grew w w' v v' → wpList Try.prog ops Q rest (a.put o.dst v') w') : wpList Try.prog ops Q (o :: rest) a w := by
  obtain ⟨i0, hi, hz0, hz1, hz2⟩ := info_parts Try.infoInt
  refine wpList_app w hgd s x 43 43 ho 0 3 i0 (.int .i64 0) 1 8 Try.underlying43 hi hz0 hz1 hz2 rfl v xs.length (xs.map (Value.int .i64)) hs hown xv 1 [.int .i64 n] hx hsrc
    (by simp only [maxLen]; omega) (by omega) (Nat.zero_le _) fun v' w' h1 h2 h3 => h v' w' ?_ ⟨h2, ?_⟩
  · unfold OwnI; rw [List.length_append, List.map_append]; exact h1
  · rcases h3 with h3 | ⟨k, h3, h4, _⟩
    · exact .inl h3
    · exact .inr ⟨k, h3, h4⟩

def rdVecGo (bs : List UInt8) : Nat → RSt → List Int → List Int × RSt
  | 0, s, acc => if s.err = 0 then (acc, s) else ([], s)
  | k + 1, s, acc => if s.err = 0 then rdVecGo bs k (rdNum bs s).2 (acc ++ [(rdNum bs s).1]) else ([], s)
def rdVec (bs : List UInt8) (s : RSt) (most : Int) : List Int × RSt := rdVecGo bs (rdMany bs s most).1.toNat (rdMany bs s most).2 []
theorem rdVecGo_err (bs : List UInt8) (k : Nat) (s : RSt) (acc : List Int) (h : s.err ≠ 0) : rdVecGo bs k s acc = ([], s) := by
  cases k <;> simp [rdVecGo, h]
theorem rdNum_pos (bs : List UInt8) (s : RSt) : s.pos ≤ (rdNum bs s).2.pos ∧ ((rdNum bs s).2.err = 0 → s.pos + 1 ≤ (rdNum bs s).2.pos) := by
  unfold rdNum
  split
  · split
    · simp
    · rename_i he c _
      unfold rdNumC
      split
      · simp
      · split
        · simp
        · split
          · simp
          · dsimp only
            split
            · simp
            · simp only; omega
  · simp_all

def VecPost (w : World) (r q : Nat) (v : Value) (bs : List UInt8) (x : List Int × RSt) (e : Ending) (w' : World) : Prop :=
  ∃ v', e = .returned v' ∧ OwnI w' v' x.1 ∧ RdAt w' r q v bs x.2 ∧ Kept (RdS r q) w w' ∧ (∀ k, v'.ownBlock = some k → w.heap.size ≤ k)
set_option maxHeartbeats 1000000 in
theorem rVector_any (r q : Nat) (v : Value) (bs : List UInt8) (s : RSt) (most : Int) (w : World) (h : RdAt w r q v bs s) (hb : bs.length ≤ 4294967296) : Calls Try.prog 44 #[.pointer (some ⟨r, 0, none⟩), .int .i64 most] w (VecPost w r q v bs (rdVec bs s most)) := by
  have HM := Lib.hid (rMany_any r q v bs s most w h hb)
  have hge := rdMany_ge bs s most
  have hlt := Lib.hid h.lt
  have HF : Hid (rdVec bs s most = rdVecGo bs (rdMany bs s most).1.toNat (rdMany bs s most).2 []) := (rfl : rdVec bs s most = _)
  clear h
  generalize rdVec bs s most = R at *
  generalize rdMany bs s most = M at *
  obtain ⟨⟨m, s1⟩, rfl⟩ : ∃ M', M = M' := ⟨M, rfl⟩
  dsimp only at *
  obtain ⟨n, rfl⟩ := Int.eq_ofNat_of_zero_le hge.1
  rw [Int.toNat_natCast] at HF
  have hn2 := hge.2
  clear hge
  go_enter Try.func44, Try.ntmps44
  go_wp2_with fail
  refine HM.out.mono ?_
  rintro e w1 ⟨rfl, h1, hk1⟩
  go_wp2_with fail
  go_loopw [4, 8] (fun out c wr => ∃ (j : Nat) (s' : RSt) (acc : List Int), c = .int .i64 j ∧ j ≤ n ∧ RdAt wr r q v bs s' ∧ OwnI wr out acc ∧ R = rdVecGo bs (n - j) s' acc ∧ Kept (RdS r q) w wr ∧ (∀ k, out.ownBlock = some k → w.heap.size ≤ k) ∧ acc.length ≤ s'.pos + 1 ∧ (s'.err = 0 → acc.length ≤ s'.pos)) (fun _ c _ => (n - intOf c).toNat)
  case atStart => exact ⟨0, s1, [], rfl, by omega, h1, OwnI.nil _, HF.out, hk1, by simp [Value.ownBlock], by simp, by simp⟩
  case round =>
    obtain ⟨j, s', acc, rfl, hj, h2, ho2, hR, hk2, hf2, ha1, ha2⟩ := hrel
    have hle := h2.le
    have HR2 := Lib.hid hR
    have HA2 := Lib.hid ha2
    have HFr := Lib.hid hf2
    clear hR ha2 hf2
    have c0 := h2.hr.at 0 rfl
    have d0 := h2.hq.at 0 rfl
    by_cases hlt2 : j < n
    · by_cases he : s'.err = 0
      · have he1 : (s'.err != 0) = false := by simp [he]
        have ha3 := HA2.out he
        have HS : Hid (R = rdVecGo bs (n - (j + 1)) (rdNum bs s').2 (acc ++ [(rdNum bs s').1])) := by
          rw [HR2.out, show n - j = (n - (j + 1)) + 1 from by omega, rdVecGo, if_pos he]; exact rfl
        have hpos := rdNum_pos bs s'
        clear he
        go_wp2_with (first | (go_at_call 54; refine (rnone_any r q s'.err _ c0 d0).mono ?_; rintro e w' ⟨rfl, rfl⟩))
        refine (rNum_any r q v bs s' wr h2 hb).mono ?_
        rintro e w3 ⟨rfl, h3, hk3⟩
        have hap : ∀ k, u4.ownBlock = some k → ¬ RdS r q k := fun k hk e => by
          have := HFr.out k hk
          have := hlt.out k (e.elim (fun e => .inl e) fun e => .inr (.inl e))
          omega
        have ho3 := ho2.kept hk3 hap
        have h3' := Lib.hid h3
        clear h3 h2 ho2
        generalize rdNum bs s' = N at *
        go_wp2_with (at_builtin; refine wpList_pushI rfl (.tmp 12) (.tmp 15) rfl u4 acc rfl (ho3.alloc _) _ N.1 rfl (srcI_new w3 N.1) ?_ ?_; rotate_left; intro v4 w4 ho4 hg4)
        · have hk4 : Kept (IsB u4.ownBlock) w3 w4 := ((Kept.refl _ w3).alloc _).trans hg4.1
          refine ⟨⟨j + 1, N.2, acc ++ [N.1], by go_num, by omega, h3'.out.kept hk4 fun k hk e => ?_, ho4, HS.out, (hk2.trans hk3).step hk4 fun k hk e => ?_, fun k hk => ?_, by rw [List.length_append]; simp; omega, fun e => by rw [List.length_append]; simp; have := hpos.2 e; omega⟩, by simp [intOf]; omega⟩
          · have h5 := hlt.out k hk
            have h6 := HFr.out k e
            omega
          · have h6 := HFr.out k e
            omega
          · rcases hg4.2 with e | ⟨k', e, e2⟩
            · exact HFr.out k (by rw [← e]; exact hk)
            · rw [hk] at e
              cases e
              have := hk3.size
              have := hk2.size
              simp at e2
              omega
        · omega
      · have he1 : (s'.err != 0) = true := by simp [he]
        have HS : Hid (R = ([], s')) := by rw [HR2.out, rdVecGo_err bs _ _ _ he]; exact rfl
        clear he
        go_wp2_with (first | (go_at_call 54; refine (rnone_any r q s'.err _ c0 d0).mono ?_; rintro e w' ⟨rfl, rfl⟩))
        go_ret
        rw [HS.out]
        exact ⟨_, rfl, OwnI.nil _, h2, hk2, by simp [Value.ownBlock]⟩
    · have hjn : n - j = 0 := by omega
      by_cases he : s'.err = 0
      · have he1 : (s'.err != 0) = false := by simp [he]
        have HS : Hid (R = (acc, s')) := by rw [HR2.out, hjn, rdVecGo, if_pos he]; exact rfl
        clear he
        go_wp2_with (first | (go_at_call 54; refine (rnone_any r q s'.err _ c0 d0).mono ?_; rintro e w' ⟨rfl, rfl⟩))
        go_ret
        rw [HS.out]
        exact ⟨_, rfl, ho2, h2, hk2, HFr.out⟩
      · have he1 : (s'.err != 0) = true := by simp [he]
        have HS : Hid (R = ([], s')) := by rw [HR2.out, rdVecGo_err bs _ _ _ he]; exact rfl
        clear he
        go_wp2_with (first | (go_at_call 54; refine (rnone_any r q s'.err _ c0 d0).mono ?_; rintro e w' ⟨rfl, rfl⟩))
        go_ret
        rw [HS.out]
        exact ⟨_, rfl, OwnI.nil _, h2, hk2, by simp [Value.ownBlock]⟩
end Go.Proofs.Ytpagolhlbceegaa
