/- Part 18 of what the laws' proofs rest on. No condition. -/
import Derived.Test.YtcncpbcbedfakaaGreatRo17
set_option linter.all false
section
namespace Go.Proofs.YtcncpbcbedfakaaGreat
set_option maxRecDepth 100000
def KPY (h : List AB) (id : Nat) : Option (AV × AV) :=
 match h[id]? with
 | some (.blk false true [v, d]) => if v.isSl = true ∧ d.isSl = true then some (v, d) else none
 | _ => none
theorem Q0B {h : List AB} {id : Nat} {x : AV × AV} (e : KPY h id = some x) : h[id]? = some (.blk false true [x.1, x.2]) ∧ x.1.isSl = true ∧ x.2.isSl = true := by
 unfold KPY at e
 split at e
 ·rename_i v d hb
  split at e
  ·rename_i hs
   cases e
   exact ⟨hb, hs⟩
  ·cases e
 ·cases e
theorem qHD {h : List AB} {id : Nat} {v d : AV} (hh : HOk h) (hb : h[id]? = some (.blk false true [v, d])) : v.ok (fun i => decide (i < h.length)) = true ∧ d.ok (fun i => decide (i < h.length)) = true := by
 have := hh id _ hb
 simpa [AB.ok, okL] using this
noncomputable def qMo : List AV → List AB → Option (AV × List AB)
 | [.p id 0, s], h => (KPY h id).bind fun x => (getS intR h x.1).bind fun xs => (getS intR h s).bind fun ys => if xs.length ≤ 1000000 ∧ ys.length ≤ 1000000 then some (.p id 0, bx2 h id (rsl intR h.length (XU4 xs ys)) x.2 ++ [resB intR true (XU4 xs ys)]) else none
 | _, _ => none
theorem QcX : Spec Tryz.prog 83 qMo := by
 intro args h v h' e
 unfold qMo at e
 split at e
 ·rename_i id s
  obtain ⟨⟨v0, d0⟩, hx, e⟩ := Option.bind_eq_some_iff.1 e
  obtain ⟨hb, hv, hd⟩ := Q0B hx
  obtain ⟨xs, h1, e⟩ := zZA e
  obtain ⟨ys, h2, e⟩ := zZA e
  split at e
  ·rename_i hl
   cases e
   dsimp only at *
   refine FnAt.c (FnAt.run (by kernel_rfl) (T := ⟨[⟨117, JFq, fun _ => []⟩], []⟩) ⟨⟨K2z, trivial⟩, trivial⟩ Tryz.func83 sw83 fun ho hh => ?_)
   simp only [XDC, Bool.and_eq_true] at ho
   have hid := (List.getElem?_eq_some_iff.1 hb).1
   have fb := q2V hid
   have f1 := (h1.bx2 hb hv hd JLP v0 d0).fxB (sz := 1) rfl
   have f2 := (h2.bx2 hb hv hd JLP v0 d0).fxB (sz := 1) rfl
   rw [show h ++ [] = bx2 h id v0 d0 ++ [] by rw [JGw hb]]
   unfold w83
   simp only [QhW, YqD, z18, Qgl, if_true, if_false, reduceIte, Nat.reduceAdd, Nat.reduceSub, Nat.reduceLeDiff, Nat.reduceEqDiff, Nat.reduceMul, Nat.reduceLT, Int.reduceLT, Int.reduceLE, Int.reduceEq, JFq, fb, f1, f2, hl]
   exact Bt.refl _ _ _
  ·cases e
 ·cases e
def JBs : List AV → List AB → Option (AV × List AB)
 | [.p id 0], h => (KPY h id).bind fun x => (lenV x.2).bind fun n => if 4096 < n then some (.tu [.ag [.ns, .ns], .i .i64 10], h) else some (.tu [.ag [x.1, x.2], .i .i64 0], h)
 | _, _ => none
theorem JpZ : Spec Tryz.prog 86 JBs := by
 intro args h v h' e
 unfold JBs at e
 split at e
 ·rename_i id
  obtain ⟨⟨v0, d0⟩, hx, e⟩ := Option.bind_eq_some_iff.1 e
  obtain ⟨hb, hv, hd⟩ := Q0B hx
  obtain ⟨n, hn, e⟩ := Option.bind_eq_some_iff.1 e
  dsimp only at *
  refine FnAt.c (FnAt.run (by kernel_rfl) (T := ⟨[], []⟩) ⟨trivial, trivial⟩ Tryz.func86 sw86 fun ho hh => ?_)
  have hid := (List.getElem?_eq_some_iff.1 hb).1
  have fb := q2V hid
  have e0 : h ++ [] = bx2 h id v0 d0 ++ [] := by rw [JGw hb]
  rw [e0]
  unfold w86
  simp only [QhW, YqD, z18, Qgl, if_true, if_false, reduceIte, Nat.reduceAdd, Nat.reduceSub, Nat.reduceLeDiff, Nat.reduceEqDiff, Nat.reduceMul, Nat.reduceLT, Int.reduceLT, Int.reduceLE, Int.reduceEq, fb, hn, q5E hd, q5E hv]
  rw [JGw hb]
  have ok := qHD hh hb
  refine ⟨fun h1 => ?_, fun h1 => ⟨by rw [Xm8 hv, Xm8 hd]; rfl, ?_⟩⟩
  ·rw [if_pos h1] at e
   cases e
   exact Bt.drop _ hh rfl (by simp [AV.ok, okL])
  ·rw [if_neg h1] at e
   cases e
   exact Bt.drop _ hh rfl (by simp [AV.ok, okL, ok.1, ok.2])
 ·cases e
def K01 (xs : List Int) : Nat → List Int
 | 0 => []
 | n + 1 => if xs.getD n intR.d = 0 then K01 xs n else xs.take (n + 1)
theorem Y1A {s : AV} {n m : Nat} (h : s.capOk = true) (hl : lenV s = some (n : Int)) (hm : m ≤ n) : (cutS s m).capOk = true := by
 cases s with
 | sl id off len cap k =>
  simp only [lenV, Option.some.injEq, Int.natCast_inj] at hl
  simp only [AV.capOk, cutS, decide_eq_true_eq] at h ⊢
  omega
 | _ => rfl
noncomputable def ZYT : List AV → List AB → Option (AV × List AB)
 | [.p id 0], h => (KPY h id).bind fun x => (getS intR h x.1).bind fun xs => if x.1.capOk = true then some (.p id 0, bx2 h id (cutS x.1 (K01 xs xs.length).length) x.2) else none
 | _, _ => none
theorem ZiL (s : AV) (n m : Nat) : cutS (cutS s n) m = cutS s m := by cases s <;> rfl
theorem QHP {s : AV} (h : s.isSl = true) (n : Nat) : (cutS s n).isSl = true := by cases s <;> first | rfl | cases h
theorem zI7 {s : AV} {n : Nat} (h : lenV s = some (n : Int)) : cutS s n = s := by
 cases s with
 | sl id off len cap k =>
  simp only [lenV, Option.some.injEq, Int.natCast_inj] at h
  subst h
  rfl
 | _ => rfl
theorem Rd.cut {α : Type} {r : Row α} {h : List AB} {s : AV} {l : List α} (e : Rd r h s l) (n : Nat) (hn : n ≤ l.length) : Rd r h (cutS s n) (l.take n) := by
  refine ⟨?_, by have := e.2; rw [List.length_take]; omega⟩
  have h1 := e.1
  have hl := zdT h1
  cases s with
  | sl id off len cap k =>
    simp only [lenV, Option.some.injEq, Int.natCast_inj] at hl
    subst hl
    simp only [cutS, rdS] at h1 ⊢
    by_cases h0 : n = 0
    · subst h0
      rfl
    · rw [if_neg h0]
      rw [if_neg (by omega)] at h1
      obtain ⟨xs, h2, h3⟩ := Option.bind_eq_some_iff.1 h1
      rw [h2]
      split at h3
      · rename_i h4
        simp only [Option.some.injEq, Prod.mk.injEq, true_and] at h3
        have hle := Nat.mul_le_mul_right r.sz hn
        simp only [Option.bind_some]
        rw [if_pos (by omega), List.length_take, Nat.min_eq_left hn, ← r.cells_take, ← h3, List.take_take, Nat.min_eq_left hle]
      · cases h3
  | ns => simp only [lenV, Option.some.injEq] at hl; have h0 : n = 0 := by omega
          subst h0; rfl
  | se => simp only [lenV, Option.some.injEq] at hl; have h0 : n = 0 := by omega
          subst h0; rfl
  | _ => cases h1
theorem zL3 {q : Nat → Bool} {s : AV} {n m : Nat} (h : s.ok q = true) (hl : lenV s = some (n : Int)) (hm : m ≤ n) : (cutS s m).ok q = true := by
 cases s with
 | sl id off len cap k =>
  simp only [lenV, Option.some.injEq, Int.natCast_inj] at hl
  rcases QwP h with ⟨rfl, rfl, rfl⟩ | h1
  ·have : m = 0 := by omega
   subst this
   exact h
  ·simp [cutS, AV.ok, h1]
 | _ => exact h
theorem qcX {sz : Nat} {s : AV} {n m : Nat} (hs : s.isSl = true) (hl : lenV s = some (n : Int)) (hok : s.capOk = true) (hm : m ≤ n) : slL sz s none (some (.i .i64 (m : Int))) none = some (cutS s m) := by
  cases s with
  | sl id off len cap k =>
    simp only [lenV, Option.some.injEq, Int.natCast_inj] at hl
    subst hl
    have : len ≤ cap := of_decide_eq_true hok
    simp only [slL, bnd, Option.map_some, cutS, if_true]
    rw [if_pos (by omega)]
    simp
  | ns => simp only [lenV, Option.some.injEq] at hl; have h0 : m = 0 := by omega
          subst h0; simp [slL, bnd, cutS]
  | se => simp only [lenV, Option.some.injEq] at hl; have h0 : m = 0 := by omega
          subst h0; simp [slL, bnd, cutS]
  | _ => cases hs
theorem QxF : Spec Tryz.prog 85 ZYT := by
 intro args h v h' e
 unfold ZYT at e
 split at e
 ·rename_i id
  obtain ⟨⟨v0, d0⟩, hx, e⟩ := Option.bind_eq_some_iff.1 e
  obtain ⟨hb, hv, hd⟩ := Q0B hx
  obtain ⟨xs, h1, e⟩ := zZA e
  split at e
  ·rename_i hcap
   cases e
   dsimp only at *
   refine FnAt.c (FnAt.run (by kernel_rfl) (T := ⟨[], []⟩) ⟨trivial, trivial⟩ Tryz.func85 sw85 fun ho hh => ?_)
   have hid := (List.getElem?_eq_some_iff.1 hb).1
   have fb := q2V hid
   have hlen := h1.len
   have e0 : h ++ [] = bx2 h id (cutS v0 xs.length) d0 ++ [] := by rw [zI7 hlen, JGw hb]
   rw [e0]
   unfold w85
   simp only [QhW, YqD, z18, Qgl, if_true, if_false, reduceIte, Nat.reduceAdd, Nat.reduceSub, Nat.reduceLeDiff, Nat.reduceEqDiff, Nat.reduceMul, Nat.reduceLT, Int.reduceLT, Int.reduceLE, Int.reduceEq]
   refine q2X (S := Nat) (fun n => n) (fun _ => [.p id 0] ++ tp 44) (fun n => bx2 h id (cutS v0 n) d0 ++ []) (fun n => n ≤ xs.length ∧ K01 xs xs.length = K01 xs n) xs.length ⟨Nat.le_refl _, rfl⟩ (Bt.wk (by simp only [z18, Qgl, if_true, if_false, reduceIte, Nat.reduceAdd, Nat.reduceSub, Nat.reduceLeDiff, Nat.reduceEqDiff, Nat.reduceMul, Nat.reduceLT, Int.reduceLT, Int.reduceLE, Int.reduceEq])) fun n hn => ?_
   have hs1 := QHP hv n
   have r1 := (h1.bx2 hb hv hd JLP (cutS v0 n) d0).cut n hn.1
   have f1 := r1.fxB (sz := 1) rfl
   have fl := r1.len
   have fi : ∀ k m, iadV 1 (cutS v0 n) (.i k m) = _ := r1.iad
   have ok := qHD hh hb
   have o1 := zL3 ok.1 hlen hn.1
   have fo : ∀ c lo hi anc past, (cutS v0 n).ok (qOk (h.length + c) lo hi anc past) = true := fun c lo hi anc past => AV.ok_mono (fun i q => YO5 (by simp only [decide_eq_true_eq] at q; omega)) _ o1
   have fe : ∀ k j c lo hi anc past, k < (xs.take n).length → (elP 1 (cutS v0 n) k j).ok (qOk (h.length + c) lo hi anc past) = true := fun k j c lo hi anc past hk => r1.okEl (fo c lo hi anc past) k j 1 hk
   have ln : (xs.take n).length = n := by rw [List.length_take]; omega
   rw [ln] at fl fi fe
   simp only [ln] at f1
   have hidz : id < (h.map AB.freeze).length := by rw [List.length_map]; exact hid
   have fz := q2V hidz
   simp only [List.length_map] at fz
   cases n with
   | zero =>
    simp only [z18, qdf, Qgl, if_true, if_false, reduceIte, Nat.reduceAdd, Nat.reduceSub, Nat.reduceLeDiff, Nat.reduceEqDiff, Nat.reduceMul, Nat.reduceLT, Int.reduceLT, Int.reduceLE, Int.reduceEq, CO.tmps, Opd.tmps, optT, Nat.reducePow, Nat.reduceDiv, Nat.reduceMod, fb, f1, fl, fi, fo, fe, q5E hs1, Int.lt_irrefl, Int.natCast_zero, false_implies, true_implies, implies_true]
    rw [hn.2, show K01 xs 0 = [] from rfl]
    exact Bt.eq rfl (List.append_nil _)
   | succ m =>
    have e1 : IntKind.i64.wrap (((m + 1 : Nat) : Int) - 1) = (m : Int) := by
     rw [show ((m + 1 : Nat) : Int) - 1 = (m : Int) by omega]
     exact ZWo (by have := h1.2; unfold maxLen at this; unfold In64; omega)
    have e2 : (0 < ((m + 1 : Nat) : Int)) = True := eq_true (by omega)
    have e3 : (m < m + 1) = True := eq_true (by omega)
    have e4 := qcX (sz := 1) hs1 fl (Y1A hcap hlen hn.1) (m := m) (by omega)
    rw [ZiL] at e4
    have e5 : (xs.take (m + 1)).getD m intR.d = xs.getD m intR.d := by
     rw [List.getD_eq_getElem?_getD, List.getD_eq_getElem?_getD, List.getElem?_take, if_pos (by omega)]
    have o2 := zL3 ok.1 hlen (m := m) (by omega)
    have fo2 : ∀ c lo hi anc past, (cutS v0 m).ok (qOk (h.length + c) lo hi anc past) = true := fun c lo hi anc past => AV.ok_mono (fun i q => YO5 (by simp only [decide_eq_true_eq] at q; omega)) _ o2
    have fo3 : ∀ c, (cutS v0 m).ok (fun i => decide (i < h.length + c)) = true := fun c => AV.ok_mono (fun i q => by simp only [decide_eq_true_eq] at q ⊢; omega) _ o2
    have fd2 : ∀ c lo hi anc past, d0.ok (qOk (h.length + c) lo hi anc past) = true := fun c lo hi anc past => AV.ok_mono (fun i q => YO5 (by simp only [decide_eq_true_eq] at q; omega)) _ ok.2
    have hk : ∀ x, HOk (bx2 h id (cutS v0 (m + 1)) d0 ++ x) = _ := fun x => z1w (Z7h id _ _) (XFY hid hh o1 ok.2) x
    simp only [z18, qdf, Qgl, if_true, if_false, reduceIte, Nat.reduceAdd, Nat.reduceSub, Nat.reduceLeDiff, Nat.reduceEqDiff, Nat.reduceMul, Nat.reduceLT, Int.reduceLT, Int.reduceLE, Int.reduceEq, CO.tmps, Opd.tmps, optT, Nat.reducePow, Nat.reduceDiv, Nat.reduceMod, fb, fz, f1, fl, fi, fo, fo2, fo3, fd2, fe, q5E hs1, e1, e2, e3, e4, e5, K4b, Zr2, Nat.zero_lt_one, hk, ZCe rfl hid, qNi hid, ZUF hidz, qZu, JR8, List.length_map, Xm8 (QHP hv m)]
    refine ⟨fun h4 => ⟨m, ⟨by omega, ?_⟩, by dsimp only; omega, Bt.wk (by simp only [z18, Xq8, if_true, if_false, reduceIte, Nat.reduceAdd, Nat.reduceSub, Nat.reduceLeDiff, Nat.reduceEqDiff, Nat.reduceMul, Nat.reduceLT, Int.reduceLT, Int.reduceLE, Int.reduceEq])⟩, fun h4 => ?_⟩
    ·rw [hn.2, K01, if_pos h4]
    ·have : (K01 xs xs.length).length = m + 1 := by rw [hn.2, K01, if_neg h4, List.length_take]; omega
     rw [this]
     exact Bt.eq rfl (List.append_nil _)
  ·cases e
 ·cases e
end Go.Proofs.YtcncpbcbedfakaaGreat
end
section
namespace Go.Proofs.YtcncpbcbedfakaaGreat
set_option maxRecDepth 100000
set_option maxHeartbeats 4000000
def bV (v0 : AV) (p : Nat) (v : List Int) : Bool → AV
 | true => rsl intR (p + 0) v
 | false => v0
def bB (v : List Int) : Bool → AB
 | true => resB intR true v
 | false => .dead
def AV.isNs : AV → Bool
 | .ns => true
 | _ => false
noncomputable def K1B : List AV → List AB → Option (AV × List AB)
 | [.p id 0, s], h => (KPY h id).bind fun x => (getS intR h x.1).bind fun xs => (getS dotR h s).bind fun ds =>
   if x.2.isNs = true ∧ xs.length ≤ 100000 ∧ ds.length ≤ 100000 ∧ (∀ n ∈ xs, n ≤ 1048576) ∧ ∀ d ∈ ds, qfE d then
    if (absR (xs, []) ds).1 = xs then some (.p id 0, bx2 h id x.1 (apS dotR h.length (absR (xs, []) ds).2) ++ [resB dotR true (absR (xs, []) ds).2])
    else some (.p id 0, bx2 h id (rsl intR h.length (absR (xs, []) ds).1) (apS dotR (h.length + 1) (absR (xs, []) ds).2) ++ [resB intR true (absR (xs, []) ds).1, resB dotR true (absR (xs, []) ds).2])
   else none
 | _, _ => none
theorem Ywy (xs : List Int) (h : ∀ n ∈ xs, n ≤ 1048576) (r : Int) : vAt xs r ≤ 1048576 := by
 by_cases ho : r < 1 ∨ (xs.length : Int) < r
 ·rw [J6M _ _ ho]; omega
 ·obtain ⟨k, rfl⟩ : ∃ k : Nat, r = ((k + 1 : Nat) : Int) := ⟨(r - 1).toNat, by omega⟩
  have hk : k < xs.length := by omega
  rw [zJo _ k hk, List.getD_eq_getElem?_getD, List.getElem?_eq_getElem hk]
  have := h _ (List.getElem_mem hk)
  simp only [Option.getD_some]
  omega
theorem Q6K (s : AbS) {d : Int × Int} (hd : qfE d) (h : ∀ r, vAt s.1 r ≤ 1048576) (r : Int) : vAt (absD s d).1 r ≤ 1048576 := by
 unfold absD
 split
 ·exact h r
 ·split
  ·rename_i h1 h2
   rw [JxJ s.1 hd (by omega)]
   have := hd.2.2.2
   split
   ·omega
   ·exact h r
  ·split <;> exact h r
theorem Jy3 {xs vl : List Int} {d : Int × Int} (hd : qfE d) (hn : vAt vl d.1 < d.2) (hge : vAt xs d.1 ≤ vAt vl d.1) : QFM vl d ≠ xs := by
 rintro rfl
 rw [JxJ vl hd hn, if_pos rfl] at hge
 omega
structure DotsInv (xs : List Int) (ds : Dots) (i : Nat) (c : Bool) : Prop where
 le : i ≤ ds.length
 no : c = false → (absR (xs, []) (ds.take i)).1 = xs
 yes : c = true → (absR (xs, []) (ds.take i)).1 ≠ xs
 ge : ∀ r, vAt xs r ≤ vAt (absR (xs, []) (ds.take i)).1 r
 bd : ∀ r, vAt (absR (xs, []) (ds.take i)).1 r ≤ 1048576
 l1 : (absR (xs, []) (ds.take i)).1.length ≤ max xs.length 16
 l2 : (absR (xs, []) (ds.take i)).2.length ≤ i
theorem Jkl : Spec Tryz.prog 84 K1B := by
 intro args h v h' e
 unfold K1B at e
 split at e
 ·rename_i id s
  obtain ⟨⟨v0, d0⟩, hx, e⟩ := Option.bind_eq_some_iff.1 e
  obtain ⟨hb, hv, hd⟩ := Q0B hx
  obtain ⟨xs, h1, e⟩ := zZA e
  obtain ⟨ds, h2, e⟩ := zZA e
  dsimp only at *
  split at e
  ·rename_i hc
   have ee := e
   obtain ⟨hns, hl1, hl2, hbd0, hdd⟩ := hc
   obtain rfl : d0 = .ns := by cases d0 <;> first | rfl | cases hns
   refine FnAt.c (FnAt.run (by kernel_rfl) (T := ⟨[⟨77, T_At, fun _ => []⟩, ⟨118, YjC, fun _ => []⟩], []⟩) ⟨⟨QFU, qsG, trivial⟩, trivial⟩ Tryz.func84 sw84 fun ho hh => ?_)
   simp only [XDC, Bool.and_eq_true] at ho
   have hid := (List.getElem?_eq_some_iff.1 hb).1
   have fb := q2V hid
   have hidz : id < (h.map AB.freeze).length := by rw [List.length_map]; exact hid
   have fz := q2V hidz
   simp only [List.length_map] at fz
   have ok := qHD hh hb
   have fs := h2.fx ho.2.1 (sz := 2) rfl
   have e0 : h ++ [] = bx2 h id v0 .ns ++ [] := by rw [JGw hb]
   rw [e0]
   unfold w84
   simp only [QhW, YqD, z18, Qgl, if_true, if_false, reduceIte, Nat.reduceAdd, Nat.reduceSub, Nat.reduceLeDiff, Nat.reduceEqDiff, Nat.reduceMul, Nat.reduceLT, Int.reduceLT, Int.reduceLE, Int.reduceEq, fs]
   have inv0 : DotsInv xs ds 0 false := ⟨Nat.zero_le _, fun _ => rfl, fun h => (by cases h), fun r => Int.le_refl _, Ywy xs hbd0, Nat.le_max_left _ _, Nat.le_refl _⟩
   refine q2X (S := Nat × Bool) (fun x => ds.length - x.1) (fun x => [.p id 0] ++ tp 8 ++ [s, .i .i64 ds.length, .i .i64 x.1] ++ tp 68)
    (fun x => bx2 h id (bV v0 h.length (absR (xs, []) (ds.take x.1)).1 x.2) (apS dotR (h.length + 1) (absR (xs, []) (ds.take x.1)).2) ++ [bB (absR (xs, []) (ds.take x.1)).1 x.2, resB dotR true (absR (xs, []) (ds.take x.1)).2])
    (fun x => DotsInv xs ds x.1 x.2) (0, false) inv0 ?_ fun x hx => ?_
   ·have e : (bx2 h id v0 .ns ++ []) ++ List.replicate 2 AB.dead = bx2 h id v0 .ns ++ [.dead, .dead] := by rw [List.append_nil]; rfl
    show Bt _ _ _ _ _ (bx2 h id v0 .ns ++ [.dead, .dead])
    rw [← e]
    refine Bt.trans (Bt.wk ?_) (Bt.pad _ _ 2)
    simp only [z18, Xq8, if_true, if_false, reduceIte, Nat.reduceAdd, Nat.reduceSub, Nat.reduceLeDiff, Nat.reduceEqDiff, Nat.reduceMul, Nat.reduceLT, Int.reduceLT, Int.reduceLE, Int.reduceEq]
   obtain ⟨i, c⟩ := x
   have hi := hx.le
   dsimp only at hi ⊢
   generalize hst : absR (xs, []) (ds.take i) = st at *
   obtain ⟨vl, dl⟩ := st
   have hy := hx.yes
   have hn := hx.no
   have hge := hx.ge
   have hbd := hx.bd
   have hll := hx.l1
   have hl3 := hx.l2
   rw [hst] at hy hn hge hbd hll hl3
   dsimp only at *
   simp only [z18, Qgl, if_true, if_false, reduceIte, Nat.reduceAdd, Nat.reduceSub, Nat.reduceLeDiff, Nat.reduceEqDiff, Nat.reduceMul, Nat.reduceLT, Int.reduceLT, Int.reduceLE, Int.reduceEq, fs]
   refine ⟨fun g1 => ?_, fun g1 => ?_⟩
   ·have hstep := qJq (xs, []) g1
    rw [hst] at hstep
    generalize hdi : ds.getD i dotR.d = d at hstep
    have hdm : qfE d := hdd d (by rw [← hdi, List.getD_eq_getElem?_getD, List.getElem?_eq_getElem g1]; exact List.getElem_mem g1)
    have e1 : IntKind.i64.wrap ((i : Int) + 1) = ((i + 1 : Nat) : Int) := ZWo (by unfold In64; omega)
    have e2 : IntKind.i64.wrap (vAt vl d.1 + 1) = vAt vl d.1 + 1 := ZWo (by have := hbd d.1; have := Qaf vl d.1; unfold In64; omega)
    have o1 := ok.1
    have fo : ∀ c lo hi anc past, v0.ok (qOk (h.length + c) lo hi anc past) = true := fun c lo hi anc past => AV.ok_mono (fun i q => YO5 (by simp only [decide_eq_true_eq] at q; omega)) _ o1
    have fo2 : ∀ c, v0.ok (fun i => decide (i < h.length + c)) = true := fun c => AV.ok_mono (fun i q => by simp only [decide_eq_true_eq] at q ⊢; omega) _ o1
    have fo3 : ∀ c, s.ok (fun i => decide (i < h.length + c)) = true := fun c => AV.ok_mono (fun i q => by simp only [decide_eq_true_eq] at q ⊢; omega) _ ho.2.1
    have fr1 : ∀ sel, Wk (v0.ren (selN h.length sel)) v0 := fun sel => Wk.ren (fun i hi => ZiG hi) o1
    have fr2 : ∀ sel, Wk (s.ren (selN h.length sel)) s := fun sel => Wk.ren (fun i hi => ZiG hi) ho.2.1
    have fid : ∀ sel, selN h.length sel id = id := fun sel => ZiG hid
    have q0 : ∀ c, decide (id < h.length + c) = true := fun c => decide_eq_true (by omega)
    have inv : ∀ c', ((absR (xs, []) (ds.take (i + 1))).1 = xs ↔ c' = false) → DotsInv xs ds (i + 1) c' := fun c' hc' => by
     have a1 := Jes (vl, dl) hdm
     have a2 := Q6K (vl, dl) hdm hbd
     have a3 := KYD (vl, dl) d
     rw [← hstep] at a1 a2 a3
     exact ⟨g1, fun q => hc'.2 q, fun q z => (by rw [hc'.1 z] at q; cases q), fun r => Int.le_trans (hge r) (a1 r), a2, by dsimp only at a3; omega, by dsimp only at a3; omega⟩
    have wl : ∀ x : List Int, x.length ≤ 100016 → (x.length ≤ 1000000) = True := fun x hx => eq_true (by omega)
    have vll := wl vl (by omega)
    by_cases g0 : dl.length = 0
    ·obtain rfl := List.length_eq_zero_iff.1 g0
     cases c with
     | false =>
      obtain rfl := hn rfl
      have f1 := (h1.bx2 hb hv hd JLP v0 .ns).fxB (sz := 1) rfl
      have f2 := (h2.bx2 hb hv hd YWL v0 .ns).fxB (sz := 2) rfl
      simp only [q8J, bV, bB, z18, qdf, Qgl, if_true, if_false, reduceIte, Nat.reduceAdd, Nat.reduceSub, Nat.reduceLeDiff, Nat.reduceEqDiff, Nat.reduceMul, Nat.reduceLT, Int.reduceLT, Int.reduceLE, Int.reduceEq, CO.tmps, Opd.tmps, optT, Nat.reducePow, Nat.reduceDiv, Nat.reduceMod, fb, fz, f1, f2, fs, g1, hdi, zBW, T_At, YjC, fo, fo2, zgE hid hh, X1C, ZCe rfl hid, qNi hid, ZUF hidz, qZu, JR8, List.length_map, e1, e2, vll, Xm8 hv]
      refine ⟨fun g2 => ?_, fun g2 => ⟨fun g3 => ?_, fun g3 => ⟨by decide, ?_⟩⟩⟩
      ·have st' : absR (vl, []) (ds.take (i + 1)) = (vl, []) := by rw [hstep]; simp only [absD, if_pos g2]
       refine ⟨(i + 1, false), inv false (by rw [st']; exact ⟨fun _ => rfl, fun _ => rfl⟩), by dsimp only; omega, ?_⟩
       simp only [st', bV, bB]
       exact Bt.selB hid [0, 1] hh (by simp only [KlE, FrSel, BlkSel, AV.ren, renL, AV.ok, okL, Option.some.injEq, exists_eq_left', List.length_cons, List.length_nil, Nat.reduceAdd, Nat.reduceLT, reduceCtorEq, implies_true, exists_eq', fo2, fo3, fr1, fr2, fid, q0]) (by decide) (by simp only [KlE, FrSel, BlkSel, AV.ren, renL, AV.ok, okL, Option.some.injEq, exists_eq_left', List.length_cons, List.length_nil, Nat.reduceAdd, Nat.reduceLT, reduceCtorEq, implies_true, exists_eq', fo2, fo3, fr1, fr2, fid, q0]) (by simp only [KlE, FrSel, BlkSel, AV.ren, renL, AV.ok, okL, Option.some.injEq, exists_eq_left', List.length_cons, List.length_nil, Nat.reduceAdd, Nat.reduceLT, reduceCtorEq, implies_true, exists_eq', fo2, fo3, fr1, fr2, fid, q0])
      ·have st' : absR (vl, []) (ds.take (i + 1)) = (QFM vl d, []) := by rw [hstep]; simp only [absD, if_neg g2, if_pos g3]
       refine ⟨(i + 1, true), inv true (by rw [st']; exact ⟨fun q => absurd q (Jy3 hdm (by omega) (hge d.1)), fun q => by cases q⟩), by dsimp only; omega, ?_⟩
       simp only [st', bV, bB]
       exact Bt.selB hid [3, 1] hh (by simp only [KlE, FrSel, BlkSel, AV.ren, renL, AV.ok, okL, Option.some.injEq, exists_eq_left', List.length_cons, List.length_nil, Nat.reduceAdd, Nat.reduceLT, reduceCtorEq, implies_true, exists_eq', fo2, fo3, fr1, fr2, fid, q0]) (by decide) (by simp only [KlE, FrSel, BlkSel, AV.ren, renL, AV.ok, okL, Option.some.injEq, exists_eq_left', List.length_cons, List.length_nil, Nat.reduceAdd, Nat.reduceLT, reduceCtorEq, implies_true, exists_eq', fo2, fo3, fr1, fr2, fid, q0]) (by simp only [KlE, FrSel, BlkSel, AV.ren, renL, AV.ok, okL, Option.some.injEq, exists_eq_left', List.length_cons, List.length_nil, Nat.reduceAdd, Nat.reduceLT, reduceCtorEq, implies_true, exists_eq', fo2, fo3, fr1, fr2, fid, q0])
      ·have st' : absR (vl, []) (ds.take (i + 1)) = (vl, [d]) := by rw [hstep]; simp only [absD, if_neg g2, if_neg g3, List.length_nil, true_or, if_true, List.nil_append]
       refine ⟨(i + 1, false), inv false (by rw [st']; exact ⟨fun _ => rfl, fun _ => rfl⟩), by dsimp only; omega, ?_⟩
       simp only [st', bV, bB]
       exact Bt.selB hid [0, 4] hh (by simp only [KlE, FrSel, BlkSel, AV.ren, renL, AV.ok, okL, Option.some.injEq, exists_eq_left', List.length_cons, List.length_nil, Nat.reduceAdd, Nat.reduceLT, reduceCtorEq, implies_true, exists_eq', fo2, fo3, fr1, fr2, fid, q0]) (by decide) (by simp only [KlE, FrSel, BlkSel, AV.ren, renL, AV.ok, okL, Option.some.injEq, exists_eq_left', List.length_cons, List.length_nil, Nat.reduceAdd, Nat.reduceLT, reduceCtorEq, implies_true, exists_eq', fo2, fo3, fr1, fr2, fid, q0]) (by simp only [KlE, FrSel, BlkSel, AV.ren, renL, AV.ok, okL, Option.some.injEq, exists_eq_left', List.length_cons, List.length_nil, Nat.reduceAdd, Nat.reduceLT, reduceCtorEq, implies_true, exists_eq', fo2, fo3, fr1, fr2, fid, q0])
     | true =>
      have f2 := (h2.bx2 hb hv hd YWL (rsl intR (h.length + 0) vl) .ns).fxB (sz := 2) rfl
      have hm : vl.length ≤ maxLen := by unfold maxLen; omega
      simp only [q8J, hm, bV, bB, z18, qdf, Qgl, if_true, if_false, reduceIte, Nat.reduceAdd, Nat.reduceSub, Nat.reduceLeDiff, Nat.reduceEqDiff, Nat.reduceMul, Nat.reduceLT, Int.reduceLT, Int.reduceLE, Int.reduceEq, CO.tmps, Opd.tmps, optT, Nat.reducePow, Nat.reduceDiv, Nat.reduceMod, fb, fz, f2, fs, g1, hdi, zBW, T_At, YjC, fo, fo2, zgE hid hh, X1C, ZCe rfl hid, qNi hid, ZUF hidz, qZu, JR8, List.length_map, e1, e2, vll, Xm8 hv]
      refine ⟨fun g2 => ?_, fun g2 => ⟨fun g3 => ?_, fun g3 => ⟨by decide, ?_⟩⟩⟩
      ·have st' : absR (xs, []) (ds.take (i + 1)) = (vl, []) := by rw [hstep]; simp only [absD, if_pos g2]
       refine ⟨(i + 1, true), inv true (by rw [st']; exact ⟨fun q => absurd q (hy rfl), fun q => by cases q⟩), by dsimp only; omega, ?_⟩
       simp only [st', bV, bB]
       exact Bt.selB hid [0, 1] hh (by simp only [KlE, FrSel, BlkSel, AV.ren, renL, AV.ok, okL, Option.some.injEq, exists_eq_left', List.length_cons, List.length_nil, Nat.reduceAdd, Nat.reduceLT, reduceCtorEq, implies_true, exists_eq', fo2, fo3, fr1, fr2, fid, q0]) (by decide) (by simp only [KlE, FrSel, BlkSel, AV.ren, renL, AV.ok, okL, Option.some.injEq, exists_eq_left', List.length_cons, List.length_nil, Nat.reduceAdd, Nat.reduceLT, reduceCtorEq, implies_true, exists_eq', fo2, fo3, fr1, fr2, fid, q0]) (by simp only [KlE, FrSel, BlkSel, AV.ren, renL, AV.ok, okL, Option.some.injEq, exists_eq_left', List.length_cons, List.length_nil, Nat.reduceAdd, Nat.reduceLT, reduceCtorEq, implies_true, exists_eq', fo2, fo3, fr1, fr2, fid, q0])
      ·have st' : absR (xs, []) (ds.take (i + 1)) = (QFM vl d, []) := by rw [hstep]; simp only [absD, if_neg g2, if_pos g3]
       refine ⟨(i + 1, true), inv true (by rw [st']; exact ⟨fun q => absurd q (Jy3 hdm (by omega) (hge d.1)), fun q => by cases q⟩), by dsimp only; omega, ?_⟩
       simp only [st', bV, bB]
       exact Bt.selB hid [3, 1] hh (by simp only [KlE, FrSel, BlkSel, AV.ren, renL, AV.ok, okL, Option.some.injEq, exists_eq_left', List.length_cons, List.length_nil, Nat.reduceAdd, Nat.reduceLT, reduceCtorEq, implies_true, exists_eq', fo2, fo3, fr1, fr2, fid, q0]) (by decide) (by simp only [KlE, FrSel, BlkSel, AV.ren, renL, AV.ok, okL, Option.some.injEq, exists_eq_left', List.length_cons, List.length_nil, Nat.reduceAdd, Nat.reduceLT, reduceCtorEq, implies_true, exists_eq', fo2, fo3, fr1, fr2, fid, q0]) (by simp only [KlE, FrSel, BlkSel, AV.ren, renL, AV.ok, okL, Option.some.injEq, exists_eq_left', List.length_cons, List.length_nil, Nat.reduceAdd, Nat.reduceLT, reduceCtorEq, implies_true, exists_eq', fo2, fo3, fr1, fr2, fid, q0])
      ·have st' : absR (xs, []) (ds.take (i + 1)) = (vl, [d]) := by rw [hstep]; simp only [absD, if_neg g2, if_neg g3, List.length_nil, true_or, if_true, List.nil_append]
       refine ⟨(i + 1, true), inv true (by rw [st']; exact ⟨fun q => absurd q (hy rfl), fun q => by cases q⟩), by dsimp only; omega, ?_⟩
       simp only [st', bV, bB]
       exact Bt.selB hid [0, 4] hh (by simp only [KlE, FrSel, BlkSel, AV.ren, renL, AV.ok, okL, Option.some.injEq, exists_eq_left', List.length_cons, List.length_nil, Nat.reduceAdd, Nat.reduceLT, reduceCtorEq, implies_true, exists_eq', fo2, fo3, fr1, fr2, fid, q0]) (by decide) (by simp only [KlE, FrSel, BlkSel, AV.ren, renL, AV.ok, okL, Option.some.injEq, exists_eq_left', List.length_cons, List.length_nil, Nat.reduceAdd, Nat.reduceLT, reduceCtorEq, implies_true, exists_eq', fo2, fo3, fr1, fr2, fid, q0]) (by simp only [KlE, FrSel, BlkSel, AV.ren, renL, AV.ok, okL, Option.some.injEq, exists_eq_left', List.length_cons, List.length_nil, Nat.reduceAdd, Nat.reduceLT, reduceCtorEq, implies_true, exists_eq', fo2, fo3, fr1, fr2, fid, q0])
    ·have gl : dl.length ≤ maxLen := by unfold maxLen; omega
     have gm : dl.length + 1 ≤ maxLen := by unfold maxLen; omega
     have g0c : ((dl.length : Int) = 0) = False := eq_false (by omega)
     have gb : (dl.length + 1) * 16 ≤ 140737488355328 := by omega
     have e3 : IntKind.i64.wrap ((dl.length : Int) - 1) = ((dl.length - 1 : Nat) : Int) := by rw [show ((dl.length : Int) - 1) = ((dl.length - 1 : Nat) : Int) from by omega]; exact ZWo (by unfold In64; omega)
     have glt : dl.length - 1 < dl.length := by omega
     have gr : ∀ id, apS dotR id dl = rsl dotR id dl := fun id => YM2 _ g0
     cases c with
     | false =>
      obtain rfl := hn rfl
      have f1 := (h1.bx2 hb hv hd JLP v0 (rsl dotR (h.length + 1) dl)).fxB (sz := 1) rfl
      have f2 := (h2.bx2 hb hv hd YWL v0 (rsl dotR (h.length + 1) dl)).fxB (sz := 2) rfl
      have fa := fun L k ys hb => q9y (h := List.map AB.freeze (bx2 h id v0 (rsl dotR (h.length + 1) dl))) (p := h.length) (by rw [List.length_map]; exact Z7h id _ _) (r := dotR) (sz := 2) rfl L k dl 16 1 ys g0 hb (by decide) gb gm
      have fl := fun L k n => Q0a (h := bx2 h id v0 (rsl dotR (h.length + 1) dl)) (p := h.length) (Z7h id _ _) (r := dotR) (sz := 2) rfl L k dl n
      simp only [gr, eqc2, ZVr, g0c, glt, gb, gl, gm, fa, fl, e3, YC4 (r := dotR) (sz := 2) rfl, bV, bB, z18, qdf, Qgl, if_true, if_false, reduceIte, Nat.reduceAdd, Nat.reduceSub, Nat.reduceLeDiff, Nat.reduceEqDiff, Nat.reduceMul, Nat.reduceLT, Int.reduceLT, Int.reduceLE, Int.reduceEq, CO.tmps, Opd.tmps, optT, Nat.reducePow, Nat.reduceDiv, Nat.reduceMod, fb, fz, f1, f2, fs, g1, hdi, zBW, T_At, YjC, fo, fo2, zgE hid hh, X1C, ZCe rfl hid, qNi hid, ZUF hidz, qZu, JR8, List.length_map, e1, e2, vll, Xm8 hv]
      refine ⟨fun g2 => ?_, fun g2 => ⟨fun g3 => ?_, fun g3 => ⟨fun g4 => ?_, fun g4 => ?_⟩⟩⟩
      ·have st' : absR (vl, []) (ds.take (i + 1)) = (vl, dl) := by rw [hstep]; simp only [absD, if_pos g2]
       refine ⟨(i + 1, false), inv false (by rw [st']; exact ⟨fun _ => rfl, fun _ => rfl⟩), by dsimp only; omega, ?_⟩
       simp only [st', bV, bB, gr, ZTM, YEn]
       exact Bt.selB hid [0, 1] hh (by simp only [KlE, FrSel, BlkSel, AV.ren, renL, AV.ok, okL, Option.some.injEq, exists_eq_left', List.length_cons, List.length_nil, Nat.reduceAdd, Nat.reduceLT, reduceCtorEq, implies_true, exists_eq', ZVr, fo2, fo3, fr1, fr2, fid, q0]) (by decide) (by simp only [KlE, FrSel, BlkSel, AV.ren, renL, AV.ok, okL, Option.some.injEq, exists_eq_left', List.length_cons, List.length_nil, Nat.reduceAdd, Nat.reduceLT, reduceCtorEq, implies_true, exists_eq', ZVr, fo2, fo3, fr1, fr2, fid, q0]) (by simp only [KlE, FrSel, BlkSel, AV.ren, renL, AV.ok, okL, Option.some.injEq, exists_eq_left', List.length_cons, List.length_nil, Nat.reduceAdd, Nat.reduceLT, reduceCtorEq, implies_true, exists_eq', ZVr, fo2, fo3, fr1, fr2, fid, q0])
      ·have st' : absR (vl, []) (ds.take (i + 1)) = (QFM vl d, dl) := by rw [hstep]; simp only [absD, if_neg g2, if_pos g3]
       refine ⟨(i + 1, true), inv true (by rw [st']; exact ⟨fun q => absurd q (Jy3 hdm (by omega) (hge d.1)), fun q => by cases q⟩), by dsimp only; omega, ?_⟩
       simp only [st', bV, bB, gr, ZTM, YEn]
       exact Bt.selB hid [3, 1] hh (by simp only [KlE, FrSel, BlkSel, AV.ren, renL, AV.ok, okL, Option.some.injEq, exists_eq_left', List.length_cons, List.length_nil, Nat.reduceAdd, Nat.reduceLT, reduceCtorEq, implies_true, exists_eq', ZVr, fo2, fo3, fr1, fr2, fid, q0]) (by decide) (by simp only [KlE, FrSel, BlkSel, AV.ren, renL, AV.ok, okL, Option.some.injEq, exists_eq_left', List.length_cons, List.length_nil, Nat.reduceAdd, Nat.reduceLT, reduceCtorEq, implies_true, exists_eq', ZVr, fo2, fo3, fr1, fr2, fid, q0]) (by simp only [KlE, FrSel, BlkSel, AV.ren, renL, AV.ok, okL, Option.some.injEq, exists_eq_left', List.length_cons, List.length_nil, Nat.reduceAdd, Nat.reduceLT, reduceCtorEq, implies_true, exists_eq', ZVr, fo2, fo3, fr1, fr2, fid, q0])
      ·have st' : absR (vl, []) (ds.take (i + 1)) = (vl, dl ++ [d]) := by rw [hstep]; simp only [absD, if_neg g2, if_neg g3, ne_eq, g4, not_false_eq_true, or_true, if_true]
       refine ⟨(i + 1, false), inv false (by rw [st']; exact ⟨fun _ => rfl, fun _ => rfl⟩), by dsimp only; omega, ?_⟩
       simp only [st', bV, bB, gr, ZTM, YEn]
       exact Bt.selB hid [0, 4] hh (by simp only [KlE, FrSel, BlkSel, AV.ren, renL, AV.ok, okL, Option.some.injEq, exists_eq_left', List.length_cons, List.length_nil, Nat.reduceAdd, Nat.reduceLT, reduceCtorEq, implies_true, exists_eq', ZVr, fo2, fo3, fr1, fr2, fid, q0]) (by decide) (by simp only [KlE, FrSel, BlkSel, AV.ren, renL, AV.ok, okL, Option.some.injEq, exists_eq_left', List.length_cons, List.length_nil, Nat.reduceAdd, Nat.reduceLT, reduceCtorEq, implies_true, exists_eq', ZVr, fo2, fo3, fr1, fr2, fid, q0]) (by simp only [KlE, FrSel, BlkSel, AV.ren, renL, AV.ok, okL, Option.some.injEq, exists_eq_left', List.length_cons, List.length_nil, Nat.reduceAdd, Nat.reduceLT, reduceCtorEq, implies_true, exists_eq', ZVr, fo2, fo3, fr1, fr2, fid, q0])
      ·have st' : absR (vl, []) (ds.take (i + 1)) = (vl, dl) := by rw [hstep]; simp only [absD, if_neg g2, if_neg g3, ne_eq, g0, g4, not_true_eq_false, false_or, if_false]
       refine ⟨(i + 1, false), inv false (by rw [st']; exact ⟨fun _ => rfl, fun _ => rfl⟩), by dsimp only; omega, ?_⟩
       simp only [st', bV, bB, gr, ZTM, YEn]
       exact Bt.selB hid [0, 1] hh (by simp only [KlE, FrSel, BlkSel, AV.ren, renL, AV.ok, okL, Option.some.injEq, exists_eq_left', List.length_cons, List.length_nil, Nat.reduceAdd, Nat.reduceLT, reduceCtorEq, implies_true, exists_eq', ZVr, fo2, fo3, fr1, fr2, fid, q0]) (by decide) (by simp only [KlE, FrSel, BlkSel, AV.ren, renL, AV.ok, okL, Option.some.injEq, exists_eq_left', List.length_cons, List.length_nil, Nat.reduceAdd, Nat.reduceLT, reduceCtorEq, implies_true, exists_eq', ZVr, fo2, fo3, fr1, fr2, fid, q0]) (by simp only [KlE, FrSel, BlkSel, AV.ren, renL, AV.ok, okL, Option.some.injEq, exists_eq_left', List.length_cons, List.length_nil, Nat.reduceAdd, Nat.reduceLT, reduceCtorEq, implies_true, exists_eq', ZVr, fo2, fo3, fr1, fr2, fid, q0])
     | true =>
      have f2 := (h2.bx2 hb hv hd YWL (rsl intR (h.length + 0) vl) (rsl dotR (h.length + 1) dl)).fxB (sz := 2) rfl
      have hm : vl.length ≤ maxLen := by unfold maxLen; omega
      have fa := fun L k ys hb => q9y (h := List.map AB.freeze (bx2 h id (rsl intR (h.length + 0) vl) (rsl dotR (h.length + 1) dl))) (p := h.length) (by rw [List.length_map]; exact Z7h id _ _) (r := dotR) (sz := 2) rfl L k dl 16 1 ys g0 hb (by decide) gb gm
      have fl := fun L k n => Q0a (h := bx2 h id (rsl intR (h.length + 0) vl) (rsl dotR (h.length + 1) dl)) (p := h.length) (Z7h id _ _) (r := dotR) (sz := 2) rfl L k dl n
      simp only [gr, eqc2, ZVr, g0c, glt, gb, gl, gm, fa, fl, e3, YC4 (r := dotR) (sz := 2) rfl, bV, bB, z18, qdf, Qgl, if_true, if_false, reduceIte, Nat.reduceAdd, Nat.reduceSub, Nat.reduceLeDiff, Nat.reduceEqDiff, Nat.reduceMul, Nat.reduceLT, Int.reduceLT, Int.reduceLE, Int.reduceEq, CO.tmps, Opd.tmps, optT, Nat.reducePow, Nat.reduceDiv, Nat.reduceMod, fb, fz, hm, f2, fs, g1, hdi, zBW, T_At, YjC, fo, fo2, zgE hid hh, X1C, ZCe rfl hid, qNi hid, ZUF hidz, qZu, JR8, List.length_map, e1, e2, vll, Xm8 hv]
      refine ⟨fun g2 => ?_, fun g2 => ⟨fun g3 => ?_, fun g3 => ⟨fun g4 => ?_, fun g4 => ?_⟩⟩⟩
      ·have st' : absR (xs, []) (ds.take (i + 1)) = (vl, dl) := by rw [hstep]; simp only [absD, if_pos g2]
       refine ⟨(i + 1, true), inv true (by rw [st']; exact ⟨fun q => absurd q (hy rfl), fun q => by cases q⟩), by dsimp only; omega, ?_⟩
       simp only [st', bV, bB, gr, ZTM, YEn]
       exact Bt.selB hid [0, 1] hh (by simp only [KlE, FrSel, BlkSel, AV.ren, renL, AV.ok, okL, Option.some.injEq, exists_eq_left', List.length_cons, List.length_nil, Nat.reduceAdd, Nat.reduceLT, reduceCtorEq, implies_true, exists_eq', ZVr, fo2, fo3, fr1, fr2, fid, q0]) (by decide) (by simp only [KlE, FrSel, BlkSel, AV.ren, renL, AV.ok, okL, Option.some.injEq, exists_eq_left', List.length_cons, List.length_nil, Nat.reduceAdd, Nat.reduceLT, reduceCtorEq, implies_true, exists_eq', ZVr, fo2, fo3, fr1, fr2, fid, q0]) (by simp only [KlE, FrSel, BlkSel, AV.ren, renL, AV.ok, okL, Option.some.injEq, exists_eq_left', List.length_cons, List.length_nil, Nat.reduceAdd, Nat.reduceLT, reduceCtorEq, implies_true, exists_eq', ZVr, fo2, fo3, fr1, fr2, fid, q0])
      ·have st' : absR (xs, []) (ds.take (i + 1)) = (QFM vl d, dl) := by rw [hstep]; simp only [absD, if_neg g2, if_pos g3]
       refine ⟨(i + 1, true), inv true (by rw [st']; exact ⟨fun q => absurd q (Jy3 hdm (by omega) (hge d.1)), fun q => by cases q⟩), by dsimp only; omega, ?_⟩
       simp only [st', bV, bB, gr, ZTM, YEn]
       exact Bt.selB hid [3, 1] hh (by simp only [KlE, FrSel, BlkSel, AV.ren, renL, AV.ok, okL, Option.some.injEq, exists_eq_left', List.length_cons, List.length_nil, Nat.reduceAdd, Nat.reduceLT, reduceCtorEq, implies_true, exists_eq', ZVr, fo2, fo3, fr1, fr2, fid, q0]) (by decide) (by simp only [KlE, FrSel, BlkSel, AV.ren, renL, AV.ok, okL, Option.some.injEq, exists_eq_left', List.length_cons, List.length_nil, Nat.reduceAdd, Nat.reduceLT, reduceCtorEq, implies_true, exists_eq', ZVr, fo2, fo3, fr1, fr2, fid, q0]) (by simp only [KlE, FrSel, BlkSel, AV.ren, renL, AV.ok, okL, Option.some.injEq, exists_eq_left', List.length_cons, List.length_nil, Nat.reduceAdd, Nat.reduceLT, reduceCtorEq, implies_true, exists_eq', ZVr, fo2, fo3, fr1, fr2, fid, q0])
      ·have st' : absR (xs, []) (ds.take (i + 1)) = (vl, dl ++ [d]) := by rw [hstep]; simp only [absD, if_neg g2, if_neg g3, ne_eq, g4, not_false_eq_true, or_true, if_true]
       refine ⟨(i + 1, true), inv true (by rw [st']; exact ⟨fun q => absurd q (hy rfl), fun q => by cases q⟩), by dsimp only; omega, ?_⟩
       simp only [st', bV, bB, gr, ZTM, YEn]
       exact Bt.selB hid [0, 4] hh (by simp only [KlE, FrSel, BlkSel, AV.ren, renL, AV.ok, okL, Option.some.injEq, exists_eq_left', List.length_cons, List.length_nil, Nat.reduceAdd, Nat.reduceLT, reduceCtorEq, implies_true, exists_eq', ZVr, fo2, fo3, fr1, fr2, fid, q0]) (by decide) (by simp only [KlE, FrSel, BlkSel, AV.ren, renL, AV.ok, okL, Option.some.injEq, exists_eq_left', List.length_cons, List.length_nil, Nat.reduceAdd, Nat.reduceLT, reduceCtorEq, implies_true, exists_eq', ZVr, fo2, fo3, fr1, fr2, fid, q0]) (by simp only [KlE, FrSel, BlkSel, AV.ren, renL, AV.ok, okL, Option.some.injEq, exists_eq_left', List.length_cons, List.length_nil, Nat.reduceAdd, Nat.reduceLT, reduceCtorEq, implies_true, exists_eq', ZVr, fo2, fo3, fr1, fr2, fid, q0])
      ·have st' : absR (xs, []) (ds.take (i + 1)) = (vl, dl) := by rw [hstep]; simp only [absD, if_neg g2, if_neg g3, ne_eq, g0, g4, not_true_eq_false, false_or, if_false]
       refine ⟨(i + 1, true), inv true (by rw [st']; exact ⟨fun q => absurd q (hy rfl), fun q => by cases q⟩), by dsimp only; omega, ?_⟩
       simp only [st', bV, bB, gr, ZTM, YEn]
       exact Bt.selB hid [0, 1] hh (by simp only [KlE, FrSel, BlkSel, AV.ren, renL, AV.ok, okL, Option.some.injEq, exists_eq_left', List.length_cons, List.length_nil, Nat.reduceAdd, Nat.reduceLT, reduceCtorEq, implies_true, exists_eq', ZVr, fo2, fo3, fr1, fr2, fid, q0]) (by decide) (by simp only [KlE, FrSel, BlkSel, AV.ren, renL, AV.ok, okL, Option.some.injEq, exists_eq_left', List.length_cons, List.length_nil, Nat.reduceAdd, Nat.reduceLT, reduceCtorEq, implies_true, exists_eq', ZVr, fo2, fo3, fr1, fr2, fid, q0]) (by simp only [KlE, FrSel, BlkSel, AV.ren, renL, AV.ok, okL, Option.some.injEq, exists_eq_left', List.length_cons, List.length_nil, Nat.reduceAdd, Nat.reduceLT, reduceCtorEq, implies_true, exists_eq', ZVr, fo2, fo3, fr1, fr2, fid, q0])
   ·have hi' : i = ds.length := by omega
    subst hi'
    rw [List.take_length] at hst
    rw [hst] at ee
    dsimp only at ee
    have hf1 : ∀ sel, Wk (v0.ren (selN h.length sel)) v0 := fun sel => Wk.ren (fun i hi => ZiG hi) ok.1
    have fo2 : ∀ c, v0.ok (fun i => decide (i < h.length + c)) = true := fun c => AV.ok_mono (fun i q => by simp only [decide_eq_true_eq] at q ⊢; omega) _ ok.1
    have fid : ∀ sel, selN h.length sel id = id := fun sel => ZiG hid
    have q0 : ∀ c, decide (id < h.length + c) = true := fun c => decide_eq_true (by omega)
    have aw : ∀ i, Wk (rsl dotR i dl) (apS dotR i dl) := fun i => XIf i dl
    have ao1 : AV.ok (fun i => decide (i < h.length + 1)) (apS dotR h.length dl) = true := Ywb _ _ _ (by simp)
    have ao2 : AV.ok (fun i => decide (i < h.length + 2)) (apS dotR (h.length + 1) dl) = true := Ywb _ _ _ (by simp)
    cases c with
    | false =>
     obtain rfl := hn rfl
     rw [if_pos rfl] at ee
     cases ee
     simp only [bV, bB]
     exact Bt.selB hid [1] hh (by simp only [KlE, FrSel, BlkSel, AV.ren, renL, AV.ok, okL, Option.some.injEq, exists_eq_left', List.length_cons, List.length_nil, Nat.reduceAdd, Nat.reduceLT, reduceCtorEq, implies_true, exists_eq', fo2, hf1, fid, q0, aw, ao1, ao2]) (by decide) (by simp only [KlE, FrSel, BlkSel, AV.ren, renL, AV.ok, okL, Option.some.injEq, exists_eq_left', List.length_cons, List.length_nil, Nat.reduceAdd, Nat.reduceLT, reduceCtorEq, implies_true, exists_eq', fo2, hf1, fid, q0, aw, bB, ao1, ao2]) (by simp only [KlE, FrSel, BlkSel, AV.ren, renL, AV.ok, okL, Option.some.injEq, exists_eq_left', List.length_cons, List.length_nil, Nat.reduceAdd, Nat.reduceLT, reduceCtorEq, implies_true, exists_eq', fo2, hf1, fid, q0, aw, ao1, ao2])
    | true =>
     rw [if_neg (hy rfl)] at ee
     cases ee
     simp only [bV, bB]
     exact Bt.selB hid [0, 1] hh (by simp only [KlE, FrSel, BlkSel, AV.ren, renL, AV.ok, okL, Option.some.injEq, exists_eq_left', List.length_cons, List.length_nil, Nat.reduceAdd, Nat.reduceLT, reduceCtorEq, implies_true, exists_eq', fo2, hf1, fid, q0, aw, ao1, ao2]) (by decide) (by simp only [KlE, FrSel, BlkSel, AV.ren, renL, AV.ok, okL, Option.some.injEq, exists_eq_left', List.length_cons, List.length_nil, Nat.reduceAdd, Nat.reduceLT, reduceCtorEq, implies_true, exists_eq', fo2, hf1, fid, q0, aw, ao1, ao2]) (by simp only [KlE, FrSel, BlkSel, AV.ren, renL, AV.ok, okL, Option.some.injEq, exists_eq_left', List.length_cons, List.length_nil, Nat.reduceAdd, Nat.reduceLT, reduceCtorEq, implies_true, exists_eq', fo2, hf1, fid, q0, aw, ao1, ao2])
  ·cases e
 ·cases e
end Go.Proofs.YtcncpbcbedfakaaGreat
end
section
namespace Go.Proofs.YtcncpbcbedfakaaGreat
set_option maxRecDepth 100000
theorem KLB : Spec Tryz.prog 103 Y7O := by
 intro args h v h' e
 unfold Y7O at e
 split at e
 ·rename_i v d v' d'
  obtain ⟨xs, hv, e⟩ := zZA e
  obtain ⟨ds, hd, e⟩ := zZA e
  obtain ⟨xs', hv', e⟩ := zZA e
  obtain ⟨ds', hd', e⟩ := zZA e
  cases e
  refine FnAt.c (FnAt.frz0 fun hz => ?_)
  replace hv := hv.frz
  replace hd := hd.frz
  replace hv' := hv'.frz
  replace hd' := hd'.frz
  generalize h.map AB.freeze = h at *
  refine FnAt.run (by kernel_rfl) (T := ⟨[], []⟩) ⟨trivial, trivial⟩ Tryz.func103 YlV fun ho hh => ?_
  simp only [XDC, Y8A, Bool.and_eq_true] at ho
  have f1 := hv.fx ho.1.1 (sz := 1) rfl
  have f2 := hd.fx ho.1.2.1 (sz := 2) rfl
  have f3 := hv'.fx ho.2.1.1 (sz := 1) rfl
  have f4 := hd'.fx ho.2.1.2.1 (sz := 2) rfl
  have m1 := hv.2
  have m2 := hd.2
  unfold maxLen at m1 m2
  unfold w103
  simp only [QhW, YqD, z18, Xq8, if_true, if_false, reduceIte, Nat.reduceAdd, Nat.reduceSub, Nat.reduceLeDiff, Nat.reduceEqDiff, Nat.reduceMul, Nat.reduceLT, Int.reduceLT, Int.reduceLE, Int.reduceEq, f1, f2, f3, f4]
  refine ⟨fun g1 => Bt.dropB _ hh ?_, fun g1 => ⟨fun g2 => Bt.dropB _ hh ?_, fun g2 => ?_⟩⟩
  ·rw [decide_eq_false (p := xs = xs' ∧ ds = ds') fun q => g1 (congrArg List.length q.1)]
  ·rw [decide_eq_false (p := xs = xs' ∧ ds = ds') fun q => g2 (congrArg List.length q.2)]
  have l1 : xs.length = xs'.length := by omega
  have l2 : ds.length = ds'.length := by omega
  refine zXO (S := Nat) (fun i => xs.length - i) (fun i => tp 2 ++ [.p (h.length + 0) 0, .p (h.length + 1) 0] ++ tp 1 ++ [.i .i64 i] ++ tp 53) (fun i => i ≤ xs.length ∧ xs.take i = xs'.take i) 0 ⟨Nat.zero_le _, rfl⟩ (by simp only [z18, Xq8, if_true, if_false, reduceIte, Nat.reduceAdd, Nat.reduceSub, Nat.reduceLeDiff, Nat.reduceEqDiff, Nat.reduceMul, Nat.reduceLT, Int.reduceLT, Int.reduceLE, Int.reduceEq]) fun i hi => ?_
  simp only [z18, Xq8, if_true, if_false, reduceIte, Nat.reduceAdd, Nat.reduceSub, Nat.reduceLeDiff, Nat.reduceEqDiff, Nat.reduceMul, Nat.reduceLT, Int.reduceLT, Int.reduceLE, Int.reduceEq, f1, f2, f3, f4]
  refine ⟨fun g3 => ?_, fun g3 => ?_⟩
  ·have h3 : i < xs'.length := by omega
   have e1 : IntKind.i64.wrap ((i : Int) + 1) = ((i + 1 : Nat) : Int) := ZWo (by unfold In64; omega)
   have e2 := qV9 intR.d g3 h3 hi.2
   simp only [z18, qdf, Xq8, if_true, if_false, reduceIte, Nat.reduceAdd, Nat.reduceSub, Nat.reduceLeDiff, Nat.reduceEqDiff, Nat.reduceMul, Nat.reduceLT, Int.reduceLT, Int.reduceLE, Int.reduceEq, CO.tmps, Opd.tmps, optT, Nat.reducePow, Nat.reduceDiv, Nat.reduceMod, f1, f2, f3, f4, g3, h3, Zr2, Nat.zero_lt_one, e1, qDR hz, XUt hh]
   refine ⟨fun g4 => Bt.dropB _ hh ?_, fun g4 => ⟨i + 1, ⟨g3, e2.2 (Decidable.not_not.1 g4)⟩, by omega, Wk.refl _⟩⟩
   rw [decide_eq_false (p := xs = xs' ∧ ds = ds') fun q => g4 (e2.1 (by rw [q.1]))]
  ·have hxx : xs = xs' := by have := hi.2; rwa [List.take_of_length_le (by omega), List.take_of_length_le (by omega)] at this
   subst hxx
   refine zXO (S := Nat) (fun i => ds.length - i) (fun i => tp 2 ++ [.p (h.length + 0) 0, .p (h.length + 1) 0] ++ tp 2 ++ [.i .i64 i] ++ tp 52) (fun i => i ≤ ds.length ∧ ds.take i = ds'.take i) 0 ⟨Nat.zero_le _, rfl⟩ (by simp only [z18, Xq8, if_true, if_false, reduceIte, Nat.reduceAdd, Nat.reduceSub, Nat.reduceLeDiff, Nat.reduceEqDiff, Nat.reduceMul, Nat.reduceLT, Int.reduceLT, Int.reduceLE, Int.reduceEq]) fun j hj => ?_
   simp only [z18, Xq8, if_true, if_false, reduceIte, Nat.reduceAdd, Nat.reduceSub, Nat.reduceLeDiff, Nat.reduceEqDiff, Nat.reduceMul, Nat.reduceLT, Int.reduceLT, Int.reduceLE, Int.reduceEq, f1, f2, f3, f4]
   refine ⟨fun g5 => ?_, fun g5 => ?_⟩
   ·have h3 : j < ds'.length := by omega
    have e1 : IntKind.i64.wrap ((j : Int) + 1) = ((j + 1 : Nat) : Int) := ZWo (by unfold In64; omega)
    have e2 := qV9 dotR.d g5 h3 hj.2
    simp only [z18, qdf, Xq8, if_true, if_false, reduceIte, Nat.reduceAdd, Nat.reduceSub, Nat.reduceLeDiff, Nat.reduceEqDiff, Nat.reduceMul, Nat.reduceLT, Int.reduceLT, Int.reduceLE, Int.reduceEq, CO.tmps, Opd.tmps, optT, Nat.reducePow, Nat.reduceDiv, Nat.reduceMod, f1, f2, f3, f4, g5, h3, zBW, eqc2, e1, qDR hz, XUt hh]
    refine ⟨fun g4 => Bt.dropB _ hh ?_, fun g4 => ⟨j + 1, ⟨g5, e2.2 (Decidable.not_not.1 g4)⟩, by omega, Wk.refl _⟩⟩
    rw [decide_eq_false (p := ds = ds') fun q => g4 (e2.1 (by rw [q]))]
   ·have hdd : ds = ds' := by have := hj.2; rwa [List.take_of_length_le (by omega), List.take_of_length_le (by omega)] at this
    subst hdd
    exact Bt.dropB _ hh (by simp)
 ·cases e
end Go.Proofs.YtcncpbcbedfakaaGreat
end
