/- Part 21 of what the laws' proofs rest on. No condition. -/
import Derived.Test.YtcncpbcbedfakaaGreatRo20
set_option linter.all false
section
namespace Go.Proofs.YtcncpbcbedfakaaGreat
set_option maxRecDepth 100000
set_option maxHeartbeats 4000000
def rAt (v : List Int) (r : Int) : Int := if r < 1 ∨ (v.length : Int) < r then 0 else v.getD (r - 1).toNat 0
noncomputable def YyK : List AV → List AB → Option (AV × List AB)
 | [.ag [s, t], .i .i64 r], h => (getS intR h s).bind fun v => (getS dotR h t).bind fun _ => some (.i .i64 (rAt v r), h)
 | _, _ => none
theorem Qan : Spec Tryz.prog 93 YyK := by
 intro args h v h' e
 unfold YyK at e
 split at e
 ·rename_i s t r
  obtain ⟨vs, hs, e⟩ := zZA e
  obtain ⟨ds, ht, e⟩ := zZA e
  cases e
  refine FnAt.c (FnAt.run (by kernel_rfl) (T := ⟨[], []⟩) ⟨trivial, trivial⟩ Tryz.func93 sw93 fun ho hh => ?_)
  simp only [XDC, Y8A, Bool.and_eq_true] at ho
  have f1 := hs.fx ho.1.1 (sz := 1) rfl
  have f2 := ht.fx ho.1.2.1 (sz := 2) rfl
  have hm := hs.2
  unfold maxLen at hm
  unfold w93
  by_cases hr : r < 1 ∨ (vs.length : Int) < r
  ·have ev : rAt vs r = 0 := by unfold rAt; rw [if_pos hr]
   by_cases h1 : r < 1
   ·have h1' := eq_true h1
    simp only [QhW, YqD, z18, Xq8, if_true, if_false, reduceIte, Nat.reduceAdd, Nat.reduceSub, Nat.reduceLeDiff, Nat.reduceEqDiff, Nat.reduceMul, Nat.reduceLT, Int.reduceLT, Int.reduceLE, Int.reduceEq, f1, f2, h1']
    exact ⟨Bt.dropI _ hh ev.symm, fun q => q.elim⟩
   ·have h1' := eq_false h1
    have h2' : ((vs.length : Int) < r) = True := eq_true (by omega)
    simp only [QhW, YqD, z18, Xq8, if_true, if_false, reduceIte, Nat.reduceAdd, Nat.reduceSub, Nat.reduceLeDiff, Nat.reduceEqDiff, Nat.reduceMul, Nat.reduceLT, Int.reduceLT, Int.reduceLE, Int.reduceEq, f1, f2, h1', h2']
    exact ⟨fun q => q.elim, Bt.dropI _ hh ev.symm, fun q => q.elim⟩
  ·have h1' : (r < 1) = False := eq_false (by omega)
   have h2' : ((vs.length : Int) < r) = False := eq_false (by omega)
   have ew : IntKind.i64.wrap (r - 1) = r - 1 := ZWo (by unfold In64; omega)
   have e2 : (0 ≤ r - 1 ∧ r - 1 < (vs.length : Int)) = True := eq_true (by omega)
   have e3 : ((r - 1).toNat < vs.length) = True := eq_true (by omega)
   simp only [QhW, YqD, z18, Xq8, if_true, if_false, reduceIte, Nat.reduceAdd, Nat.reduceSub, Nat.reduceLeDiff, Nat.reduceEqDiff, Nat.reduceMul, Nat.reduceLT, Int.reduceLT, Int.reduceLE, Int.reduceEq, f1, f2, h1', h2', ew, e2, e3, Zr2]
   exact ⟨fun q => q.elim, fun q => q.elim, Bt.dropI _ hh (by unfold rAt; rw [if_neg hr]; rfl)⟩
 ·cases e
noncomputable def zvH : List AV → List AB → Option (AV × List AB)
 | [.ag [s, t], .ag [s', t']], h => (getS intR h s).bind fun v => (getS dotR h t).bind fun ds => (getS intR h s').bind fun v' => (getS dotR h t').bind fun ds' => some (.i .i64 (if zEL v ds = 0 then zEL v' ds' else zEL v ds), h)
 | _, _ => none
theorem JPQ : Spec Tryz.prog 92 zvH := by
 intro args h v h' e
 unfold zvH at e
 split at e
 ·rename_i s t s' t'
  obtain ⟨vs, hs, e⟩ := zZA e
  obtain ⟨ds, ht, e⟩ := zZA e
  obtain ⟨vs', hs', e⟩ := zZA e
  obtain ⟨ds', ht', e⟩ := zZA e
  cases e
  refine FnAt.c (FnAt.run (by kernel_rfl) (T := ⟨[⟨61, ZRQ, fun _ => []⟩], []⟩) ⟨⟨Yr1, trivial⟩, trivial⟩ Tryz.func92 sw92 fun ho hh => ?_)
  simp only [XDC, Y8A, Bool.and_eq_true] at ho
  have f1 := hs.fx ho.1.1 (sz := 1) rfl
  have f2 := ht.fx ho.1.2.1 (sz := 2) rfl
  have f3 := hs'.fx ho.2.1.1 (sz := 1) rfl
  have f4 := ht'.fx ho.2.1.2.1 (sz := 2) rfl
  unfold w92
  simp only [QhW, YqD, z18, Xq8, if_true, if_false, reduceIte, Nat.reduceAdd, Nat.reduceSub, Nat.reduceLeDiff, Nat.reduceEqDiff, Nat.reduceMul, Nat.reduceLT, Int.reduceLT, Int.reduceLE, Int.reduceEq, f1, f2, f3, f4, ZRQ]
  exact ⟨fun q => Bt.dropI _ hh (by rw [if_neg q]), fun q => Bt.dropI _ hh (by rw [if_pos (Decidable.not_not.1 q)])⟩
 ·cases e
def ZvJ (v : List Int) (ds : Dots) (d : Int × Int) : Prop := (1 ≤ d.2 ∧ d.2 ≤ rAt v d.1) ∨ d ∈ ds
instance (v : List Int) (ds : Dots) (d : Int × Int) : Decidable (ZvJ v ds d) := by unfold ZvJ; infer_instance
noncomputable def Kmc : List AV → List AB → Option (AV × List AB)
 | [.ag [s, t], .ag [.i .i64 a, .i .i64 b]], h => (getS intR h s).bind fun v => (getS dotR h t).bind fun ds => some (.b (decide (ZvJ v ds (a, b))), h)
 | _, _ => none
theorem qUZ : Spec Tryz.prog 91 Kmc := by
 intro args h v h' e
 unfold Kmc at e
 split at e
 ·rename_i s t a b
  obtain ⟨vs, hs, e⟩ := zZA e
  obtain ⟨ds, ht, e⟩ := zZA e
  cases e
  refine FnAt.c (FnAt.frz0 fun hz => ?_)
  replace hs := hs.frz
  replace ht := ht.frz
  generalize h.map AB.freeze = h at *
  refine FnAt.run (by kernel_rfl) (T := ⟨[⟨93, YyK, fun _ => []⟩], []⟩) ⟨⟨Qan, trivial⟩, trivial⟩ Tryz.func91 sw91 fun ho hh => ?_
  simp only [XDC, Y8A, Bool.and_eq_true] at ho
  have f1 := hs.fx ho.1.1 (sz := 1) rfl
  have f2 := ht.fx ho.1.2.1 (sz := 2) rfl
  have m2 := ht.2
  unfold maxLen at m2
  unfold w91
  have yes : (1 ≤ b ∧ b ≤ rAt vs a) → true = decide (ZvJ vs ds (a, b)) := fun q => (decide_eq_true (.inl q)).symm
  have eq2 : ∀ w : Int × Int, qN9 [.i, .i] [.i .i64 w.1, .i .i64 w.2] [.i .i64 a, .i .i64 b] = some (decide (w = (a, b))) := fun w => eqc2 w (a, b)
  simp only [QhW, YqD, z18, qdf, Xq8, if_true, if_false, reduceIte, Nat.reduceAdd, Nat.reduceSub, Nat.reduceLeDiff, Nat.reduceEqDiff, Nat.reduceMul, Nat.reduceLT, Int.reduceLT, Int.reduceLE, Int.reduceEq, CO.tmps, Opd.tmps, optT, Nat.reducePow, Nat.reduceDiv, Nat.reduceMod, f1, f2, YyK, qDR hz, XUt hh]
  refine ⟨fun q1 => ⟨fun q2 => Bt.dropB _ hh (yes ⟨q1, q2⟩), fun q2 => ?_⟩, fun q1 => ?_⟩
  ·have no : ¬ (1 ≤ b ∧ b ≤ rAt vs a) := fun q => q2 q.2
   refine zXO (S := Nat) (fun i => ds.length - i) (fun i => tp 2 ++ [.p (h.length + 0) 0, .p (h.length + 1) 0] ++ tp 1 ++ [.i .i64 i] ++ tp 26) (fun i => i ≤ ds.length ∧ (a, b) ∉ ds.take i) 0 ⟨Nat.zero_le _, by simp⟩ (by simp only [z18, Xq8, if_true, if_false, reduceIte, Nat.reduceAdd, Nat.reduceSub, Nat.reduceLeDiff, Nat.reduceEqDiff, Nat.reduceMul, Nat.reduceLT, Int.reduceLT, Int.reduceLE, Int.reduceEq]) fun i hi => ?_
   simp only [z18, Xq8, if_true, if_false, reduceIte, Nat.reduceAdd, Nat.reduceSub, Nat.reduceLeDiff, Nat.reduceEqDiff, Nat.reduceMul, Nat.reduceLT, Int.reduceLT, Int.reduceLE, Int.reduceEq, f1, f2]
   refine ⟨fun g5 => ?_, fun g5 => ?_⟩
   ·have e1 : IntKind.i64.wrap ((i : Int) + 1) = ((i + 1 : Nat) : Int) := ZWo (by unfold In64; omega)
    simp only [z18, qdf, Xq8, if_true, if_false, reduceIte, Nat.reduceAdd, Nat.reduceSub, Nat.reduceLeDiff, Nat.reduceEqDiff, Nat.reduceMul, Nat.reduceLT, Int.reduceLT, Int.reduceLE, Int.reduceEq, CO.tmps, Opd.tmps, optT, Nat.reducePow, Nat.reduceDiv, Nat.reduceMod, f1, f2, g5, zBW, eq2, e1, qDR hz, XUt hh]
    refine ⟨fun g4 => Bt.dropB _ hh ?_, fun g4 => ⟨i + 1, ⟨g5, ?_⟩, by omega, Wk.refl _⟩⟩
    ·refine (decide_eq_true (.inr ?_)).symm
     rw [← g4, List.getD_eq_getElem?_getD, List.getElem?_eq_getElem g5]
     exact List.getElem_mem g5
    ·rw [List.take_succ_eq_append_getElem g5]
     rw [List.getD_eq_getElem?_getD, List.getElem?_eq_getElem g5, Option.getD_some] at g4
     exact fun q => (List.mem_append.1 q).elim hi.2 fun q => g4 (List.mem_singleton.1 q).symm
   ·refine Bt.dropB _ hh (decide_eq_false fun q => ?_).symm
    have := hi.2
    rw [List.take_of_length_le (by omega)] at this
    exact q.elim no this
  ·have no : ¬ (1 ≤ b ∧ b ≤ rAt vs a) := fun q => q1 q.1
   refine zXO (S := Nat) (fun i => ds.length - i) (fun i => tp 2 ++ [.p (h.length + 0) 0, .p (h.length + 1) 0] ++ tp 1 ++ [.i .i64 i] ++ tp 26) (fun i => i ≤ ds.length ∧ (a, b) ∉ ds.take i) 0 ⟨Nat.zero_le _, by simp⟩ (by simp only [z18, Xq8, if_true, if_false, reduceIte, Nat.reduceAdd, Nat.reduceSub, Nat.reduceLeDiff, Nat.reduceEqDiff, Nat.reduceMul, Nat.reduceLT, Int.reduceLT, Int.reduceLE, Int.reduceEq]) fun i hi => ?_
   simp only [z18, Xq8, if_true, if_false, reduceIte, Nat.reduceAdd, Nat.reduceSub, Nat.reduceLeDiff, Nat.reduceEqDiff, Nat.reduceMul, Nat.reduceLT, Int.reduceLT, Int.reduceLE, Int.reduceEq, f1, f2]
   refine ⟨fun g5 => ?_, fun g5 => ?_⟩
   ·have e1 : IntKind.i64.wrap ((i : Int) + 1) = ((i + 1 : Nat) : Int) := ZWo (by unfold In64; omega)
    simp only [z18, qdf, Xq8, if_true, if_false, reduceIte, Nat.reduceAdd, Nat.reduceSub, Nat.reduceLeDiff, Nat.reduceEqDiff, Nat.reduceMul, Nat.reduceLT, Int.reduceLT, Int.reduceLE, Int.reduceEq, CO.tmps, Opd.tmps, optT, Nat.reducePow, Nat.reduceDiv, Nat.reduceMod, f1, f2, g5, zBW, eq2, e1, qDR hz, XUt hh]
    refine ⟨fun g4 => Bt.dropB _ hh ?_, fun g4 => ⟨i + 1, ⟨g5, ?_⟩, by omega, Wk.refl _⟩⟩
    ·refine (decide_eq_true (.inr ?_)).symm
     rw [← g4, List.getD_eq_getElem?_getD, List.getElem?_eq_getElem g5]
     exact List.getElem_mem g5
    ·rw [List.take_succ_eq_append_getElem g5]
     rw [List.getD_eq_getElem?_getD, List.getElem?_eq_getElem g5, Option.getD_some] at g4
     exact fun q => (List.mem_append.1 q).elim hi.2 fun q => g4 (List.mem_singleton.1 q).symm
   ·refine Bt.dropB _ hh (decide_eq_false fun q => ?_).symm
    have := hi.2
    rw [List.take_of_length_le (by omega)] at this
    exact q.elim no this
 ·cases e
noncomputable def ZL1 : List AV → List AB → Option (AV × List AB)
 | [.ag [s, t], .ag [.i .i64 a, .i .i64 b]], h => (getS intR h s).bind fun v => (getS dotR h t).bind fun ds => some (.b (decide (zEL v ds = 0 ∧ ZvJ v ds (a, b))), h)
 | _, _ => none
theorem YQq : Spec Tryz.prog 52 ZL1 := by
 intro args h v h' e
 unfold ZL1 at e
 split at e
 ·rename_i s t a b
  obtain ⟨vs, hs, e⟩ := zZA e
  obtain ⟨ds, ht, e⟩ := zZA e
  cases e
  refine FnAt.c (FnAt.run (by kernel_rfl) (T := ⟨[⟨61, ZRQ, fun _ => []⟩, ⟨91, Kmc, fun _ => []⟩], []⟩) ⟨⟨Yr1, qUZ, trivial⟩, trivial⟩ Tryz.func52 sw52 fun ho hh => ?_)
  simp only [XDC, Y8A, Bool.and_eq_true] at ho
  have f1 := hs.fx ho.1.1 (sz := 1) rfl
  have f2 := ht.fx ho.1.2.1 (sz := 2) rfl
  unfold w52
  simp only [QhW, YqD, z18, Xq8, if_true, if_false, reduceIte, Nat.reduceAdd, Nat.reduceSub, Nat.reduceLeDiff, Nat.reduceEqDiff, Nat.reduceMul, Nat.reduceLT, Int.reduceLT, Int.reduceLE, Int.reduceEq, f1, f2, ZRQ, Kmc]
  refine ⟨fun q => Bt.dropB _ hh ?_, fun q => Bt.dropB _ hh ?_⟩
  ·simp only [q, true_and]
  ·simp only [q, false_and, decide_false]
 ·cases e
theorem ZtC {v : List Int} {ds : Dots} (h : zEL v ds = 0) : qD3 v ds ∧ ds.length ≤ 4096 ∧ fmO v ds = (v, ds) := by
 unfold zEL at h
 split at h
 ·cases h
 ·rename_i h1
  split at h
  ·cases h
  ·rename_i h2
   split at h
   ·rename_i h3
    exact ⟨Decidable.not_not.1 h1, by omega, h3⟩
   ·cases h
end Go.Proofs.YtcncpbcbedfakaaGreat
end
section
namespace Go.Proofs.YtcncpbcbedfakaaGreat
set_option maxRecDepth 100000
set_option maxHeartbeats 4000000
theorem ZNj (v : List Int) (h : ∀ n ∈ v, 0 ≤ n ∧ n ≤ 1048576) (r : Int) : 0 ≤ rAt v r ∧ rAt v r ≤ 1048576 := by
 unfold rAt
 split
 ·omega
 ·rw [List.getD_eq_getElem?_getD]
  cases e : v[(r - 1).toNat]? with
  | none => simp
  | some x => exact h x (List.mem_of_getElem? e)
end Go.Proofs.YtcncpbcbedfakaaGreat
end
section
namespace Go.Proofs.YtcncpbcbedfakaaGreat
set_option maxRecDepth 100000
set_option maxHeartbeats 4000000
def YLg (v v' : List Int) (n : Nat) : List Int := (List.range n).map fun i => max (rAt v ((i + 1 : Nat) : Int)) (rAt v' ((i + 1 : Nat) : Int))
theorem YTk (v v' : List Int) (n : Nat) : (YLg v v' n).length = n := by simp [YLg]
theorem XqK (v v' : List Int) (n : Nat) : YLg v v' (n + 1) = YLg v v' n ++ [max (rAt v ((n + 1 : Nat) : Int)) (rAt v' ((n + 1 : Nat) : Int))] := by
 simp [YLg, List.range_succ]
theorem qlZ (v v' : List Int) (h : ∀ n ∈ v, 0 ≤ n ∧ n ≤ 1048576) (h' : ∀ n ∈ v', 0 ≤ n ∧ n ≤ 1048576) (n : Nat) : ∀ x ∈ YLg v v' n, 0 ≤ x ∧ x ≤ 1048576 := fun x hx => by
 obtain ⟨i, -, rfl⟩ := List.mem_map.1 hx
 have h1 := ZNj v h ((i + 1 : Nat) : Int)
 have h2 := ZNj v' h' ((i + 1 : Nat) : Int)
 omega
theorem Zvu {v v' : List Int} {ds ds' : Dots} (h : qD3 v ds) (h' : qD3 v' ds') : qD3 (YLg v v' 16) (ds ++ ds') :=
 ⟨by rw [YTk]; omega, qlZ v v' h.2.1 h'.2.1 16, fun d hd => (List.mem_append.1 hd).elim (h.2.2 d) (h'.2.2 d)⟩
noncomputable def KVl : List AV → List AB → Option (AV × List AB)
 | [.ag [s, t], .ag [s', t']], h => (getS intR h s).bind fun v => (getS dotR h t).bind fun ds => (getS intR h s').bind fun v' => (getS dotR h t').bind fun ds' =>
   if zEL v ds ≠ 0 then some (.tu [.ag [.ns, .ns], .i .i64 (zEL v ds)], h)
   else if zEL v' ds' ≠ 0 then some (.tu [.ag [.ns, .ns], .i .i64 (zEL v' ds')], h)
   else if (fmO (YLg v v' 16) (ds ++ ds')).2.length ≤ 4096 then some (.tu [.ag [.sl h.length 0 (topI (fmR (YLg v v' 16) (layR (ds ++ ds'))).1 16) 16 none, rsl dotR (h.length + 1) (fmR (YLg v v' 16) (layR (ds ++ ds'))).2], .i .i64 0], h ++ [.blk true true (intR.cells (fmR (YLg v v' 16) (layR (ds ++ ds'))).1), resB dotR true (fmR (YLg v v' 16) (layR (ds ++ ds'))).2])
   else some (.tu [.ag [.ns, .ns], .i .i64 10], h)
 | _, _ => none
theorem q9H (h : List AB) (s t s' t' : AV) (vs vs' : List Int) (ds ds' : Dots) (hs : Rd intR h s vs) (ht : Rd dotR h t ds) (hs' : Rd intR h s' vs') (ht' : Rd dotR h t' ds') (q : (if zEL vs ds = 0 then zEL vs' ds' else zEL vs ds) ≠ 0) : FnC Tryz.prog 54 [.ag [s, t], .ag [s', t']] h (.tu [.ag [.ns, .ns], .i .i64 (if zEL vs ds = 0 then zEL vs' ds' else zEL vs ds)]) h := by
 refine FnAt.c (FnAt.run (by kernel_rfl) (T := ⟨[⟨92, zvH, fun _ => []⟩], []⟩) ⟨⟨JPQ, trivial⟩, trivial⟩ Tryz.func54 sw54 fun ho hh => ?_)
 simp only [XDC, Y8A, Bool.and_eq_true] at ho
 have f1 := hs.fx ho.1.1 (sz := 1) rfl
 have f2 := ht.fx ho.1.2.1 (sz := 2) rfl
 have f3 := hs'.fx ho.2.1.1 (sz := 1) rfl
 have f4 := ht'.fx ho.2.1.2.1 (sz := 2) rfl
 generalize hc : (if zEL vs ds = 0 then zEL vs' ds' else zEL vs ds) = c at *
 unfold w54
 simp only [QhW, YqD, z18, Xq8, if_true, if_false, reduceIte, Nat.reduceAdd, Nat.reduceSub, Nat.reduceLeDiff, Nat.reduceEqDiff, Nat.reduceMul, Nat.reduceLT, Int.reduceLT, Int.reduceLE, Int.reduceEq, f1, f2, f3, f4, zvH, hc]
 exact ⟨fun _ => Bt.drop _ hh rfl rfl, fun z => absurd q z⟩
noncomputable def XPp (p : Nat) (J : List Int) (D : Dots) : AV × List AB :=
 if (fmO J D).2.length ≤ 4096 then (.tu [.ag [.sl p 0 (topI (fmR J (layR D)).1 16) 16 none, rsl dotR (p + 1) (fmR J (layR D)).2], .i .i64 0], [.blk true true (intR.cells (fmR J (layR D)).1), resB dotR true (fmR J (layR D)).2])
 else (.tu [.ag [.ns, .ns], .i .i64 10], [])
theorem XNM (h : List AB) (hz : h.map AB.freeze = h) (s t s' t' : AV) (vs vs' : List Int) (ds ds' : Dots) (hs : Rd intR h s vs) (ht : Rd dotR h t ds) (hs' : Rd intR h s' vs') (ht' : Rd dotR h t' ds') (c1 : zEL vs ds = 0) (c2 : zEL vs' ds' = 0) : FnAt Tryz.prog 54 [.ag [s, t], .ag [s', t']] h (XPp h.length (YLg vs vs' 16) (ds ++ ds')).1 (h ++ (XPp h.length (YLg vs vs' 16) (ds ++ ds')).2) := by
 obtain ⟨a1, a2, -⟩ := ZtC c1
 obtain ⟨b1, b2, -⟩ := ZtC c2
 have hJ := Zvu a1 b1
 have hJl : (YLg vs vs' 16).length = 16 := YTk _ _ _
 have hDl : (ds ++ ds').length = ds.length + ds'.length := List.length_append
 refine FnAt.run (by kernel_rfl) (T := ⟨[⟨92, zvH, fun _ => []⟩, ⟨93, YyK, fun _ => []⟩, ⟨63, ZSq, fun _ => []⟩], []⟩) ⟨⟨JPQ, Qan, XD2, trivial⟩, trivial⟩ Tryz.func54 sw54 fun ho hh => ?_
 simp only [XDC, Y8A, Bool.and_eq_true] at ho
 have f1 := hs.fx ho.1.1 (sz := 1) rfl
 have f2 := ht.fx ho.1.2.1 (sz := 2) rfl
 have f3 := hs'.fx ho.2.1.1 (sz := 1) rfl
 have f4 := ht'.fx ho.2.1.2.1 (sz := 2) rfl
 have u2 := ht.src (sz := 2) rfl
 have u4 := ht'.src (sz := 2) rfl
 have cb : (if zEL vs ds = 0 then zEL vs' ds' else zEL vs ds) = 0 := by rw [if_pos c1]; exact c2
 have fo : ∀ c, s.ok (fun i => decide (i < h.length + c)) = true ∧ t.ok (fun i => decide (i < h.length + c)) = true ∧ s'.ok (fun i => decide (i < h.length + c)) = true ∧ t'.ok (fun i => decide (i < h.length + c)) = true := fun c => by
  have m : ∀ v : AV, v.ok (fun i => decide (i < h.length)) = true → v.ok (fun i => decide (i < h.length + c)) = true := fun v => AV.ok_mono (fun i q => by simp only [decide_eq_true_eq] at q ⊢; omega) v
  exact ⟨m _ ho.1.1, m _ ho.1.2.1, m _ ho.2.1.1, m _ ho.2.1.2.1⟩
 have fr : ∀ sel, Wk (s.ren (selN h.length sel)) s ∧ Wk (t.ren (selN h.length sel)) t ∧ Wk (s'.ren (selN h.length sel)) s' ∧ Wk (t'.ren (selN h.length sel)) t' := fun sel => ⟨Wk.ren (fun i hi => ZiG hi) ho.1.1, Wk.ren (fun i hi => ZiG hi) ho.1.2.1, Wk.ren (fun i hi => ZiG hi) ho.2.1.1, Wk.ren (fun i hi => ZiG hi) ho.2.1.2.1⟩
 unfold w54
 simp only [QhW, YqD, z18, Xq8, if_true, if_false, reduceIte, Nat.reduceAdd, Nat.reduceSub, Nat.reduceLeDiff, Nat.reduceEqDiff, Nat.reduceMul, Nat.reduceLT, Int.reduceLT, Int.reduceLE, Int.reduceEq, f1, f2, f3, f4, zvH, cb]
 refine ⟨fun q => q.elim, ?_⟩
 refine q2X (S := Nat) (fun n => 16 - n) (fun n => tp 2 ++ [.p (h.length + 0) 0, .p (h.length + 1) 0, .p (h.length + 2) 0] ++ tp 2 ++ [apS intR (h.length + 3) (YLg vs vs' n), .i .i64 ((n + 1 : Nat) : Int)] ++ tp 32) (fun n => h ++ [.blk false true [s, t], .blk false true [s', t'], .blk false true [.ns, .ns], resB intR true (YLg vs vs' n)]) (fun n => n ≤ 16) 0 (Nat.zero_le _) ?_ fun n hn => ?_
 ·show Bt _ _ _ _ _ (h ++ [.blk false true [s, t], .blk false true [s', t'], .blk false true [.ns, .ns], .dead])
  rw [show h ++ [AB.blk false true [s, t], .blk false true [s', t'], .blk false true [.ns, .ns], .dead] = (h ++ [AB.blk false true [s, t], .blk false true [s', t'], .blk false true [.ns, .ns]]) ++ List.replicate 1 .dead from by rw [List.append_assoc]; rfl]
  refine Bt.trans (Bt.wk ?_) (Bt.pad _ _ 1)
  rw [show apS intR (h.length + 3) (YLg vs vs' 0) = .ns from rfl]
  simp only [z18, Xq8, if_true, if_false, reduceIte, Nat.reduceAdd, Nat.reduceSub, Nat.reduceLeDiff, Nat.reduceEqDiff, Nat.reduceMul, Nat.reduceLT, Int.reduceLT, Int.reduceLE, Int.reduceEq]
 have hnl := YTk vs vs' n
 have e1 : IntKind.i64.wrap (((n + 1 : Nat) : Int) + 1) = ((n + 1 + 1 : Nat) : Int) := ZWo (by unfold In64; omega)
 have fa := fun L k ys hb => YEH (h := h) (r := intR) (sz := 1) rfl L k (YLg vs vs' n) 8 1 ys hb (by decide) (by omega) (by unfold maxLen; omega)
 by_cases g1 : n < 16
 ·have g1' : (((n + 1 : Nat) : Int) ≤ 16) = True := eq_true (by omega)
  by_cases n0 : n = 0
  ·subst n0
   have z0 : YLg vs vs' 0 = [] := rfl
   have z1 : YLg vs vs' (0 + 1) = [max (rAt vs 1) (rAt vs' 1)] := rfl
   have z1' : YLg vs vs' 1 = [max (rAt vs 1) (rAt vs' 1)] := rfl
   have z2 : ((0 + 1 : Nat) : Int) = 1 := rfl
   have z3 : (1 * 8 ≤ 140737488355328 ∧ 1 ≤ maxLen) = True := eq_true ⟨by decide, by unfold maxLen; omega⟩
   simp only [z0, q8J, z18, qdf, Xq8, if_true, if_false, reduceIte, Nat.reduceAdd, Nat.reduceSub, Nat.reduceLeDiff, Nat.reduceEqDiff, Nat.reduceMul, Nat.reduceLT, Int.reduceLT, Int.reduceLE, Int.reduceEq, CO.tmps, Opd.tmps, optT, Nat.reducePow, Nat.reduceDiv, Nat.reduceMod, f1, f2, f3, f4, YyK, z3, g1', e1, qDR hz, XUt hh]
   refine ⟨by unfold maxLen; omega, 1, by omega, by dsimp only; omega, ?_⟩
   have e12 : IntKind.i64.wrap (1 + 1) = ((1 + 1 : Nat) : Int) := ZWo (by unfold In64; omega)
   simp only [z1', ZNS, QE9, Zr2, e12]
   exact Bt.sel [0, 1, 2, 5] hh (by decide) (by simp only [KlE, FrSel, BlkSel, AV.ren, renL, AV.ok, okL, Option.some.injEq, exists_eq_left', List.length_cons, List.length_nil, Nat.reduceAdd, Nat.reduceLT, reduceCtorEq, implies_true, exists_eq', fo, fr]) (by simp only [KlE, FrSel, BlkSel, AV.ren, renL, AV.ok, okL, Option.some.injEq, exists_eq_left', List.length_cons, List.length_nil, Nat.reduceAdd, Nat.reduceLT, reduceCtorEq, implies_true, exists_eq', fo, fr])
  ·have gr : ∀ id, apS intR id (YLg vs vs' n) = rsl intR id (YLg vs vs' n) := fun id => YM2 _ (by omega)
   have fa := fun L k ys hb => q9y (h := h) (p := h.length) rfl (r := intR) (sz := 1) rfl L k (YLg vs vs' n) 8 1 ys (by omega) hb (by decide) (by omega) (by unfold maxLen; omega)
   simp only [gr, z18, qdf, Xq8, if_true, if_false, reduceIte, Nat.reduceAdd, Nat.reduceSub, Nat.reduceLeDiff, Nat.reduceEqDiff, Nat.reduceMul, Nat.reduceLT, Int.reduceLT, Int.reduceLE, Int.reduceEq, CO.tmps, Opd.tmps, optT, Nat.reducePow, Nat.reduceDiv, Nat.reduceMod, f1, f2, f3, f4, YyK, fa, g1', e1, qDR hz, XUt hh]
   refine ⟨n + 1, g1, by dsimp only; omega, ?_⟩
   simp only [XqK, ZTM, YEn, Zr2, Nat.add_assoc, Nat.reduceAdd]
   exact Bt.sel [0, 1, 2, 5] hh (by decide) (by simp only [KlE, FrSel, BlkSel, AV.ren, renL, AV.ok, okL, Option.some.injEq, exists_eq_left', List.length_cons, List.length_nil, Nat.reduceAdd, Nat.reduceLT, reduceCtorEq, implies_true, exists_eq', fo, fr]) (by simp only [KlE, FrSel, BlkSel, AV.ren, renL, AV.ok, okL, Option.some.injEq, exists_eq_left', List.length_cons, List.length_nil, Nat.reduceAdd, Nat.reduceLT, reduceCtorEq, implies_true, exists_eq', fo, fr])
 ·obtain rfl : n = 16 := by omega
  have g1' : (((16 + 1 : Nat) : Int) ≤ 16) = False := eq_false (by omega)
  have gr : ∀ id, apS intR id (YLg vs vs' 16) = rsl intR id (YLg vs vs' 16) := fun id => YM2 _ (by omega)
  have k1 : ((YLg vs vs' 16).length ≤ maxLen) = True := eq_true (by unfold maxLen; omega)
  have k2 : qD3 (YLg vs vs' 16) (ds ++ ds') = True := eq_true hJ
  have k3 : ((ds ++ ds').length ≤ 1000000) = True := eq_true (by omega)
  have k4 : (ds.length * 16 ≤ 140737488355328 ∧ ds.length ≤ maxLen) = True := eq_true ⟨by omega, by unfold maxLen; omega⟩
  have k5 : (ds'.length * 16 ≤ 140737488355328 ∧ ds'.length ≤ maxLen) = True := eq_true ⟨by omega, by unfold maxLen; omega⟩
  have k6 : ((ds.length + ds'.length) * 16 ≤ 140737488355328) = True := eq_true (by omega)
  have k7 : (ds.length + ds'.length ≤ maxLen) = True := eq_true (by unfold maxLen; omega)
  have k8 : (dotR.cells ds).length = ds.length * 2 := dotR.cells_len ds
  have r1 : ∀ (L : List AB) (k n : Nat) (kk : Option Nat), n = (ds ++ ds').length → ownC L k = some (dotR.cells (ds ++ ds')) → getS dotR (h ++ L) (.sl (h.length + k) 0 n n kk) = some (ds ++ ds') := fun L k n kk hn hL => by
   subst hn
   exact (qfL hL (by unfold maxLen; omega)).get
  have r2 : dotR.cells ds ++ dotR.cells ds' = dotR.cells (ds ++ ds') := by simp [Row.cells]
  have r0 : ∀ (H : List AB) (id : Nat) (kk : Option Nat), (ds ++ ds').length = 0 → getS dotR H (.sl id 0 0 0 kk) = some (ds ++ ds') := fun H id kk hn => (Rd.mk0 hn).get
  by_cases h4 : (fmO (YLg vs vs' 16) (ds ++ ds')).2.length ≤ 4096
  ·have h4' := eq_true h4
   simp only [XPp, if_pos h4]
   by_cases d0 : ds.length = 0
   ·have d1 : (ds.length = 0) = True := eq_true d0
    have dn : ds = [] := List.eq_nil_of_length_eq_zero d0
    by_cases b0 : ds'.length = 0
    ·have b1 : (ds'.length = 0) = True := eq_true b0
     have bn : ds' = [] := List.eq_nil_of_length_eq_zero b0
     have rr := fun H id kk => r0 H id kk (by omega)
     simp only [gr, z18, qdf, Xq8, if_true, if_false, reduceIte, Nat.reduceAdd, Nat.reduceSub, Nat.reduceLeDiff, Nat.reduceEqDiff, Nat.reduceMul, Nat.reduceLT, Int.reduceLT, Int.reduceLE, Int.reduceEq, CO.tmps, Opd.tmps, optT, Nat.reducePow, Nat.reduceDiv, Nat.reduceMod, f1, f2, f3, f4, u2, u4, d1, b1, k1, k2, k3, k4, k5, k6, k7, k8, rr, Zwl, KYR, ne_eq, zlc, JJe, Z8u, QTt, YJk, z1k, zuK, ZSq, h4', g1', qDR hz, XUt hh]
     exact Bt.sel [5, 6] hh (by decide) (by simp only [KlE, FrSel, BlkSel, AV.ren, renL, AV.ok, okL, Option.some.injEq, exists_eq_left', List.length_cons, List.length_nil, Nat.reduceAdd, Nat.reduceLT, reduceCtorEq, implies_true, exists_eq']) (by simp only [KlE, FrSel, BlkSel, AV.ren, renL, AV.ok, okL, Option.some.injEq, exists_eq_left', List.length_cons, List.length_nil, Nat.reduceAdd, Nat.reduceLT, reduceCtorEq, implies_true, exists_eq'])
    ·have b1 : (ds'.length = 0) = False := eq_false b0
     have r3 : dotR.cells ds' = dotR.cells (ds ++ ds') := by rw [dn]; rfl
     have rr : ∀ (L : List AB) (k : Nat) (kk : Option Nat), ownC L k = some (dotR.cells ds') → getS dotR (h ++ L) (.sl (h.length + k) 0 ds'.length ds'.length kk) = some (ds ++ ds') := fun L k kk hL => r1 L k _ kk (by omega) (hL.trans (congrArg some r3))
     simp only [gr, z18, qdf, Xq8, if_true, if_false, reduceIte, Nat.reduceAdd, Nat.reduceSub, Nat.reduceLeDiff, Nat.reduceEqDiff, Nat.reduceMul, Nat.reduceLT, Int.reduceLT, Int.reduceLE, Int.reduceEq, CO.tmps, Opd.tmps, optT, Nat.reducePow, Nat.reduceDiv, Nat.reduceMod, f1, f2, f3, f4, u2, u4, d1, b1, k1, k2, k3, k4, k5, k6, k7, k8, rr, Zwl, KYR, ne_eq, zlc, JJe, Z8u, QTt, YJk, z1k, zuK, ZSq, h4', g1', qDR hz, XUt hh]
     exact Bt.sel [6, 7] hh (by decide) (by simp only [KlE, FrSel, BlkSel, AV.ren, renL, AV.ok, okL, Option.some.injEq, exists_eq_left', List.length_cons, List.length_nil, Nat.reduceAdd, Nat.reduceLT, reduceCtorEq, implies_true, exists_eq']) (by simp only [KlE, FrSel, BlkSel, AV.ren, renL, AV.ok, okL, Option.some.injEq, exists_eq_left', List.length_cons, List.length_nil, Nat.reduceAdd, Nat.reduceLT, reduceCtorEq, implies_true, exists_eq'])
   ·have d1 : (ds.length = 0) = False := eq_false d0
    by_cases b0 : ds'.length = 0
    ·have b1 : (ds'.length = 0) = True := eq_true b0
     have bn : ds' = [] := List.eq_nil_of_length_eq_zero b0
     have r3 : dotR.cells ds = dotR.cells (ds ++ ds') := by rw [bn, List.append_nil]
     have rr : ∀ (L : List AB) (k : Nat) (kk : Option Nat), ownC L k = some (dotR.cells ds) → getS dotR (h ++ L) (.sl (h.length + k) 0 ds.length ds.length kk) = some (ds ++ ds') := fun L k kk hL => r1 L k _ kk (by omega) (hL.trans (congrArg some r3))
     simp only [gr, z18, qdf, Xq8, if_true, if_false, reduceIte, Nat.reduceAdd, Nat.reduceSub, Nat.reduceLeDiff, Nat.reduceEqDiff, Nat.reduceMul, Nat.reduceLT, Int.reduceLT, Int.reduceLE, Int.reduceEq, CO.tmps, Opd.tmps, optT, Nat.reducePow, Nat.reduceDiv, Nat.reduceMod, f1, f2, f3, f4, u2, u4, d1, b0, k1, k2, k3, k4, k5, k6, k7, k8, rr, Zwl, KYR, ne_eq, zlc, JJe, Z8u, QTt, YJk, z1k, zuK, ZSq, h4', g1', qDR hz, XUt hh]
     exact Bt.sel [6, 7] hh (by decide) (by simp only [KlE, FrSel, BlkSel, AV.ren, renL, AV.ok, okL, Option.some.injEq, exists_eq_left', List.length_cons, List.length_nil, Nat.reduceAdd, Nat.reduceLT, reduceCtorEq, implies_true, exists_eq']) (by simp only [KlE, FrSel, BlkSel, AV.ren, renL, AV.ok, okL, Option.some.injEq, exists_eq_left', List.length_cons, List.length_nil, Nat.reduceAdd, Nat.reduceLT, reduceCtorEq, implies_true, exists_eq'])
    ·have b1 : (ds'.length = 0) = False := eq_false b0
     have rr : ∀ (L : List AB) (k : Nat) (kk : Option Nat), ownC L k = some (dotR.cells ds ++ dotR.cells ds') → getS dotR (h ++ L) (.sl (h.length + k) 0 (ds.length + ds'.length) (ds.length + ds'.length) kk) = some (ds ++ ds') := fun L k kk hL => r1 L k _ kk (by omega) (hL.trans (congrArg some r2))
     simp only [gr, z18, qdf, Xq8, if_true, if_false, reduceIte, Nat.reduceAdd, Nat.reduceSub, Nat.reduceLeDiff, Nat.reduceEqDiff, Nat.reduceMul, Nat.reduceLT, Int.reduceLT, Int.reduceLE, Int.reduceEq, CO.tmps, Opd.tmps, optT, Nat.reducePow, Nat.reduceDiv, Nat.reduceMod, f1, f2, f3, f4, u2, u4, d1, b1, k1, k2, k3, k4, k5, k6, k7, k8, rr, Zwl, KYR, ne_eq, zlc, JJe, Z8u, QTt, YJk, z1k, zuK, ZSq, h4', g1', qDR hz, XUt hh]
     exact Bt.sel [7, 8] hh (by decide) (by simp only [KlE, FrSel, BlkSel, AV.ren, renL, AV.ok, okL, Option.some.injEq, exists_eq_left', List.length_cons, List.length_nil, Nat.reduceAdd, Nat.reduceLT, reduceCtorEq, implies_true, exists_eq']) (by simp only [KlE, FrSel, BlkSel, AV.ren, renL, AV.ok, okL, Option.some.injEq, exists_eq_left', List.length_cons, List.length_nil, Nat.reduceAdd, Nat.reduceLT, reduceCtorEq, implies_true, exists_eq'])
  ·have h4' := eq_false h4
   simp only [XPp, if_neg h4]
   by_cases d0 : ds.length = 0
   ·have d1 : (ds.length = 0) = True := eq_true d0
    have dn : ds = [] := List.eq_nil_of_length_eq_zero d0
    by_cases b0 : ds'.length = 0
    ·have b1 : (ds'.length = 0) = True := eq_true b0
     have bn : ds' = [] := List.eq_nil_of_length_eq_zero b0
     have rr := fun H id kk => r0 H id kk (by omega)
     simp only [gr, z18, qdf, Xq8, if_true, if_false, reduceIte, Nat.reduceAdd, Nat.reduceSub, Nat.reduceLeDiff, Nat.reduceEqDiff, Nat.reduceMul, Nat.reduceLT, Int.reduceLT, Int.reduceLE, Int.reduceEq, CO.tmps, Opd.tmps, optT, Nat.reducePow, Nat.reduceDiv, Nat.reduceMod, f1, f2, f3, f4, u2, u4, d1, b1, k1, k2, k3, k4, k5, k6, k7, k8, rr, Zwl, KYR, ne_eq, zlc, JJe, Z8u, QTt, YJk, z1k, zuK, ZSq, h4', g1', qDR hz, XUt hh]
     rw [show h ++ ([] : List AB) = h from List.append_nil h]
     exact Bt.drop _ hh rfl (by simp [AV.ok, okL])
    ·have b1 : (ds'.length = 0) = False := eq_false b0
     have r3 : dotR.cells ds' = dotR.cells (ds ++ ds') := by rw [dn]; rfl
     have rr : ∀ (L : List AB) (k : Nat) (kk : Option Nat), ownC L k = some (dotR.cells ds') → getS dotR (h ++ L) (.sl (h.length + k) 0 ds'.length ds'.length kk) = some (ds ++ ds') := fun L k kk hL => r1 L k _ kk (by omega) (hL.trans (congrArg some r3))
     simp only [gr, z18, qdf, Xq8, if_true, if_false, reduceIte, Nat.reduceAdd, Nat.reduceSub, Nat.reduceLeDiff, Nat.reduceEqDiff, Nat.reduceMul, Nat.reduceLT, Int.reduceLT, Int.reduceLE, Int.reduceEq, CO.tmps, Opd.tmps, optT, Nat.reducePow, Nat.reduceDiv, Nat.reduceMod, f1, f2, f3, f4, u2, u4, d1, b1, k1, k2, k3, k4, k5, k6, k7, k8, rr, Zwl, KYR, ne_eq, zlc, JJe, Z8u, QTt, YJk, z1k, zuK, ZSq, h4', g1', qDR hz, XUt hh]
     rw [show h ++ ([] : List AB) = h from List.append_nil h]
     exact Bt.drop _ hh rfl (by simp [AV.ok, okL])
   ·have d1 : (ds.length = 0) = False := eq_false d0
    by_cases b0 : ds'.length = 0
    ·have b1 : (ds'.length = 0) = True := eq_true b0
     have bn : ds' = [] := List.eq_nil_of_length_eq_zero b0
     have r3 : dotR.cells ds = dotR.cells (ds ++ ds') := by rw [bn, List.append_nil]
     have rr : ∀ (L : List AB) (k : Nat) (kk : Option Nat), ownC L k = some (dotR.cells ds) → getS dotR (h ++ L) (.sl (h.length + k) 0 ds.length ds.length kk) = some (ds ++ ds') := fun L k kk hL => r1 L k _ kk (by omega) (hL.trans (congrArg some r3))
     simp only [gr, z18, qdf, Xq8, if_true, if_false, reduceIte, Nat.reduceAdd, Nat.reduceSub, Nat.reduceLeDiff, Nat.reduceEqDiff, Nat.reduceMul, Nat.reduceLT, Int.reduceLT, Int.reduceLE, Int.reduceEq, CO.tmps, Opd.tmps, optT, Nat.reducePow, Nat.reduceDiv, Nat.reduceMod, f1, f2, f3, f4, u2, u4, d1, b0, k1, k2, k3, k4, k5, k6, k7, k8, rr, Zwl, KYR, ne_eq, zlc, JJe, Z8u, QTt, YJk, z1k, zuK, ZSq, h4', g1', qDR hz, XUt hh]
     rw [show h ++ ([] : List AB) = h from List.append_nil h]
     exact Bt.drop _ hh rfl (by simp [AV.ok, okL])
    ·have b1 : (ds'.length = 0) = False := eq_false b0
     have rr : ∀ (L : List AB) (k : Nat) (kk : Option Nat), ownC L k = some (dotR.cells ds ++ dotR.cells ds') → getS dotR (h ++ L) (.sl (h.length + k) 0 (ds.length + ds'.length) (ds.length + ds'.length) kk) = some (ds ++ ds') := fun L k kk hL => r1 L k _ kk (by omega) (hL.trans (congrArg some r2))
     simp only [gr, z18, qdf, Xq8, if_true, if_false, reduceIte, Nat.reduceAdd, Nat.reduceSub, Nat.reduceLeDiff, Nat.reduceEqDiff, Nat.reduceMul, Nat.reduceLT, Int.reduceLT, Int.reduceLE, Int.reduceEq, CO.tmps, Opd.tmps, optT, Nat.reducePow, Nat.reduceDiv, Nat.reduceMod, f1, f2, f3, f4, u2, u4, d1, b1, k1, k2, k3, k4, k5, k6, k7, k8, rr, Zwl, KYR, ne_eq, zlc, JJe, Z8u, QTt, YJk, z1k, zuK, ZSq, h4', g1', qDR hz, XUt hh]
     rw [show h ++ ([] : List AB) = h from List.append_nil h]
     exact Bt.drop _ hh rfl (by simp [AV.ok, okL])
theorem zOx : Spec Tryz.prog 54 KVl := by
 intro args h v h' e
 unfold KVl at e
 split at e
 ·rename_i s t s' t'
  obtain ⟨vs, hs, e⟩ := zZA e
  obtain ⟨ds, ht, e⟩ := zZA e
  obtain ⟨vs', hs', e⟩ := zZA e
  obtain ⟨ds', ht', e⟩ := zZA e
  by_cases c1 : zEL vs ds = 0
  ·rw [if_neg (by simpa using c1)] at e
   by_cases c2 : zEL vs' ds' = 0
   ·rw [if_neg (by simpa using c2)] at e
    have go := fun h hz hs ht hs' ht' => XNM h hz s t s' t' vs vs' ds ds' hs ht hs' ht' c1 c2
    by_cases h4 : (fmO (YLg vs vs' 16) (ds ++ ds')).2.length ≤ 4096
    ·rw [if_pos h4] at e
     cases e
     refine FnAt.c (FnAt.frz fun hz => ?_)
     rw [show h.length = (h.map AB.freeze).length from (List.length_map _).symm]
     have := go (h.map AB.freeze) hz hs.frz ht.frz hs'.frz ht'.frz
     simp only [XPp, if_pos h4] at this
     exact this
    ·rw [if_neg h4] at e
     cases e
     refine FnAt.c (FnAt.frz0 fun hz => ?_)
     have := go (h.map AB.freeze) hz hs.frz ht.frz hs'.frz ht'.frz
     simp only [XPp, if_neg h4, List.append_nil] at this
     exact this
   ·rw [if_pos c2] at e
    cases e
    have := q9H h s t s' t' vs vs' ds ds' hs ht hs' ht' (by rw [if_pos c1]; exact c2)
    rwa [if_pos c1] at this
  ·rw [if_pos c1] at e
   cases e
   have := q9H h s t s' t' vs vs' ds ds' hs ht hs' ht' (by rw [if_neg c1]; exact c1)
   rwa [if_neg c1] at this
 ·cases e
end Go.Proofs.YtcncpbcbedfakaaGreat
end
section
namespace Go.Proofs.YtcncpbcbedfakaaGreat
set_option maxRecDepth 100000
set_option maxHeartbeats 4000000
noncomputable def q93 : List AV → List AB → Option (AV × List AB)
 | [a, b], h => (getS Kd6 h a).bind fun xs => (getS Kd6 h b).bind fun ys => some (.b (decide (xs = ys)), h)
 | _, _ => none
theorem Xh4 : Spec Tryz.prog 42 q93 := by
 intro args h v h' e
 unfold q93 at e
 split at e
 ·rename_i a b
  obtain ⟨xs, ha, e⟩ := zZA e
  obtain ⟨ys, hb, e⟩ := zZA e
  cases e
  refine FnAt.c (FnAt.frz0 fun hz => ?_)
  replace ha := ha.frz
  replace hb := hb.frz
  generalize h.map AB.freeze = h at *
  refine FnAt.run (by kernel_rfl) (T := ⟨[], []⟩) ⟨trivial, trivial⟩ Tryz.func42 sw42 fun ho hh => ?_
  simp only [XDC, Bool.and_eq_true] at ho
  have fa := ha.fx ho.1 (sz := 34) rfl
  have fb := hb.fx ho.2.1 (sz := 34) rfl
  unfold w42
  simp only [QhW, YqD, z18, Xq8, if_true, if_false, reduceIte, Nat.reduceAdd, Nat.reduceSub, Nat.reduceLeDiff, Nat.reduceEqDiff, Nat.reduceMul, Nat.reduceLT, Int.reduceLT, Int.reduceLE, Int.reduceEq, fa, fb]
  refine zXO (S := Nat) (fun i => xs.length - i) (fun i => [a, b] ++ tp 3 ++ [.b (decide (xs.length = ys.length ∧ xs.take i = ys.take i)), .i .i64 i] ++ tp 24) (fun i => xs.length = ys.length → i ≤ xs.length) 0 (fun _ => Nat.zero_le _) (by simp only [z18, Xq8, if_true, if_false, reduceIte, Nat.reduceAdd, Nat.reduceSub, Nat.reduceLeDiff, Nat.reduceEqDiff, Nat.reduceMul, Nat.reduceLT, Int.reduceLT, Int.reduceLE, Int.reduceEq, List.take_zero]) fun i hi => ?_
  simp only [z18, Xq8, if_true, if_false, reduceIte, Nat.reduceAdd, Nat.reduceSub, Nat.reduceLeDiff, Nat.reduceEqDiff, Nat.reduceMul, Nat.reduceLT, Int.reduceLT, Int.reduceLE, Int.reduceEq, fa, fb]
  refine ⟨fun h1 => ⟨fun h2 => ?_, fun h2 => ?_⟩, fun h1 => ?_⟩
  ·have h3 : i < ys.length := by omega
   have e1 : IntKind.i64.wrap ((i : Int) + 1) = ((i + 1 : Nat) : Int) := ZWo (by have := ha.2; unfold maxLen at this; unfold In64; omega)
   simp only [z18, KHF, Xq8, if_true, if_false, ↓reduceIte, Nat.reduceAdd, Nat.reduceSub, Nat.reduceLeDiff, Nat.reduceEqDiff, Nat.reduceMul, Nat.reduceLT, Int.reduceLT, Int.reduceLE, Int.reduceEq, CO.tmps, Opd.tmps, optT, Nat.reducePow, Nat.reduceDiv, Nat.reduceMod, fa, fb, h2, h3, XOA, QxI, Nat.zero_lt_one, e1]
   refine ⟨i + 1, fun _ => h2, by omega, ?_, Wk.refl _⟩
   have e2 : (xs.length = ys.length ∧ xs.take (i + 1) = ys.take (i + 1)) = (xs.getD i Kd6.d = ys.getD i Kd6.d) := propext (by rw [and_iff_right h1.1]; exact qV9 _ h2 h3 h1.2)
   simp only [e2, Jjg]
  ·exact Bt.eq (by simp only [AV.b.injEq, decide_eq_decide]; exact JeS (by omega)) (List.append_nil h)
  ·exact Bt.eq (by simp only [AV.b.injEq, decide_eq_decide]; exact iff_of_false h1 (Qhw h1)) (List.append_nil h)
 ·cases e
noncomputable def KRb : List AV → List AB → Option (AV × List AB)
 | [.ag [l, v, d], .ag [l', v', d']], h => (getS Kd6 h l).bind fun hs => (getS intR h v).bind fun xs => (getS dotR h d).bind fun ds => (getS Kd6 h l').bind fun hs' => (getS intR h v').bind fun xs' => (getS dotR h d').bind fun ds' =>
   some (.b (decide (hs = hs' ∧ xs = xs' ∧ ds = ds')), h)
 | _, _ => none
noncomputable def z0I : List AV → List AB → Option (AV × List AB)
 | [.ag [l, v, d]], h => (getS Kd6 h l).bind fun hs => (getS intR h v).bind fun xs => (getS dotR h d).bind fun ds => if hs.length ≤ 1000000 ∧ xs.length ≤ 1000000 ∧ ds.length ≤ 1000000 then
   some (.ag [rsl Kd6 h.length hs, rsl intR (h.length + 1) xs, rsl dotR (h.length + 2) ds], h ++ [resB Kd6 true hs, resB intR true xs, resB dotR true ds]) else none
 | _, _ => none
noncomputable def ZTc : List AV → List AB → Option (AV × List AB)
 | [.ag [l, s, t]], h => (getS Kd6 h l).bind fun hs => (getS intR h s).bind fun v => (getS dotR h t).bind fun ds => some (.b (decide (20 < hs.length ∨ 20 < v.length ∨ 30 < ds.length)), h)
 | _, _ => none
end Go.Proofs.YtcncpbcbedfakaaGreat
end
section
namespace Go.Proofs.YtcncpbcbedfakaaGreat
set_option maxRecDepth 100000
set_option maxHeartbeats 4000000
theorem KMT {α : Type} (r : Row α) (m : Bool) : resB r m [] = .dead := _root_.id rfl
theorem q7P {α : Type} (r : Row α) (id : Nat) : rsl r id [] = .sl id 0 0 0 (some 0) := _root_.id rfl
theorem KiC : Spec Tryz.prog 14 KRb := by
 intro args h v h' e
 unfold KRb at e
 split at e
 ·rename_i l s t l' s' t'
  obtain ⟨hs, hl, e⟩ := zZA e
  obtain ⟨xs, hv, e⟩ := zZA e
  obtain ⟨ds, hd, e⟩ := zZA e
  obtain ⟨hs', hl', e⟩ := zZA e
  obtain ⟨xs', hv', e⟩ := zZA e
  obtain ⟨ds', hd', e⟩ := zZA e
  cases e
  refine FnAt.c (FnAt.run (by kernel_rfl) (T := ⟨[⟨42, q93, fun _ => []⟩, ⟨30, Y7O, fun _ => []⟩], []⟩) ⟨⟨Xh4, Qn7, trivial⟩, trivial⟩ Tryz.func14 sw14 fun ho hh => ?_)
  simp only [XDC, Y8A, Bool.and_eq_true] at ho
  have f1 := hl.fx ho.1.1 (sz := 34) rfl
  have f2 := hv.fx ho.1.2.1 (sz := 1) rfl
  have f3 := hd.fx ho.1.2.2.1 (sz := 2) rfl
  have f4 := hl'.fx ho.2.1.1 (sz := 34) rfl
  have f5 := hv'.fx ho.2.1.2.1 (sz := 1) rfl
  have f6 := hd'.fx ho.2.1.2.2.1 (sz := 2) rfl
  unfold w14
  simp only [QhW, YqD, z18, KHF, Xq8, if_true, if_false, ↓reduceIte, Nat.reduceAdd, Nat.reduceSub, Nat.reduceLeDiff, Nat.reduceEqDiff, Nat.reduceMul, Nat.reduceLT, Int.reduceLT, Int.reduceLE, Int.reduceEq, CO.tmps, Opd.tmps, optT, Nat.reducePow, Nat.reduceDiv, Nat.reduceMod, f1, f2, f3, f4, f5, f6, q93, Y7O]
  refine ⟨fun h1 => Bt.dropB _ hh (by simp [h1]), fun h1 => Bt.dropB _ hh (by simp [h1])⟩
 ·cases e
theorem zfH : Spec Tryz.prog 9 ZTc := by
 intro args h v h' e
 unfold ZTc at e
 split at e
 ·rename_i l s t
  obtain ⟨hs, hl, e⟩ := zZA e
  obtain ⟨xs, hv, e⟩ := zZA e
  obtain ⟨ds, hd, e⟩ := zZA e
  cases e
  refine FnAt.c (FnAt.run (by kernel_rfl) (T := ⟨[⟨16, qbD, fun _ => []⟩], []⟩) ⟨⟨zof, trivial⟩, trivial⟩ Tryz.func9 sw9 fun ho hh => ?_)
  simp only [XDC, Y8A, Bool.and_eq_true] at ho
  have f1 := hl.fx ho.1.1 (sz := 34) rfl
  have f2 := hv.fx ho.1.2.1 (sz := 1) rfl
  have f3 := hd.fx ho.1.2.2.1 (sz := 2) rfl
  unfold w9
  simp only [QhW, YqD, z18, KHF, Xq8, if_true, if_false, ↓reduceIte, Nat.reduceAdd, Nat.reduceSub, Nat.reduceLeDiff, Nat.reduceEqDiff, Nat.reduceMul, Nat.reduceLT, Int.reduceLT, Int.reduceLE, Int.reduceEq, CO.tmps, Opd.tmps, optT, Nat.reducePow, Nat.reduceDiv, Nat.reduceMod, f1, f2, f3, qbD]
  refine ⟨fun q => Bt.dropB _ hh (decide_eq_true (.inl (by omega))).symm, fun q => Bt.dropB _ hh (decide_eq_decide.2 ?_)⟩
  omega
 ·cases e
theorem Xjg : Spec Tryz.prog 11 z0I := by
 intro args h v h' e
 unfold z0I at e
 split at e
 ·rename_i l s t
  obtain ⟨hs, hl, e⟩ := zZA e
  obtain ⟨xs, hv, e⟩ := zZA e
  obtain ⟨ds, hd, e⟩ := zZA e
  split at e
  ·rename_i hL
   cases e
   refine FnAt.c (FnAt.frz fun hz => ?_)
   rw [show h.length = (h.map AB.freeze).length from (List.length_map _).symm]
   replace hl := hl.frz
   replace hv := hv.frz
   replace hd := hd.frz
   generalize h.map AB.freeze = h at *
   refine FnAt.run (by kernel_rfl) (T := ⟨[⟨17, zkV, fun _ => []⟩], []⟩) ⟨⟨Xgt, trivial⟩, trivial⟩ Tryz.func11 sw11 fun ho hh => ?_
   simp only [XDC, Y8A, Bool.and_eq_true] at ho
   have f1 := hl.fx ho.1.1 (sz := 34) rfl
   have f2 := hv.fx ho.1.2.1 (sz := 1) rfl
   have f3 := hd.fx ho.1.2.2.1 (sz := 2) rfl
   have u1 := hl.src (sz := 34) rfl
   obtain ⟨g1, g2, g3⟩ := hL
   have z1 : (hs.length * 48 ≤ 140737488355328 ∧ hs.length ≤ maxLen) = True := eq_true ⟨by omega, by unfold maxLen; omega⟩
   unfold w11
   by_cases h0 : hs.length = 0
   ·have hx : hs = [] := List.eq_nil_of_length_eq_zero h0
    subst hx
    simp only [QhW, YqD, z18, KHF, Xq8, if_true, if_false, ↓reduceIte, Nat.reduceAdd, Nat.reduceSub, Nat.reduceLeDiff, Nat.reduceEqDiff, Nat.reduceMul, Nat.reduceLT, Int.reduceLT, Int.reduceLE, Int.reduceEq, CO.tmps, Opd.tmps, optT, Nat.reducePow, Nat.reduceDiv, Nat.reduceMod, f1, f2, f3, u1, zkV, g2, g3, List.length_nil, XBR, XUt hh, Ygn hz, QqV hz, qNQ hz]
    refine Bt.trans (Bt.wk1 (Kql (l' := [.sl (h.length + 2) 0 0 0 (some 0), rsl intR (h.length + 3) xs, rsl dotR (h.length + 4) ds]) ⟨Wk.empty (h.length + 2) 0 _ _ _ _, Wk.refl _, Wk.refl _, trivial⟩)) ?_
    exact Bt.sel [2, 3, 4] hh (by decide) (by simp only [KlE, FrSel, BlkSel, AV.ren, renL, AV.ok, okL, Option.some.injEq, exists_eq_left', List.length_cons, List.length_nil, Nat.reduceAdd, Nat.reduceLT, reduceCtorEq, implies_true, exists_eq', KMT]) (by simp only [KlE, FrSel, BlkSel, AV.ren, renL, AV.ok, okL, Option.some.injEq, exists_eq_left', List.length_cons, List.length_nil, Nat.reduceAdd, Nat.reduceLT, reduceCtorEq, implies_true, exists_eq', q7P])
   ·have h0' := eq_false h0
    simp only [QhW, YqD, z18, KHF, Xq8, if_true, if_false, ↓reduceIte, Nat.reduceAdd, Nat.reduceSub, Nat.reduceLeDiff, Nat.reduceEqDiff, Nat.reduceMul, Nat.reduceLT, Int.reduceLT, Int.reduceLE, Int.reduceEq, CO.tmps, Opd.tmps, optT, Nat.reducePow, Nat.reduceDiv, Nat.reduceMod, f1, f2, f3, u1, zkV, g2, g3, h0', z1, YuD, XUt hh, Ygn hz, QqV hz, qNQ hz]
    rw [KYU _ h0, QTj _ h0]
    exact Bt.sel [3, 4, 5] hh (by decide) (by simp only [KlE, FrSel, BlkSel, AV.ren, renL, AV.ok, okL, Option.some.injEq, exists_eq_left', List.length_cons, List.length_nil, Nat.reduceAdd, Nat.reduceLT, reduceCtorEq, implies_true, exists_eq']) (by simp only [KlE, FrSel, BlkSel, AV.ren, renL, AV.ok, okL, Option.some.injEq, exists_eq_left', List.length_cons, List.length_nil, Nat.reduceAdd, Nat.reduceLT, reduceCtorEq, implies_true, exists_eq', zLU])
  ·cases e
 ·cases e
end Go.Proofs.YtcncpbcbedfakaaGreat
end
