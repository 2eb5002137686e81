/- Part 20 of what the laws' proofs rest on. No condition. -/
import Derived.Test.YtfaccliekejngaaGreatOa19
set_option linter.all false
section
namespace Go.Proofs.YtfaccliekejngaaGreat
set_option maxRecDepth 100000
set_option maxHeartbeats 4000000
def rAt (v : List Int) (r : Int) : Int := if r < 1 ∨ (v.length : Int) < r then 0 else v.getD (r - 1).toNat 0
noncomputable def QCc : List AV → List AB → Option (AV × List AB)
 | [.ag [s, t], .i .i64 r], h => (getS intR h s).bind fun v => (getS dotR h t).bind fun _ => some (.i .i64 (rAt v r), h)
 | _, _ => none
theorem Zm0 : Spec Tryz.prog 121 QCc := by
 intro args h v h' e
 unfold QCc at e
 split at e
 ·rename_i s t r
  obtain ⟨vs, hs, e⟩ := KsT e
  obtain ⟨ds, ht, e⟩ := KsT e
  cases e
  refine FnAt.c (FnAt.run (by kernel_rfl) (T := ⟨[], []⟩) ⟨trivial, trivial⟩ Tryz.func121 XPg fun ho hh => ?_)
  simp only [znG, Z4M, Bool.and_eq_true] at ho
  have f1 := hs.fx ho.1.1 (sz := 1) rfl
  have f2 := ht.fx ho.1.2.1 (sz := 2) rfl
  have hm := hs.2
  unfold maxLen at hm
  unfold w121
  by_cases hr : r < 1 ∨ (vs.length : Int) < r
  ·have ev : rAt vs r = 0 := by unfold rAt; rw [if_pos hr]
   by_cases h1 : r < 1
   ·have h1' := eq_true h1
    simp only [YGO, Jyg, X5g, QXB, simprocAttr, f1, f2, h1']
    exact ⟨Bt.dropI _ hh ev.symm, fun q => q.elim⟩
   ·have h1' := eq_false h1
    have h2' : ((vs.length : Int) < r) = True := eq_true (by omega)
    simp only [YGO, Jyg, X5g, QXB, simprocAttr, f1, f2, h1', h2']
    exact ⟨fun q => q.elim, Bt.dropI _ hh ev.symm, fun q => q.elim⟩
  ·have h1' : (r < 1) = False := eq_false (by omega)
   have h2' : ((vs.length : Int) < r) = False := eq_false (by omega)
   have ew : IntKind.i64.wrap (r - 1) = r - 1 := q6V (by unfold In64; omega)
   have e2 : (0 ≤ r - 1 ∧ r - 1 < (vs.length : Int)) = True := eq_true (by omega)
   have e3 : ((r - 1).toNat < vs.length) = True := eq_true (by omega)
   simp only [YGO, Jyg, X5g, QXB, simprocAttr, f1, f2, h1', h2', ew, e2, e3, KH7]
   exact ⟨fun q => q.elim, fun q => q.elim, Bt.dropI _ hh (by unfold rAt; rw [if_neg hr]; rfl)⟩
 ·cases e
noncomputable def Jzx : List AV → List AB → Option (AV × List AB)
 | [.ag [s, t], .ag [s', t']], h => (getS intR h s).bind fun v => (getS dotR h t).bind fun ds => (getS intR h s').bind fun v' => (getS dotR h t').bind fun ds' => some (.i .i64 (if X74 v ds = 0 then X74 v' ds' else X74 v ds), h)
 | _, _ => none
theorem qma : Spec Tryz.prog 120 Jzx := by
 intro args h v h' e
 unfold Jzx at e
 split at e
 ·rename_i s t s' t'
  obtain ⟨vs, hs, e⟩ := KsT e
  obtain ⟨ds, ht, e⟩ := KsT e
  obtain ⟨vs', hs', e⟩ := KsT e
  obtain ⟨ds', ht', e⟩ := KsT e
  cases e
  refine FnAt.c (FnAt.run (by kernel_rfl) (T := ⟨[⟨61, z6T, fun _ => []⟩], []⟩) ⟨⟨YbC, trivial⟩, trivial⟩ Tryz.func120 Jf8 fun ho hh => ?_)
  simp only [znG, Z4M, Bool.and_eq_true] at ho
  have f1 := hs.fx ho.1.1 (sz := 1) rfl
  have f2 := ht.fx ho.1.2.1 (sz := 2) rfl
  have f3 := hs'.fx ho.2.1.1 (sz := 1) rfl
  have f4 := ht'.fx ho.2.1.2.1 (sz := 2) rfl
  unfold w120
  simp only [YGO, Jyg, X5g, QXB, simprocAttr, f1, f2, f3, f4, z6T]
  exact ⟨fun q => Bt.dropI _ hh (by rw [if_neg q]), fun q => Bt.dropI _ hh (by rw [if_pos (Decidable.not_not.1 q)])⟩
 ·cases e
def q2o (v : List Int) (ds : Dots) (d : Int × Int) : Prop := (1 ≤ d.2 ∧ d.2 ≤ rAt v d.1) ∨ d ∈ ds
instance (v : List Int) (ds : Dots) (d : Int × Int) : Decidable (q2o v ds d) := by unfold q2o; infer_instance
noncomputable def JJN : List AV → List AB → Option (AV × List AB)
 | [.ag [s, t], .ag [.i .i64 a, .i .i64 b]], h => (getS intR h s).bind fun v => (getS dotR h t).bind fun ds => some (.b (decide (q2o v ds (a, b))), h)
 | _, _ => none
theorem X8j : Spec Tryz.prog 116 JJN := by
 intro args h v h' e
 unfold JJN at e
 split at e
 ·rename_i s t a b
  obtain ⟨vs, hs, e⟩ := KsT e
  obtain ⟨ds, ht, e⟩ := KsT e
  cases e
  refine FnAt.c (FnAt.frz0 fun hz => ?_)
  replace hs := hs.frz
  replace ht := ht.frz
  generalize h.map AB.freeze = h at *
  refine FnAt.run (by kernel_rfl) (T := ⟨[⟨121, QCc, fun _ => []⟩], []⟩) ⟨⟨Zm0, trivial⟩, trivial⟩ Tryz.func116 JVj fun ho hh => ?_
  simp only [znG, Z4M, Bool.and_eq_true] at ho
  have f1 := hs.fx ho.1.1 (sz := 1) rfl
  have f2 := ht.fx ho.1.2.1 (sz := 2) rfl
  have m2 := ht.2
  unfold maxLen at m2
  unfold w116
  have yes : (1 ≤ b ∧ b ≤ rAt vs a) → true = decide (q2o vs ds (a, b)) := fun q => (decide_eq_true (.inl q)).symm
  have eq2 : ∀ w : Int × Int, z7H [.i, .i] [.i .i64 w.1, .i .i64 w.2] [.i .i64 a, .i .i64 b] = some (decide (w = (a, b))) := fun w => eqc2 w (a, b)
  simp only [YGO, Jyg, X5g, KIn, QXB, simprocAttr, CO.tmps, Opd.tmps, optT, Nat.reducePow, Nat.reduceDiv, Nat.reduceMod, f1, f2, QCc, Zkb hz, XeO hh]
  refine ⟨fun q1 => ⟨fun q2 => Bt.dropB _ hh (yes ⟨q1, q2⟩), fun q2 => ?_⟩, fun q1 => ?_⟩
  ·have no : ¬ (1 ≤ b ∧ b ≤ rAt vs a) := fun q => q2 q.2
   refine KPW (S := Nat) (fun i => ds.length - i) (fun i => tp 2 ++ [.p (h.length + 0) 0, .p (h.length + 1) 0] ++ tp 1 ++ [.i .i64 i] ++ tp 26) (fun i => i ≤ ds.length ∧ (a, b) ∉ ds.take i) 0 ⟨Nat.zero_le _, by simp⟩ (by simp only [X5g, QXB, simprocAttr]) fun i hi => ?_
   simp only [X5g, QXB, simprocAttr, f1, f2]
   refine ⟨fun g5 => ?_, fun g5 => ?_⟩
   ·have e1 : IntKind.i64.wrap ((i : Int) + 1) = ((i + 1 : Nat) : Int) := q6V (by unfold In64; omega)
    simp only [X5g, KIn, QXB, simprocAttr, CO.tmps, Opd.tmps, optT, Nat.reducePow, Nat.reduceDiv, Nat.reduceMod, f1, f2, g5, YKr, eq2, e1, Zkb hz, XeO hh]
    refine ⟨fun g4 => Bt.dropB _ hh ?_, fun g4 => ⟨i + 1, ⟨g5, ?_⟩, by omega, Wk.refl _⟩⟩
    ·refine (decide_eq_true (.inr ?_)).symm
     rw [← g4, List.getD_eq_getElem?_getD, List.getElem?_eq_getElem g5]
     exact List.getElem_mem g5
    ·rw [List.take_succ_eq_append_getElem g5]
     rw [List.getD_eq_getElem?_getD, List.getElem?_eq_getElem g5, Option.getD_some] at g4
     exact fun q => (List.mem_append.1 q).elim hi.2 fun q => g4 (List.mem_singleton.1 q).symm
   ·refine Bt.dropB _ hh (decide_eq_false fun q => ?_).symm
    have := hi.2
    rw [List.take_of_length_le (by omega)] at this
    exact q.elim no this
  ·have no : ¬ (1 ≤ b ∧ b ≤ rAt vs a) := fun q => q1 q.1
   refine KPW (S := Nat) (fun i => ds.length - i) (fun i => tp 2 ++ [.p (h.length + 0) 0, .p (h.length + 1) 0] ++ tp 1 ++ [.i .i64 i] ++ tp 26) (fun i => i ≤ ds.length ∧ (a, b) ∉ ds.take i) 0 ⟨Nat.zero_le _, by simp⟩ (by simp only [X5g, QXB, simprocAttr]) fun i hi => ?_
   simp only [X5g, QXB, simprocAttr, f1, f2]
   refine ⟨fun g5 => ?_, fun g5 => ?_⟩
   ·have e1 : IntKind.i64.wrap ((i : Int) + 1) = ((i + 1 : Nat) : Int) := q6V (by unfold In64; omega)
    simp only [X5g, KIn, QXB, simprocAttr, CO.tmps, Opd.tmps, optT, Nat.reducePow, Nat.reduceDiv, Nat.reduceMod, f1, f2, g5, YKr, eq2, e1, Zkb hz, XeO hh]
    refine ⟨fun g4 => Bt.dropB _ hh ?_, fun g4 => ⟨i + 1, ⟨g5, ?_⟩, by omega, Wk.refl _⟩⟩
    ·refine (decide_eq_true (.inr ?_)).symm
     rw [← g4, List.getD_eq_getElem?_getD, List.getElem?_eq_getElem g5]
     exact List.getElem_mem g5
    ·rw [List.take_succ_eq_append_getElem g5]
     rw [List.getD_eq_getElem?_getD, List.getElem?_eq_getElem g5, Option.getD_some] at g4
     exact fun q => (List.mem_append.1 q).elim hi.2 fun q => g4 (List.mem_singleton.1 q).symm
   ·refine Bt.dropB _ hh (decide_eq_false fun q => ?_).symm
    have := hi.2
    rw [List.take_of_length_le (by omega)] at this
    exact q.elim no this
 ·cases e
noncomputable def qOD : List AV → List AB → Option (AV × List AB)
 | [.ag [s, t], .ag [.i .i64 a, .i .i64 b]], h => (getS intR h s).bind fun v => (getS dotR h t).bind fun ds => some (.b (decide (X74 v ds = 0 ∧ q2o v ds (a, b))), h)
 | _, _ => none
theorem ZeA : Spec Tryz.prog 63 qOD := by
 intro args h v h' e
 unfold qOD at e
 split at e
 ·rename_i s t a b
  obtain ⟨vs, hs, e⟩ := KsT e
  obtain ⟨ds, ht, e⟩ := KsT e
  cases e
  refine FnAt.c (FnAt.run (by kernel_rfl) (T := ⟨[⟨61, z6T, fun _ => []⟩, ⟨116, JJN, fun _ => []⟩], []⟩) ⟨⟨YbC, X8j, trivial⟩, trivial⟩ Tryz.func63 sw63 fun ho hh => ?_)
  simp only [znG, Z4M, Bool.and_eq_true] at ho
  have f1 := hs.fx ho.1.1 (sz := 1) rfl
  have f2 := ht.fx ho.1.2.1 (sz := 2) rfl
  unfold w63
  simp only [YGO, Jyg, X5g, QXB, simprocAttr, f1, f2, z6T, JJN]
  refine ⟨fun q => Bt.dropB _ hh ?_, fun q => Bt.dropB _ hh ?_⟩
  ·simp only [q, true_and]
  ·simp only [q, false_and, decide_false]
 ·cases e
theorem zGZ {v : List Int} {ds : Dots} (h : X74 v ds = 0) : ZHB v ds ∧ ds.length ≤ 4096 ∧ fmO v ds = (v, ds) := by
 unfold X74 at h
 split at h
 ·cases h
 ·rename_i h1
  split at h
  ·cases h
  ·rename_i h2
   split at h
   ·rename_i h3
    exact ⟨Decidable.not_not.1 h1, by omega, h3⟩
   ·cases h
end Go.Proofs.YtfaccliekejngaaGreat
end
section
namespace Go.Proofs.YtfaccliekejngaaGreat
set_option maxRecDepth 100000
set_option maxHeartbeats 4000000
theorem Zr3 (v : List Int) (h : ∀ n ∈ v, 0 ≤ n ∧ n ≤ 1048576) (r : Int) : 0 ≤ rAt v r ∧ rAt v r ≤ 1048576 := by
 unfold rAt
 split
 ·omega
 ·rw [List.getD_eq_getElem?_getD]
  cases e : v[(r - 1).toNat]? with
  | none => simp
  | some x => exact h x (List.mem_of_getElem? e)
end Go.Proofs.YtfaccliekejngaaGreat
end
section
namespace Go.Proofs.YtfaccliekejngaaGreat
set_option maxRecDepth 100000
set_option maxHeartbeats 4000000
def YJO (v v' : List Int) (n : Nat) : List Int := (List.range n).map fun i => max (rAt v ((i + 1 : Nat) : Int)) (rAt v' ((i + 1 : Nat) : Int))
theorem K6O (v v' : List Int) (n : Nat) : (YJO v v' n).length = n := by simp [YJO]
theorem Yes (v v' : List Int) (n : Nat) : YJO v v' (n + 1) = YJO v v' n ++ [max (rAt v ((n + 1 : Nat) : Int)) (rAt v' ((n + 1 : Nat) : Int))] := by
 simp [YJO, List.range_succ]
theorem qWT (v v' : List Int) (h : ∀ n ∈ v, 0 ≤ n ∧ n ≤ 1048576) (h' : ∀ n ∈ v', 0 ≤ n ∧ n ≤ 1048576) (n : Nat) : ∀ x ∈ YJO v v' n, 0 ≤ x ∧ x ≤ 1048576 := fun x hx => by
 obtain ⟨i, -, rfl⟩ := List.mem_map.1 hx
 have h1 := Zr3 v h ((i + 1 : Nat) : Int)
 have h2 := Zr3 v' h' ((i + 1 : Nat) : Int)
 omega
theorem qcK {v v' : List Int} {ds ds' : Dots} (h : ZHB v ds) (h' : ZHB v' ds') : ZHB (YJO v v' 16) (ds ++ ds') :=
 ⟨by rw [K6O]; omega, qWT v v' h.2.1 h'.2.1 16, fun d hd => (List.mem_append.1 hd).elim (h.2.2 d) (h'.2.2 d)⟩
noncomputable def qqk : List AV → List AB → Option (AV × List AB)
 | [.ag [s, t], .ag [s', t']], h => (getS intR h s).bind fun v => (getS dotR h t).bind fun ds => (getS intR h s').bind fun v' => (getS dotR h t').bind fun ds' =>
   if X74 v ds ≠ 0 then some (.tu [.ag [.ns, .ns], .i .i64 (X74 v ds)], h)
   else if X74 v' ds' ≠ 0 then some (.tu [.ag [.ns, .ns], .i .i64 (X74 v' ds')], h)
   else if (fmO (YJO v v' 16) (ds ++ ds')).2.length ≤ 4096 then some (.tu [.ag [.sl h.length 0 (topI (fmR (YJO v v' 16) (layR (ds ++ ds'))).1 16) 16 none, rsl dotR (h.length + 1) (fmR (YJO v v' 16) (layR (ds ++ ds'))).2], .i .i64 0], h ++ [.blk true true (intR.cells (fmR (YJO v v' 16) (layR (ds ++ ds'))).1), resB dotR true (fmR (YJO v v' 16) (layR (ds ++ ds'))).2])
   else some (.tu [.ag [.ns, .ns], .i .i64 10], h)
 | _, _ => none
theorem zvd (h : List AB) (s t s' t' : AV) (vs vs' : List Int) (ds ds' : Dots) (hs : Rd intR h s vs) (ht : Rd dotR h t ds) (hs' : Rd intR h s' vs') (ht' : Rd dotR h t' ds') (q : (if X74 vs ds = 0 then X74 vs' ds' else X74 vs ds) ≠ 0) : FnC Tryz.prog 75 [.ag [s, t], .ag [s', t']] h (.tu [.ag [.ns, .ns], .i .i64 (if X74 vs ds = 0 then X74 vs' ds' else X74 vs ds)]) h := by
 refine FnAt.c (FnAt.run (by kernel_rfl) (T := ⟨[⟨120, Jzx, fun _ => []⟩], []⟩) ⟨⟨qma, trivial⟩, trivial⟩ Tryz.func75 sw75 fun ho hh => ?_)
 simp only [znG, Z4M, Bool.and_eq_true] at ho
 have f1 := hs.fx ho.1.1 (sz := 1) rfl
 have f2 := ht.fx ho.1.2.1 (sz := 2) rfl
 have f3 := hs'.fx ho.2.1.1 (sz := 1) rfl
 have f4 := ht'.fx ho.2.1.2.1 (sz := 2) rfl
 generalize hc : (if X74 vs ds = 0 then X74 vs' ds' else X74 vs ds) = c at *
 unfold w75
 simp only [YGO, Jyg, X5g, QXB, if_true, if_false, reduceIte, Nat.reduceAdd, Nat.reduceSub, Nat.reduceLeDiff, Nat.reduceEqDiff, Nat.reduceMul, Nat.reduceLT, Int.reduceLT, Int.reduceLE, Int.reduceEq, f1, f2, f3, f4, Jzx, hc]
 exact ⟨fun _ => Bt.drop _ hh rfl rfl, fun z => absurd q z⟩
noncomputable def qTm (p : Nat) (J : List Int) (D : Dots) : AV × List AB :=
 if (fmO J D).2.length ≤ 4096 then (.tu [.ag [.sl p 0 (topI (fmR J (layR D)).1 16) 16 none, rsl dotR (p + 1) (fmR J (layR D)).2], .i .i64 0], [.blk true true (intR.cells (fmR J (layR D)).1), resB dotR true (fmR J (layR D)).2])
 else (.tu [.ag [.ns, .ns], .i .i64 10], [])
theorem ZDy (h : List AB) (hz : h.map AB.freeze = h) (s t s' t' : AV) (vs vs' : List Int) (ds ds' : Dots) (hs : Rd intR h s vs) (ht : Rd dotR h t ds) (hs' : Rd intR h s' vs') (ht' : Rd dotR h t' ds') (c1 : X74 vs ds = 0) (c2 : X74 vs' ds' = 0) : FnAt Tryz.prog 75 [.ag [s, t], .ag [s', t']] h (qTm h.length (YJO vs vs' 16) (ds ++ ds')).1 (h ++ (qTm h.length (YJO vs vs' 16) (ds ++ ds')).2) := by
 obtain ⟨a1, a2, -⟩ := zGZ c1
 obtain ⟨b1, b2, -⟩ := zGZ c2
 have hJ := qcK a1 b1
 have hJl : (YJO vs vs' 16).length = 16 := K6O _ _ _
 have hDl : (ds ++ ds').length = ds.length + ds'.length := List.length_append
 refine FnAt.run (by kernel_rfl) (T := ⟨[⟨120, Jzx, fun _ => []⟩, ⟨121, QCc, fun _ => []⟩, ⟨74, ZdN, fun _ => []⟩], []⟩) ⟨⟨qma, Zm0, KQZ, trivial⟩, trivial⟩ Tryz.func75 sw75 fun ho hh => ?_
 simp only [znG, Z4M, Bool.and_eq_true] at ho
 have f1 := hs.fx ho.1.1 (sz := 1) rfl
 have f2 := ht.fx ho.1.2.1 (sz := 2) rfl
 have f3 := hs'.fx ho.2.1.1 (sz := 1) rfl
 have f4 := ht'.fx ho.2.1.2.1 (sz := 2) rfl
 have u2 := ht.src (sz := 2) rfl
 have u4 := ht'.src (sz := 2) rfl
 have cb : (if X74 vs ds = 0 then X74 vs' ds' else X74 vs ds) = 0 := by rw [if_pos c1]; exact c2
 have fo : ∀ c, s.ok (fun i => decide (i < h.length + c)) = true ∧ t.ok (fun i => decide (i < h.length + c)) = true ∧ s'.ok (fun i => decide (i < h.length + c)) = true ∧ t'.ok (fun i => decide (i < h.length + c)) = true := fun c => by
  have m : ∀ v : AV, v.ok (fun i => decide (i < h.length)) = true → v.ok (fun i => decide (i < h.length + c)) = true := fun v => AV.ok_mono (fun i q => by simp only [decide_eq_true_eq] at q ⊢; omega) v
  exact ⟨m _ ho.1.1, m _ ho.1.2.1, m _ ho.2.1.1, m _ ho.2.1.2.1⟩
 have fr : ∀ sel, Wk (s.ren (selN h.length sel)) s ∧ Wk (t.ren (selN h.length sel)) t ∧ Wk (s'.ren (selN h.length sel)) s' ∧ Wk (t'.ren (selN h.length sel)) t' := fun sel => ⟨Wk.ren (fun i hi => Xzs hi) ho.1.1, Wk.ren (fun i hi => Xzs hi) ho.1.2.1, Wk.ren (fun i hi => Xzs hi) ho.2.1.1, Wk.ren (fun i hi => Xzs hi) ho.2.1.2.1⟩
 unfold w75
 simp only [YGO, Jyg, X5g, QXB, if_true, if_false, reduceIte, Nat.reduceAdd, Nat.reduceSub, Nat.reduceLeDiff, Nat.reduceEqDiff, Nat.reduceMul, Nat.reduceLT, Int.reduceLT, Int.reduceLE, Int.reduceEq, f1, f2, f3, f4, Jzx, cb]
 refine ⟨fun q => q.elim, ?_⟩
 refine JEe (S := Nat) (fun n => 16 - n) (fun n => tp 2 ++ [.p (h.length + 0) 0, .p (h.length + 1) 0, .p (h.length + 2) 0] ++ tp 2 ++ [apS intR (h.length + 3) (YJO vs vs' n), .i .i64 ((n + 1 : Nat) : Int)] ++ tp 32) (fun n => h ++ [.blk false true [s, t], .blk false true [s', t'], .blk false true [.ns, .ns], resB intR true (YJO vs vs' n)]) (fun n => n ≤ 16) 0 (Nat.zero_le _) ?_ fun n hn => ?_
 ·show Bt _ _ _ _ _ (h ++ [.blk false true [s, t], .blk false true [s', t'], .blk false true [.ns, .ns], .dead])
  rw [show h ++ [AB.blk false true [s, t], .blk false true [s', t'], .blk false true [.ns, .ns], .dead] = (h ++ [AB.blk false true [s, t], .blk false true [s', t'], .blk false true [.ns, .ns]]) ++ List.replicate 1 .dead from by rw [List.append_assoc]; rfl]
  refine Bt.trans (Bt.wk ?_) (Bt.pad _ _ 1)
  rw [show apS intR (h.length + 3) (YJO vs vs' 0) = .ns from rfl]
  simp only [X5g, QXB, if_true, if_false, reduceIte, Nat.reduceAdd, Nat.reduceSub, Nat.reduceLeDiff, Nat.reduceEqDiff, Nat.reduceMul, Nat.reduceLT, Int.reduceLT, Int.reduceLE, Int.reduceEq]
 have hnl := K6O vs vs' n
 have e1 : IntKind.i64.wrap (((n + 1 : Nat) : Int) + 1) = ((n + 1 + 1 : Nat) : Int) := q6V (by unfold In64; omega)
 have fa := fun L k ys hb => Q8h (h := h) (r := intR) (sz := 1) rfl L k (YJO vs vs' n) 8 1 ys hb (by decide) (by omega) (by unfold maxLen; omega)
 by_cases g1 : n < 16
 ·have g1' : (((n + 1 : Nat) : Int) ≤ 16) = True := eq_true (by omega)
  by_cases n0 : n = 0
  ·subst n0
   have z0 : YJO vs vs' 0 = [] := rfl
   have z1 : YJO vs vs' (0 + 1) = [max (rAt vs 1) (rAt vs' 1)] := rfl
   have z1' : YJO vs vs' 1 = [max (rAt vs 1) (rAt vs' 1)] := rfl
   have z2 : ((0 + 1 : Nat) : Int) = 1 := rfl
   have z3 : (1 * 8 ≤ 140737488355328 ∧ 1 ≤ maxLen) = True := eq_true ⟨by decide, by unfold maxLen; omega⟩
   simp only [z0, qZR, X5g, KIn, QXB, if_true, if_false, reduceIte, Nat.reduceAdd, Nat.reduceSub, Nat.reduceLeDiff, Nat.reduceEqDiff, Nat.reduceMul, Nat.reduceLT, Int.reduceLT, Int.reduceLE, Int.reduceEq, CO.tmps, Opd.tmps, optT, Nat.reducePow, Nat.reduceDiv, Nat.reduceMod, f1, f2, f3, f4, QCc, z3, g1', e1, Zkb hz, XeO hh]
   refine ⟨by unfold maxLen; omega, 1, by omega, by dsimp only; omega, ?_⟩
   have e12 : IntKind.i64.wrap (1 + 1) = ((1 + 1 : Nat) : Int) := q6V (by unfold In64; omega)
   simp only [z1', XSn, K0n, KH7, e12]
   exact Bt.sel [0, 1, 2, 5] hh (by decide) (by simp only [Zy2, FrSel, BlkSel, AV.ren, renL, AV.ok, okL, Option.some.injEq, exists_eq_left', List.length_cons, List.length_nil, Nat.reduceAdd, Nat.reduceLT, reduceCtorEq, implies_true, exists_eq', fo, fr]) (by simp only [Zy2, FrSel, BlkSel, AV.ren, renL, AV.ok, okL, Option.some.injEq, exists_eq_left', List.length_cons, List.length_nil, Nat.reduceAdd, Nat.reduceLT, reduceCtorEq, implies_true, exists_eq', fo, fr])
  ·have gr : ∀ id, apS intR id (YJO vs vs' n) = rsl intR id (YJO vs vs' n) := fun id => Y8V _ (by omega)
   have fa := fun L k ys hb => Jw1 (h := h) (p := h.length) rfl (r := intR) (sz := 1) rfl L k (YJO vs vs' n) 8 1 ys (by omega) hb (by decide) (by omega) (by unfold maxLen; omega)
   simp only [gr, X5g, KIn, QXB, if_true, if_false, reduceIte, Nat.reduceAdd, Nat.reduceSub, Nat.reduceLeDiff, Nat.reduceEqDiff, Nat.reduceMul, Nat.reduceLT, Int.reduceLT, Int.reduceLE, Int.reduceEq, CO.tmps, Opd.tmps, optT, Nat.reducePow, Nat.reduceDiv, Nat.reduceMod, f1, f2, f3, f4, QCc, fa, g1', e1, Zkb hz, XeO hh]
   refine ⟨n + 1, g1, by dsimp only; omega, ?_⟩
   simp only [Yes, K5K, Z4W, KH7, Nat.add_assoc, Nat.reduceAdd]
   exact Bt.sel [0, 1, 2, 5] hh (by decide) (by simp only [Zy2, FrSel, BlkSel, AV.ren, renL, AV.ok, okL, Option.some.injEq, exists_eq_left', List.length_cons, List.length_nil, Nat.reduceAdd, Nat.reduceLT, reduceCtorEq, implies_true, exists_eq', fo, fr]) (by simp only [Zy2, FrSel, BlkSel, AV.ren, renL, AV.ok, okL, Option.some.injEq, exists_eq_left', List.length_cons, List.length_nil, Nat.reduceAdd, Nat.reduceLT, reduceCtorEq, implies_true, exists_eq', fo, fr])
 ·obtain rfl : n = 16 := by omega
  have g1' : (((16 + 1 : Nat) : Int) ≤ 16) = False := eq_false (by omega)
  have gr : ∀ id, apS intR id (YJO vs vs' 16) = rsl intR id (YJO vs vs' 16) := fun id => Y8V _ (by omega)
  have k1 : ((YJO vs vs' 16).length ≤ maxLen) = True := eq_true (by unfold maxLen; omega)
  have k2 : ZHB (YJO vs vs' 16) (ds ++ ds') = True := eq_true hJ
  have k3 : ((ds ++ ds').length ≤ 1000000) = True := eq_true (by omega)
  have k4 : (ds.length * 16 ≤ 140737488355328 ∧ ds.length ≤ maxLen) = True := eq_true ⟨by omega, by unfold maxLen; omega⟩
  have k5 : (ds'.length * 16 ≤ 140737488355328 ∧ ds'.length ≤ maxLen) = True := eq_true ⟨by omega, by unfold maxLen; omega⟩
  have k6 : ((ds.length + ds'.length) * 16 ≤ 140737488355328) = True := eq_true (by omega)
  have k7 : (ds.length + ds'.length ≤ maxLen) = True := eq_true (by unfold maxLen; omega)
  have k8 : (dotR.cells ds).length = ds.length * 2 := dotR.cells_len ds
  have r1 : ∀ (L : List AB) (k n : Nat) (kk : Option Nat), n = (ds ++ ds').length → ownC L k = some (dotR.cells (ds ++ ds')) → getS dotR (h ++ L) (.sl (h.length + k) 0 n n kk) = some (ds ++ ds') := fun L k n kk hn hL => by
   subst hn
   exact (zcR hL (by unfold maxLen; omega)).get
  have r2 : dotR.cells ds ++ dotR.cells ds' = dotR.cells (ds ++ ds') := by simp [Row.cells]
  have r0 : ∀ (H : List AB) (id : Nat) (kk : Option Nat), (ds ++ ds').length = 0 → getS dotR H (.sl id 0 0 0 kk) = some (ds ++ ds') := fun H id kk hn => (Rd.mk0 hn).get
  by_cases h4 : (fmO (YJO vs vs' 16) (ds ++ ds')).2.length ≤ 4096
  ·have h4' := eq_true h4
   simp only [qTm, if_pos h4]
   by_cases d0 : ds.length = 0
   ·have d1 : (ds.length = 0) = True := eq_true d0
    have dn : ds = [] := List.eq_nil_of_length_eq_zero d0
    by_cases b0 : ds'.length = 0
    ·have b1 : (ds'.length = 0) = True := eq_true b0
     have bn : ds' = [] := List.eq_nil_of_length_eq_zero b0
     have rr := fun H id kk => r0 H id kk (by omega)
     simp only [gr, X5g, KIn, QXB, if_true, if_false, reduceIte, Nat.reduceAdd, Nat.reduceSub, Nat.reduceLeDiff, Nat.reduceEqDiff, Nat.reduceMul, Nat.reduceLT, Int.reduceLT, Int.reduceLE, Int.reduceEq, CO.tmps, Opd.tmps, optT, Nat.reducePow, Nat.reduceDiv, Nat.reduceMod, f1, f2, f3, f4, u2, u4, d1, b1, k1, k2, k3, k4, k5, k6, k7, k8, rr, qMb, Q31, ne_eq, YKk, qZ4, JxS, YFP, ZZ4, QNk, ZY0, ZdN, h4', g1', Zkb hz, XeO hh]
     exact Bt.sel [5, 6] hh (by decide) (by simp only [Zy2, FrSel, BlkSel, AV.ren, renL, AV.ok, okL, Option.some.injEq, exists_eq_left', List.length_cons, List.length_nil, Nat.reduceAdd, Nat.reduceLT, reduceCtorEq, implies_true, exists_eq']) (by simp only [Zy2, FrSel, BlkSel, AV.ren, renL, AV.ok, okL, Option.some.injEq, exists_eq_left', List.length_cons, List.length_nil, Nat.reduceAdd, Nat.reduceLT, reduceCtorEq, implies_true, exists_eq'])
    ·have b1 : (ds'.length = 0) = False := eq_false b0
     have r3 : dotR.cells ds' = dotR.cells (ds ++ ds') := by rw [dn]; rfl
     have rr : ∀ (L : List AB) (k : Nat) (kk : Option Nat), ownC L k = some (dotR.cells ds') → getS dotR (h ++ L) (.sl (h.length + k) 0 ds'.length ds'.length kk) = some (ds ++ ds') := fun L k kk hL => r1 L k _ kk (by omega) (hL.trans (congrArg some r3))
     simp only [gr, X5g, KIn, QXB, if_true, if_false, reduceIte, Nat.reduceAdd, Nat.reduceSub, Nat.reduceLeDiff, Nat.reduceEqDiff, Nat.reduceMul, Nat.reduceLT, Int.reduceLT, Int.reduceLE, Int.reduceEq, CO.tmps, Opd.tmps, optT, Nat.reducePow, Nat.reduceDiv, Nat.reduceMod, f1, f2, f3, f4, u2, u4, d1, b1, k1, k2, k3, k4, k5, k6, k7, k8, rr, qMb, Q31, ne_eq, YKk, qZ4, JxS, YFP, ZZ4, QNk, ZY0, ZdN, h4', g1', Zkb hz, XeO hh]
     exact Bt.sel [6, 7] hh (by decide) (by simp only [Zy2, FrSel, BlkSel, AV.ren, renL, AV.ok, okL, Option.some.injEq, exists_eq_left', List.length_cons, List.length_nil, Nat.reduceAdd, Nat.reduceLT, reduceCtorEq, implies_true, exists_eq']) (by simp only [Zy2, FrSel, BlkSel, AV.ren, renL, AV.ok, okL, Option.some.injEq, exists_eq_left', List.length_cons, List.length_nil, Nat.reduceAdd, Nat.reduceLT, reduceCtorEq, implies_true, exists_eq'])
   ·have d1 : (ds.length = 0) = False := eq_false d0
    by_cases b0 : ds'.length = 0
    ·have b1 : (ds'.length = 0) = True := eq_true b0
     have bn : ds' = [] := List.eq_nil_of_length_eq_zero b0
     have r3 : dotR.cells ds = dotR.cells (ds ++ ds') := by rw [bn, List.append_nil]
     have rr : ∀ (L : List AB) (k : Nat) (kk : Option Nat), ownC L k = some (dotR.cells ds) → getS dotR (h ++ L) (.sl (h.length + k) 0 ds.length ds.length kk) = some (ds ++ ds') := fun L k kk hL => r1 L k _ kk (by omega) (hL.trans (congrArg some r3))
     simp only [gr, X5g, KIn, QXB, if_true, if_false, reduceIte, Nat.reduceAdd, Nat.reduceSub, Nat.reduceLeDiff, Nat.reduceEqDiff, Nat.reduceMul, Nat.reduceLT, Int.reduceLT, Int.reduceLE, Int.reduceEq, CO.tmps, Opd.tmps, optT, Nat.reducePow, Nat.reduceDiv, Nat.reduceMod, f1, f2, f3, f4, u2, u4, d1, b0, k1, k2, k3, k4, k5, k6, k7, k8, rr, qMb, Q31, ne_eq, YKk, qZ4, JxS, YFP, ZZ4, QNk, ZY0, ZdN, h4', g1', Zkb hz, XeO hh]
     exact Bt.sel [6, 7] hh (by decide) (by simp only [Zy2, FrSel, BlkSel, AV.ren, renL, AV.ok, okL, Option.some.injEq, exists_eq_left', List.length_cons, List.length_nil, Nat.reduceAdd, Nat.reduceLT, reduceCtorEq, implies_true, exists_eq']) (by simp only [Zy2, FrSel, BlkSel, AV.ren, renL, AV.ok, okL, Option.some.injEq, exists_eq_left', List.length_cons, List.length_nil, Nat.reduceAdd, Nat.reduceLT, reduceCtorEq, implies_true, exists_eq'])
    ·have b1 : (ds'.length = 0) = False := eq_false b0
     have rr : ∀ (L : List AB) (k : Nat) (kk : Option Nat), ownC L k = some (dotR.cells ds ++ dotR.cells ds') → getS dotR (h ++ L) (.sl (h.length + k) 0 (ds.length + ds'.length) (ds.length + ds'.length) kk) = some (ds ++ ds') := fun L k kk hL => r1 L k _ kk (by omega) (hL.trans (congrArg some r2))
     simp only [gr, X5g, KIn, QXB, if_true, if_false, reduceIte, Nat.reduceAdd, Nat.reduceSub, Nat.reduceLeDiff, Nat.reduceEqDiff, Nat.reduceMul, Nat.reduceLT, Int.reduceLT, Int.reduceLE, Int.reduceEq, CO.tmps, Opd.tmps, optT, Nat.reducePow, Nat.reduceDiv, Nat.reduceMod, f1, f2, f3, f4, u2, u4, d1, b1, k1, k2, k3, k4, k5, k6, k7, k8, rr, qMb, Q31, ne_eq, YKk, qZ4, JxS, YFP, ZZ4, QNk, ZY0, ZdN, h4', g1', Zkb hz, XeO hh]
     exact Bt.sel [7, 8] hh (by decide) (by simp only [Zy2, FrSel, BlkSel, AV.ren, renL, AV.ok, okL, Option.some.injEq, exists_eq_left', List.length_cons, List.length_nil, Nat.reduceAdd, Nat.reduceLT, reduceCtorEq, implies_true, exists_eq']) (by simp only [Zy2, FrSel, BlkSel, AV.ren, renL, AV.ok, okL, Option.some.injEq, exists_eq_left', List.length_cons, List.length_nil, Nat.reduceAdd, Nat.reduceLT, reduceCtorEq, implies_true, exists_eq'])
  ·have h4' := eq_false h4
   simp only [qTm, if_neg h4]
   by_cases d0 : ds.length = 0
   ·have d1 : (ds.length = 0) = True := eq_true d0
    have dn : ds = [] := List.eq_nil_of_length_eq_zero d0
    by_cases b0 : ds'.length = 0
    ·have b1 : (ds'.length = 0) = True := eq_true b0
     have bn : ds' = [] := List.eq_nil_of_length_eq_zero b0
     have rr := fun H id kk => r0 H id kk (by omega)
     simp only [gr, X5g, KIn, QXB, if_true, if_false, reduceIte, Nat.reduceAdd, Nat.reduceSub, Nat.reduceLeDiff, Nat.reduceEqDiff, Nat.reduceMul, Nat.reduceLT, Int.reduceLT, Int.reduceLE, Int.reduceEq, CO.tmps, Opd.tmps, optT, Nat.reducePow, Nat.reduceDiv, Nat.reduceMod, f1, f2, f3, f4, u2, u4, d1, b1, k1, k2, k3, k4, k5, k6, k7, k8, rr, qMb, Q31, ne_eq, YKk, qZ4, JxS, YFP, ZZ4, QNk, ZY0, ZdN, h4', g1', Zkb hz, XeO hh]
     rw [show h ++ ([] : List AB) = h from List.append_nil h]
     exact Bt.drop _ hh rfl (by simp [AV.ok, okL])
    ·have b1 : (ds'.length = 0) = False := eq_false b0
     have r3 : dotR.cells ds' = dotR.cells (ds ++ ds') := by rw [dn]; rfl
     have rr : ∀ (L : List AB) (k : Nat) (kk : Option Nat), ownC L k = some (dotR.cells ds') → getS dotR (h ++ L) (.sl (h.length + k) 0 ds'.length ds'.length kk) = some (ds ++ ds') := fun L k kk hL => r1 L k _ kk (by omega) (hL.trans (congrArg some r3))
     simp only [gr, X5g, KIn, QXB, if_true, if_false, reduceIte, Nat.reduceAdd, Nat.reduceSub, Nat.reduceLeDiff, Nat.reduceEqDiff, Nat.reduceMul, Nat.reduceLT, Int.reduceLT, Int.reduceLE, Int.reduceEq, CO.tmps, Opd.tmps, optT, Nat.reducePow, Nat.reduceDiv, Nat.reduceMod, f1, f2, f3, f4, u2, u4, d1, b1, k1, k2, k3, k4, k5, k6, k7, k8, rr, qMb, Q31, ne_eq, YKk, qZ4, JxS, YFP, ZZ4, QNk, ZY0, ZdN, h4', g1', Zkb hz, XeO hh]
     rw [show h ++ ([] : List AB) = h from List.append_nil h]
     exact Bt.drop _ hh rfl (by simp [AV.ok, okL])
   ·have d1 : (ds.length = 0) = False := eq_false d0
    by_cases b0 : ds'.length = 0
    ·have b1 : (ds'.length = 0) = True := eq_true b0
     have bn : ds' = [] := List.eq_nil_of_length_eq_zero b0
     have r3 : dotR.cells ds = dotR.cells (ds ++ ds') := by rw [bn, List.append_nil]
     have rr : ∀ (L : List AB) (k : Nat) (kk : Option Nat), ownC L k = some (dotR.cells ds) → getS dotR (h ++ L) (.sl (h.length + k) 0 ds.length ds.length kk) = some (ds ++ ds') := fun L k kk hL => r1 L k _ kk (by omega) (hL.trans (congrArg some r3))
     simp only [gr, X5g, KIn, QXB, if_true, if_false, reduceIte, Nat.reduceAdd, Nat.reduceSub, Nat.reduceLeDiff, Nat.reduceEqDiff, Nat.reduceMul, Nat.reduceLT, Int.reduceLT, Int.reduceLE, Int.reduceEq, CO.tmps, Opd.tmps, optT, Nat.reducePow, Nat.reduceDiv, Nat.reduceMod, f1, f2, f3, f4, u2, u4, d1, b0, k1, k2, k3, k4, k5, k6, k7, k8, rr, qMb, Q31, ne_eq, YKk, qZ4, JxS, YFP, ZZ4, QNk, ZY0, ZdN, h4', g1', Zkb hz, XeO hh]
     rw [show h ++ ([] : List AB) = h from List.append_nil h]
     exact Bt.drop _ hh rfl (by simp [AV.ok, okL])
    ·have b1 : (ds'.length = 0) = False := eq_false b0
     have rr : ∀ (L : List AB) (k : Nat) (kk : Option Nat), ownC L k = some (dotR.cells ds ++ dotR.cells ds') → getS dotR (h ++ L) (.sl (h.length + k) 0 (ds.length + ds'.length) (ds.length + ds'.length) kk) = some (ds ++ ds') := fun L k kk hL => r1 L k _ kk (by omega) (hL.trans (congrArg some r2))
     simp only [gr, X5g, KIn, QXB, if_true, if_false, reduceIte, Nat.reduceAdd, Nat.reduceSub, Nat.reduceLeDiff, Nat.reduceEqDiff, Nat.reduceMul, Nat.reduceLT, Int.reduceLT, Int.reduceLE, Int.reduceEq, CO.tmps, Opd.tmps, optT, Nat.reducePow, Nat.reduceDiv, Nat.reduceMod, f1, f2, f3, f4, u2, u4, d1, b1, k1, k2, k3, k4, k5, k6, k7, k8, rr, qMb, Q31, ne_eq, YKk, qZ4, JxS, YFP, ZZ4, QNk, ZY0, ZdN, h4', g1', Zkb hz, XeO hh]
     rw [show h ++ ([] : List AB) = h from List.append_nil h]
     exact Bt.drop _ hh rfl (by simp [AV.ok, okL])
theorem zWn : Spec Tryz.prog 75 qqk := by
 intro args h v h' e
 unfold qqk at e
 split at e
 ·rename_i s t s' t'
  obtain ⟨vs, hs, e⟩ := KsT e
  obtain ⟨ds, ht, e⟩ := KsT e
  obtain ⟨vs', hs', e⟩ := KsT e
  obtain ⟨ds', ht', e⟩ := KsT e
  by_cases c1 : X74 vs ds = 0
  ·rw [if_neg (by simpa using c1)] at e
   by_cases c2 : X74 vs' ds' = 0
   ·rw [if_neg (by simpa using c2)] at e
    have go := fun h hz hs ht hs' ht' => ZDy h hz s t s' t' vs vs' ds ds' hs ht hs' ht' c1 c2
    by_cases h4 : (fmO (YJO vs vs' 16) (ds ++ ds')).2.length ≤ 4096
    ·rw [if_pos h4] at e
     cases e
     refine FnAt.c (FnAt.frz fun hz => ?_)
     rw [show h.length = (h.map AB.freeze).length from (List.length_map _).symm]
     have := go (h.map AB.freeze) hz hs.frz ht.frz hs'.frz ht'.frz
     simp only [qTm, if_pos h4] at this
     exact this
    ·rw [if_neg h4] at e
     cases e
     refine FnAt.c (FnAt.frz0 fun hz => ?_)
     have := go (h.map AB.freeze) hz hs.frz ht.frz hs'.frz ht'.frz
     simp only [qTm, if_neg h4, List.append_nil] at this
     exact this
   ·rw [if_pos c2] at e
    cases e
    have := zvd h s t s' t' vs vs' ds ds' hs ht hs' ht' (by rw [if_pos c1]; exact c2)
    rwa [if_pos c1] at this
  ·rw [if_pos c1] at e
   cases e
   have := zvd h s t s' t' vs vs' ds ds' hs ht hs' ht' (by rw [if_neg c1]; exact c1)
   rwa [if_neg c1] at this
 ·cases e
end Go.Proofs.YtfaccliekejngaaGreat
end
