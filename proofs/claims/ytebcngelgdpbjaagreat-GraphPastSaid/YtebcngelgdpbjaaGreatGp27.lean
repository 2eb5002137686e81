/- Part 27 of what the laws' proofs rest on. No condition. -/
import Derived.Test.YtebcngelgdpbjaaGreatGp26
set_option linter.all false
section
namespace Go.Proofs.YtebcngelgdpbjaaGreat
set_option maxRecDepth 100000
set_option maxHeartbeats 4000000
noncomputable def zMf : List AV → List AB → Option (AV × List AB)
 | [.m id], h => some (keyF (h.length + 0), h ++ [.blk false true [.m id]])
 | _, _ => none
theorem q2k : Spec Tryz.prog 89 zMf := by
 intro args h v h' e
 unfold zMf at e
 split at e
 ·rename_i id
  cases e
  refine FnAt.c (FnAt.run (by kernel_rfl) (T := ⟨[], []⟩) ⟨trivial, trivial⟩ Tryz.func89 sw89 fun ho hh => ?_)
  have c1 : (AV.m id).cells = [.m id] := rfl
  have o1 : (AV.m id).one = true := rfl
  unfold w89
  simp only [QhU, YqB, z16, Xq6, if_true, if_false, reduceIte, Nat.reduceAdd, Nat.reduceSub, Nat.reduceLeDiff, Nat.reduceEqDiff, Nat.reduceMul, Nat.reduceLT, Int.reduceLT, Int.reduceLE, Int.reduceEq, c1, o1]
  exact Bt.wk1 (Wk.refl _)
 ·cases e
theorem Zds {M M' : List (Int × Int)} {m m' : Bool} (e : mpB dotK m (ksM M) = mpB dotK m' (ksM M')) : M = M' := by
 refine JT1 ?_
 unfold mtB mpB at *
 simp only [AB.mo.injEq, true_and] at e ⊢
 exact e.2
open Classical in
noncomputable def Zrb : List AV → List AB → Option (AV × List AB)
 | [.f (.func f) [] [.p j 0], .f (.func g) [] []], h => if c : (f = 148 ∧ g = 90) ∧ ∃ M : List (Int × Int), M.length ≤ 100000 ∧ ∃ mid m, ZMh h j = some [.m mid] ∧ h[mid]? = some (mpB dotK m (ksM M)) then some (apS dotR h.length (srtD c.2.choose), h ++ [resB dotR true (srtD c.2.choose)]) else none
 | _, _ => none
theorem JFT (M : List (Int × Int)) : Zob (ksM M) = srtD M := by
 unfold Zob ksM
 rw [List.map_map]
 congr 1
 exact List.map_id _
theorem JbK : Spec Tryz.prog 88 Zrb := by
 intro args h v h' e
 unfold Zrb at e
 split at e
 ·rename_i f j g
  split at e
  ·rename_i c
   obtain ⟨⟨rfl, rfl⟩, hM⟩ := c
   obtain ⟨h1, mid, m, h2, h3⟩ := hM.choose_spec
   generalize hM.choose = M at *
   cases e
   have := Yey h2 h3 (by unfold ksM; rw [List.length_map]; exact h1)
   rw [JFT] at this
   exact this.c
  ·cases e
 ·cases e
theorem XWU {h : List AB} {j mid : Nat} {m : Bool} {M : List (Int × Int)} (h1 : M.length ≤ 100000) (h2 : ZMh h j = some [.m mid]) (h3 : h[mid]? = some (mpB dotK m (ksM M))) : Zrb [keyF j, .f (.func 90) [] []] h = some (apS dotR h.length (srtD M), h ++ [resB dotR true (srtD M)]) := by
 have c : ((148 : Nat) = 148 ∧ (90 : Nat) = 90) ∧ ∃ M : List (Int × Int), M.length ≤ 100000 ∧ ∃ mid m, ZMh h j = some [.m mid] ∧ h[mid]? = some (mpB dotK m (ksM M)) := ⟨⟨rfl, rfl⟩, M, h1, mid, m, h2, h3⟩
 rw [Zrb, dif_pos c]
 obtain ⟨_, mid', m', e2, e3⟩ := c.2.choose_spec
 rw [h2] at e2
 cases e2
 have q := Zds (Option.some.inj (h3.symm.trans e3))
 exact congrArg (fun M => some (apS dotR h.length (srtD M), h ++ [resB dotR true (srtD M)])) q.symm
theorem J6S {p n : Nat} {sel : List Nat} (M : List (Int × Int)) : BWk (fun i => decide (i < p + n)) (selN p sel) (mtB M) (mtB M) := qTb dotK (Yxs _ M)
theorem qyM {h L : List AB} {c anc k : Nat} {past : List Pt} (hv : vis h.length c anc past k = true) (ag : Bool) (ks : List CK) (ok : Bool) (z d : AV) : lkV (h ++ mskQ h.length c anc past L) ag ks ok z (.m (h.length + k)) d = lkV (h ++ L) ag ks ok z (.m (h.length + k)) d := by
 have : KfE (h ++ mskQ h.length c anc past L) (.m (h.length + k)) = KfE (h ++ L) (.m (h.length + k)) := by
  unfold KfE
  dsimp only
  rw [qu4, qu4, XNU]
  cases L[k]? with
  | none => rfl
  | some B =>
   simp only [Option.map_some, hv, if_true]
   cases B <;> first | rfl | (rename_i m k fr; cases k <;> rfl)
 unfold lkV
 rw [this]
def qVG (m : List EvD) (n : Int) (d : Int × Int) : List (Int × Int) := srtD (pSt (dpE m) (wtN (dpE m d) n.toNat + 1) [] d)
open Classical in
noncomputable def QA1 : List AV → List AB → Option (AV × List AB)
 | [s, .i .i64 n, .ag [.i .i64 a, .i .i64 b]], h => (YgZ h s).bind fun m => if (∀ e ∈ m, e.1.repo.length ≤ 1000000 ∧ e.1.tag.length ≤ 1000000) ∧ m.length ≤ 1000 then
   some (if chkG m n ≠ 0 then (.tu [.ns, .i .i64 (chkG m n)], h) else if (∀ e ∈ m, e.1.dot ≠ (a, b)) then (.tu [.ns, .i .i64 26], h) else (.tu [apS dotR (h.length + 0) (qVG m n (a, b)), .i .i64 0], h ++ [resB dotR true (qVG m n (a, b))])) else none
 | _, _ => none
theorem YZ1 {α : Type} [DecidableEq α] : ∀ {l l' : List α}, l.Nodup → (∀ x ∈ l, x ∈ l') → l.length ≤ l'.length
 | [], _, _, _ => Nat.zero_le _
 | a :: l, l', hn, h => by
  obtain ⟨h1, h2⟩ := List.nodup_cons.1 hn
  have ha := h a (List.mem_cons_self ..)
  have := YZ1 (l := l) (l' := l'.erase a) h2 fun x hx => (List.mem_erase_of_ne (fun z : x = a => h1 (z ▸ hx))).2 (h x (List.mem_cons_of_mem _ hx))
  rw [List.length_erase_of_mem ha] at this
  have hp := List.length_pos_of_mem ha
  simp only [List.length_cons]
  omega
theorem qDL {m : List EvD} {n : Int} (h : chkG m n = 0) (d : Int × Int) : (pSt (dpE m) (wtN (dpE m d) n.toNat + 1) [] d).length ≤ m.length := by
 have hV := qOn h
 have hnd := Y8d hV (k := wtN (dpE m d) n.toNat + 1) (d := d) (Nat.lt_succ_self _)
 have hsub : ∀ x ∈ pSt (dpE m) (wtN (dpE m d) n.toNat + 1) [] d, x ∈ m.map (·.1.dot) := fun x hx => by
  have hx' := (q6O hV (Nat.lt_succ_self _) x).1 hx
  rcases Z7t m d with e | ⟨e, he, _, hde⟩
  ·rw [e] at hx'
   have := JvS (l := []) (r := x.1) (by have := hx'.2; omega)
   simp at this
   omega
  ·rw [hde] at hx'
   obtain ⟨o, ho, hod⟩ := Ji4 h he hx'
   exact List.mem_map.2 ⟨o, ho, hod⟩
 have : (pSt (dpE m) (wtN (dpE m d) n.toNat + 1) [] d).length ≤ (m.map (·.1.dot)).length := by
  exact YZ1 hnd hsub
 rwa [List.length_map] at this
theorem Qbw : Spec Tryz.prog 33 QA1 := by
 intro args h v h' e
 unfold QA1 at e
 split at e
 ·rename_i s n a b
  obtain ⟨m, hs, e⟩ := KdM e
  split at e
  ·rename_i hc
   obtain ⟨hc, hml⟩ := hc
   rw [Option.some.injEq] at e
   by_cases hg : chkG m n ≠ 0
   ·rw [if_pos hg, Prod.mk.injEq] at e
    obtain ⟨rfl, rfl⟩ := e
    refine FnAt.c (FnAt.frz0 fun hz => ?_)
    have hs := hs.frz
    generalize h.map AB.freeze = h at *
    refine FnAt.run (by kernel_rfl) (T := ⟨[⟨16, Kb7, fun _ => []⟩], []⟩) ⟨⟨zyj, trivial⟩, trivial⟩ Tryz.func33 sw33 fun ho hh => ?_
    have gs : ∀ x, YgZ (h ++ x) s = some m := fun x => (hs.app x).get
    have hc' := eq_true hc
    have hg' := eq_false (p := chkG m n = 0) hg
    unfold w33
    simp only [QhU, YqB, z16, KHD, Xq6, if_true, if_false, ↓reduceIte, Nat.reduceAdd, Nat.reduceSub, Nat.reduceLeDiff, Nat.reduceEqDiff, Nat.reduceMul, Nat.reduceLT, Int.reduceLT, Int.reduceLE, Int.reduceEq, CO.tmps, Opd.tmps, optT, Nat.reducePow, Nat.reduceDiv, Nat.reduceMod, Kb7, gs, hc', hg', Option.bind_some, XUr hh, Ygl hz, QqT hz, qNP hz, if_true, decide_true, decide_false, ne_eq, not_false_eq_true, not_true_eq_false, false_implies, forall_const, and_true, true_and]
    exact Bt.drop _ hh rfl rfl
   rw [if_neg hg] at e
   have hg0 : chkG m n = 0 := Decidable.byContradiction hg
   have hg' := eq_true hg0
   have hc' := eq_true hc
   obtain ⟨_, _, _, hA, _⟩ := ZEf hg0
   obtain ⟨_, _, hnd⟩ := Js7 hA
   obtain ⟨v0, new, hv1, hv2, rfl, rfl⟩ : ∃ v0 new, ((∀ e ∈ m, e.1.dot ≠ (a, b)) → v0 = .tu [.ns, .i .i64 26] ∧ new = []) ∧ ((¬ ∀ e ∈ m, e.1.dot ≠ (a, b)) → v0 = .tu [apS dotR (h.length + 0) (qVG m n (a, b)), .i .i64 0] ∧ new = [resB dotR true (qVG m n (a, b))]) ∧ v = v0 ∧ h' = h ++ new := by
    by_cases hno : ∀ e ∈ m, e.1.dot ≠ (a, b)
    ·rw [if_pos hno, Prod.mk.injEq] at e
     exact ⟨_, _, fun _ => ⟨rfl, rfl⟩, fun z => absurd hno z, e.1.symm, by rw [List.append_nil]; exact e.2.symm⟩
    ·rw [if_neg hno, Prod.mk.injEq] at e
     exact ⟨_, _, fun z => absurd z hno, fun _ => ⟨rfl, rfl⟩, e.1.symm, e.2.symm⟩
   clear e
   refine FnAt.c (FnAt.frz fun hz => ?_)
   have hs := hs.frz
   have hlen : (h.map AB.freeze).length = h.length := List.length_map _
   rw [← hlen] at hv2
   generalize h.map AB.freeze = h at *
   clear hlen
   refine FnAt.run (by kernel_rfl) (T := ⟨[⟨16, Kb7, fun _ => []⟩, ⟨87, Kaa h m n.toNat (wtN (dpE m (a, b)) n.toNat + 1) (h.length + 3) (h.length + 1) (h.length + 2), fun _ => [h.length + 2]⟩, ⟨89, zMf, fun _ => []⟩, ⟨88, Zrb, fun _ => []⟩], []⟩) ⟨⟨zyj, zkk (qOn hg0) (fun e he => ⟨hs.d e he, hs.o e he⟩) hnd (by omega) (by omega) (by omega) _, q2k, JbK, trivial⟩, trivial⟩ Tryz.func33 sw33 fun ho hh => ?_
   simp only [XDA, Bool.and_eq_true] at ho
   have f1 := hs.s.fx ho.1 (sz := 39) rfl
   have hlm : (m.map (·.1)).length = m.length := List.length_map _
   rw [hlm] at f1
   have so : ∀ c, s.ok (fun i => decide (i < h.length + c)) = true := fun c => AV.ok_mono (fun i q => by simp only [decide_eq_true_eq] at q ⊢; omega) s ho.1
   have sr : ∀ sel, Wk (s.ren (selN h.length sel)) s := fun sel => Wk.ren (fun i hi => ZiE hi) ho.1
   have gs : ∀ x, YgZ (h ++ x) s = some m := fun x => (hs.app x).get
   have nf1 : AV.nf.one = true := rfl
   have mc : ∀ id, (AV.m id).cells = [.m id] := fun _ => rfl
   have mk : ∀ id, (AV.m id).known = true := fun _ => rfl
   have m1 : ∀ id, (AV.m id).one = true := fun _ => rfl
   have hok : ∀ j, okL (fun i => decide (i < h.length)) (kvF dotK (entE (m.take j))) = true := fun j => zOT fun e he => by
    obtain ⟨e', he', rfl⟩ := List.mem_map.1 he
    exact hs.o e' (List.mem_of_mem_take he')
   have mok : ∀ b c j, (mpB dotK b (entE (m.take j))).ok (fun i => decide (i < h.length + c)) = true := fun b c j => KAd (fun i q => by simp only [decide_eq_true_eq] at q ⊢; omega) _ (hok j)
   have moq : ∀ b c lo hi anc past j, (mpB dotK b (entE (m.take j))).ok (qOk (h.length + c) lo hi anc past) = true := fun b c lo hi anc past j => KAd (fun i q => YO3 (by have := of_decide_eq_true q; omega)) _ (hok j)
   have bm := fun n sel j => qTb dotK (p := h.length) (n := n) (sel := sel) (m := true) (l := entE (m.take j)) (hok j)
   unfold w33
   simp only [QhU, YqB, z16, KHD, Xq6, if_true, if_false, ↓reduceIte, Nat.reduceAdd, Nat.reduceSub, Nat.reduceLeDiff, Nat.reduceEqDiff, Nat.reduceMul, Nat.reduceLT, Int.reduceLT, Int.reduceLE, Int.reduceEq, CO.tmps, Opd.tmps, optT, Nat.reducePow, Nat.reduceDiv, Nat.reduceMod, q41, mc, mk, m1, nf1, f1, Kb7, gs, hc', hg', Option.bind_some, XUr hh, Ygl hz, QqT hz, qNP hz, if_true, decide_true, decide_false, ne_eq, not_false_eq_true, not_true_eq_false, false_implies, forall_const, and_true, true_and]
   refine q2X (S := Nat) (fun i => m.length - i) (fun i => tp 5 ++ [.p (h.length + 0) 0] ++ tp 3 ++ [.p (h.length + 3) 0] ++ tp 19 ++ [s, .i .i64 (m.length : Int), .i .i64 (i : Int)] ++ tp 34) (fun i => h ++ [.blk true true [.i .i64 a, .i .i64 b], mpB dotK true (entE (m.take i)), mtB [], .blk false true [.m (h.length + 1), .m (h.length + 2), zQ4 (h.length + 3)]]) (fun i => i ≤ m.length) 0 (Nat.zero_le _) ?_ fun i hi => ?_
   ·refine Bt.wk ?_
    simp only [z16, Xq6, if_true, if_false, reduceIte, Nat.reduceAdd, Nat.reduceSub, Nat.reduceLeDiff, Nat.reduceEqDiff, Nat.reduceMul, Nat.reduceLT, Int.reduceLT, Int.reduceLE, Int.reduceEq]
   by_cases g : i < m.length
   ·have g' : ((i : Int) < (m.length : Int)) = True := eq_true (by omega)
    have e1 : IntKind.i64.wrap ((i : Int) + 1) = ((i + 1 : Nat) : Int) := ZWm (by have := hs.s.2; unfold maxLen at this; unfold In64; omega)
    have hgd : (m.map (·.1)).getD i evR.d = m[i].1 := by rw [List.getD_eq_getElem?_getD, List.getElem?_map, List.getElem?_eq_getElem g]; rfl
    have hin : m[i] ∈ m := List.getElem_mem g
    have hoe := hs.o _ hin
    have htk : ∀ e ∈ m.take (i + 1), okL (fun i => decide (i < h.length)) (evtF e.1) = true := fun e he => hs.o e (List.mem_of_mem_take he)
    have hnot : m[i].1.dot ∉ (m.take i).map (·.1.dot) := fun z => by
     have := hnd
     rw [← List.take_append_drop i m, List.map_append, List.drop_eq_getElem_cons g, List.map_cons] at this
     exact (List.nodup_append.1 this).2.2 _ z _ (List.mem_cons_self ..) rfl
    obtain ⟨e, hmi⟩ : ∃ e, m[i] = e := ⟨_, rfl⟩
    rw [hmi] at hgd hin hoe hnot
    obtain ⟨x, dl⟩ := e
    dsimp only at hgd hoe hnot
    obtain ⟨a0, a1, a2, a3, a4, a5, a6⟩ := Zxc x
    have w1 := Q7m x
    have l1 := YXj x
    have lt : (evtF x).take 39 = evtF x := List.take_of_length_le (by rw [l1]; exact Nat.le_refl _)
    have c1 : ∀ l : List AV, (AV.ag l).cells = l := fun _ => rfl
    have t2 : (evtF x).take 2 = [.i .i64 x.dot.1, .i .i64 x.dot.2] := rfl
    have hput : putM dotK (entE (m.take i)) (x.dot.1, x.dot.2) (.ag (evtF x)) = entE (m.take (i + 1)) := by
     have hfd : fndM dotK (x.dot.1, x.dot.2) (entE (m.take i)) 0 = none := JQM.2 fun e he z => hnot (List.mem_map.2 ⟨e, he, z⟩)
     unfold putM
     rw [hfd]
     show entE (m.take i) ++ [(x.dot, AV.ag (evtF x))] = _
     rw [List.take_succ_eq_append_getElem g, hmi]
     unfold entE
     rw [List.map_append]
     rfl
    have soc : ∀ c, okL (fun i => decide (i < h.length + c)) (evtF x) = true := fun c => KAd (fun i q => by simp only [decide_eq_true_eq] at q ⊢; omega) _ hoe
    have soe : ∀ c lo hi anc past, okL (qOk (h.length + c) lo hi anc past) (evtF x) = true := fun c lo hi anc past => KAd (fun i q => YO3 (by have := of_decide_eq_true q; omega)) _ hoe
    have mu : ∀ A L, muV (h ++ (A :: mpB dotK true (entE (m.take i)) :: L)) true [.i, .i] (.m (h.length + 1)) (.ag [.i .i64 x.dot.1, .i .i64 x.dot.2]) (.ag (evtF x)) = some (h ++ (A :: mpB dotK true (entE (m.take (i + 1))) :: L)) := fun A L => by
     have := YOF dotK (h := h ++ (A :: mpB dotK true (entE (m.take i)) :: L)) (id := h.length + 1) (qu4 _ 1) (x.dot.1, x.dot.2) (.ag (evtF x))
     rw [Yie, hput] at this
     exact this
    simp only [QhU, YqB, z16, KHD, Xq6, if_true, if_false, ↓reduceIte, Nat.reduceAdd, Nat.reduceSub, Nat.reduceLeDiff, Nat.reduceEqDiff, Nat.reduceMul, Nat.reduceLT, Int.reduceLT, Int.reduceLE, Int.reduceEq, CO.tmps, Opd.tmps, optT, Nat.reducePow, Nat.reduceDiv, Nat.reduceMod, KhU, JXM, YqJ, QzY, ok_m, f1, g, g', e1, ZxE, hgd, ovE, a0, a1, w1, l1, lt, t2, c1, mu, soe, soc, mok, moq, Yxs, Bool.and_self, QnU, List.drop_zero, XUr hh, Ygl hz, QqT hz, qNP hz, if_true, decide_true, decide_false, ne_eq, not_false_eq_true, not_true_eq_false, false_implies, forall_const, and_true, true_and]
    refine ⟨i + 1, g, by dsimp only; omega, ?_⟩
    dsimp only
    exact Bt.sel [0, 1, 2, 3] hh (by decide) (by simp only [KlC, FrSel, BlkSel, AV.ren, renL, AV.ok, okL, Option.some.injEq, exists_eq_left', List.length_cons, List.length_nil, Nat.reduceAdd, Nat.reduceLT, reduceCtorEq, implies_true, exists_eq', bm, J6S]) (by simp only [KlC, FrSel, BlkSel, AV.ren, renL, AV.ok, okL, Option.some.injEq, exists_eq_left', List.length_cons, List.length_nil, Nat.reduceAdd, Nat.reduceLT, reduceCtorEq, implies_true, exists_eq', so, sr])
   ·have g' : ((i : Int) < (m.length : Int)) = False := eq_false (by omega)
    have hMi : m.take i = m := List.take_of_length_le (by omega)
    rw [hMi]
    have mok1 := fun b c => mok b c i
    have moq1 := fun b c lo hi anc past => moq b c lo hi anc past i
    rw [hMi] at mok1 moq1
    have lr0 : ∀ z, lkR true z none = .tu [z, .b false] := fun _ => rfl
    have lr1 : ∀ z j v, lkR true z (some (j, v)) = .tu [v, .b true] := fun _ _ _ => rfl
    have lk : ∀ A b0 L z, lkV (h ++ (A :: mpB dotK b0 (entE m) :: L)) true [.i, .i] true z (.m (h.length + 1)) (.ag [.i .i64 a, .i .i64 b]) = some (lkR true z (fndM dotK (a, b) (entE m) 0)) := fun A b0 L z => JMn dotK (h := h ++ (A :: mpB dotK b0 (entE m) :: L)) (id := h.length + 1) (qu4 _ 1) true z (a, b)
    cases hfd : fndM dotK (a, b) (entE m) 0 with
    | none =>
     obtain ⟨rfl, rfl⟩ := hv1 (JQM.1 hfd)
     rw [List.append_nil]
     simp only [QhU, YqB, z16, KHD, Xq6, if_true, if_false, ↓reduceIte, Nat.reduceAdd, Nat.reduceSub, Nat.reduceLeDiff, Nat.reduceEqDiff, Nat.reduceMul, Nat.reduceLT, Int.reduceLT, Int.reduceLE, Int.reduceEq, CO.tmps, Opd.tmps, optT, Nat.reducePow, Nat.reduceDiv, Nat.reduceMod, qlG, JTj, zDe, ok_m, f1, g', qyM, lk, hfd, lr0, lr1, mok1, moq1, Yxs, Bool.and_self, QnU, List.drop_zero, XUr hh, Ygl hz, QqT hz, qNP hz, if_true, decide_true, decide_false, ne_eq, not_false_eq_true, not_true_eq_false, false_implies, forall_const, and_true, true_and]
     exact Bt.drop _ hh rfl rfl
    | some jv =>
     obtain ⟨jj, vv⟩ := jv
     obtain ⟨o, ho', hod, rfl⟩ := QjS hfd
     obtain ⟨rfl, rfl⟩ := hv2 fun z => z o ho' hod
     have w2 := Q7m o.1
     have l2 := YXj o.1
     have c1 : ∀ l : List AV, (AV.ag l).cells = l := fun _ => rfl
     have hoo := hs.o o ho'
     have soc : ∀ c, okL (fun i => decide (i < h.length + c)) (evtF o.1) = true := fun c => KAd (fun i q => by simp only [decide_eq_true_eq] at q ⊢; omega) _ hoo
     have soe : ∀ c lo hi anc past, okL (qOk (h.length + c) lo hi anc past) (evtF o.1) = true := fun c lo hi anc past => KAd (fun i q => YO3 (by have := of_decide_eq_true q; omega)) _ hoo
     obtain ⟨K, hK⟩ : ∃ K, wtN (dpE m (a, b)) n.toNat + 1 = K := ⟨_, rfl⟩
     have hwK : wtN (dpE m (a, b)) n.toNat < K := by omega
     have hPl := qDL hg0 (a, b)
     have hPd : qVG m n (a, b) = srtD (pSt (dpE m) K [] (a, b)) := by unfold qVG; rw [hK]
     rw [hK] at hPl
     rw [hPd, hK]
     generalize hP0 : pSt (dpE m) K [] (a, b) = P0 at *
     have tp : ∀ A1 b1 b2 L, Kaa h m n.toNat K (h.length + 3) (h.length + 1) (h.length + 2) [.p (h.length + 3) 0, .ag [.i .i64 a, .i .i64 b]] (h ++ (A1 :: mpB dotK b1 (entE m) :: mtB [] :: .blk false b2 [.m (h.length + 1), .m (h.length + 2), zQ4 (h.length + 3)] :: L)) = some (.tu [], h ++ (A1 :: mpB dotK b1 (entE m) :: mtB P0 :: .blk false b2 [.m (h.length + 1), .m (h.length + 2), zQ4 (h.length + 3)] :: L)) := fun A1 b1 b2 L => by
      have hp : PastH h m (h.length + 3) (h.length + 1) (h.length + 2) (h ++ (A1 :: mpB dotK b1 (entE m) :: mtB [] :: .blk false b2 [.m (h.length + 1), .m (h.length + 2), zQ4 (h.length + 3)] :: L)) := ⟨by rw [List.take_left]; exact hz, by unfold ZMh; rw [qu4]; rfl, b1, qu4 _ 1⟩
      rw [zRt (M := []) (d := (a, b)) hp (qu4 _ 2) hwK, hP0, Yie]
      rfl
     have tk : ∀ A B C D b0, Zrb [.f (.func 148) [] [.p (h.length + 5) 0], .f (.func 90) [] []] (h ++ [A, B, mtB P0, C, D, .blk false b0 [.m (h.length + 2)]]) = some (apS dotR (h.length + 6) (srtD P0), h ++ [A, B, mtB P0, C, D, .blk false b0 [.m (h.length + 2)], resB dotR true (srtD P0)]) := fun A B C D b0 => by
      have := XWU (h := h ++ [A, B, mtB P0, C, D, .blk false b0 [.m (h.length + 2)]]) (j := h.length + 5) (mid := h.length + 2) (m := true) (M := P0) (by omega) (by unfold ZMh; rw [qu4]; rfl) (qu4 _ 2)
      rw [List.length_append, List.append_assoc] at this
      exact this
     simp only [QhU, YqB, z16, KHD, Xq6, if_true, if_false, ↓reduceIte, Nat.reduceAdd, Nat.reduceSub, Nat.reduceLeDiff, Nat.reduceEqDiff, Nat.reduceMul, Nat.reduceLT, Int.reduceLT, Int.reduceLE, Int.reduceEq, CO.tmps, Opd.tmps, optT, Nat.reducePow, Nat.reduceDiv, Nat.reduceMod, qlG, JTj, zDe, ok_m, f1, g', qyM, lk, hfd, lr0, lr1, mok1, moq1, Yxs, w2, l2, c1, soc, soe, ovE, tp, tk, zMf, XJx, Bool.not_true, Bool.not_false, Bool.and_self, QnU, List.drop_zero, XUr hh, Ygl hz, QqT hz, qNP hz, if_true, decide_true, decide_false, ne_eq, not_false_eq_true, not_true_eq_false, false_implies, forall_const, and_true, true_and]
     have ao : ∀ (n : Nat) (L : List (Int × Int)), (apS dotR n L).ok (fun i => decide (i < n + 1)) = true := fun n L => Yv9 _ _ _ (by simp)
     exact Bt.sel [6] hh (by decide) (by simp only [KlC, FrSel, BlkSel, AV.ren, renL, AV.ok, okL, Option.some.injEq, exists_eq_left', List.length_cons, List.length_nil, Nat.reduceAdd, Nat.reduceLT, reduceCtorEq, implies_true, exists_eq']) (by simp only [KlC, FrSel, BlkSel, AV.ren, renL, AV.ok, okL, Option.some.injEq, exists_eq_left', List.length_cons, List.length_nil, Nat.reduceAdd, Nat.reduceLT, reduceCtorEq, implies_true, exists_eq', ao])
  ·cases e
 ·cases e
end Go.Proofs.YtebcngelgdpbjaaGreat
end
section
namespace Go.Proofs.YtebcngelgdpbjaaGreat
set_option maxRecDepth 100000
set_option maxHeartbeats 4000000
def lexI : List Int → List Int → Int
 | [], [] => 0
 | [], _ :: _ => -1
 | _ :: _, [] => 1
 | a :: l, b :: m => if cmpI a b = 0 then lexI l m else cmpI a b
noncomputable def Q2L : List AV → List AB → Option (AV × List AB)
 | [s, t, .f (.func g) [] []], h => if g = 149 then (getS intR h s).bind fun l => (getS intR h t).bind fun m => some (.i .i64 (lexI l m), h) else none
 | _, _ => none
theorem XlJ : Spec Tryz.prog 151 Q2L := by
 intro args h v h' e
 unfold Q2L at e
 split at e
 ·rename_i s t g0
  split at e
  ·rename_i hg0
   subst hg0
   obtain ⟨l, hs, e⟩ := zZy e
   obtain ⟨m, ht, e⟩ := zZy e
   cases e
   refine FnAt.c (FnAt.frz0 fun hz => ?_)
   have hs := hs.frz
   have ht := ht.frz
   generalize h.map AB.freeze = h at *
   refine FnAt.run (by kernel_rfl) (T := ⟨[⟨149, ZG9, fun _ => []⟩], []⟩) ⟨⟨X4L, trivial⟩, trivial⟩ Tryz.func151 Q7n fun ho hh => ?_
   simp only [XDA, Bool.and_eq_true] at ho
   have f1 := hs.fx ho.1 (sz := 1) rfl
   have f2 := ht.fx ho.2.1 (sz := 1) rfl
   unfold w151
   simp only [QhU, YqB, z16, KHD, Xq6, simprocAttr, CO.tmps, Opd.tmps, optT, Nat.reducePow, Nat.reduceDiv, Nat.reduceMod, f1]
   refine zXM (S := Nat) (fun i => l.length - i) (fun i => [s, t, .f (.func 149) [] []] ++ tp 8 ++ [s, .i .i64 (l.length : Int), .i .i64 (i : Int)] ++ tp 25) (fun i => i ≤ l.length ∧ i ≤ m.length ∧ lexI (l.drop i) (m.drop i) = lexI l m) 0 ⟨Nat.zero_le _, Nat.zero_le _, rfl⟩ ?_ fun i hi => ?_
   ·simp only [tp_0, tp_s, List.cons_append, List.nil_append, K2n, JRI, QoW, Jje, and_true, true_and]
    exact Wk.refl _
   obtain ⟨h1, h2, h3⟩ := hi
   rw [← h3]
   by_cases g : i < l.length
   ·have g' : ((i : Int) < (l.length : Int)) = True := eq_true (by omega)
    have e1 : IntKind.i64.wrap ((i : Int) + 1) = ((i + 1 : Nat) : Int) := ZWm (by have := hs.2; unfold maxLen at this; unfold In64; omega)
    by_cases k : i < m.length
    ·have k' : ((m.length : Int) ≤ (i : Int)) = False := eq_false (by omega)
     obtain ⟨x, hx⟩ : ∃ x, l.getD i intR.d = x := ⟨_, rfl⟩
     obtain ⟨y, hy⟩ : ∃ y, m.getD i intR.d = y := ⟨_, rfl⟩
     have hx' : l[i] = x := by rw [← hx, List.getD_eq_getElem?_getD, List.getElem?_eq_getElem g]; rfl
     have hy' : m[i] = y := by rw [← hy, List.getD_eq_getElem?_getD, List.getElem?_eq_getElem k]; rfl
     rw [List.drop_eq_getElem_cons g, List.drop_eq_getElem_cons k, lexI, hx', hy'] at h3 ⊢
     rcases emG (cmpI x y = 0) with c | c
     ·rw [if_pos (of_eq_true c)] at h3 ⊢
      simp only [QhU, YqB, z16, KHD, Xq6, simprocAttr, CO.tmps, Opd.tmps, optT, Nat.reducePow, Nat.reduceDiv, Nat.reduceMod, f1, f2, g, g', k, k', hx, hy, c, e1, Zr0, ZG9, Nat.zero_lt_one, decide_true, decide_false, ne_eq, not_false_eq_true, not_true_eq_false, false_implies, forall_const, and_true, true_and]
      refine ⟨i + 1, ⟨g, k, rfl⟩, by omega, ?_⟩
      simp only [tp_0, tp_s, List.cons_append, List.nil_append, K2n, JRI, QoW, Jje, and_true, true_and]
     ·rw [if_neg (of_eq_false c)] at h3 ⊢
      simp only [QhU, YqB, z16, KHD, Xq6, simprocAttr, CO.tmps, Opd.tmps, optT, Nat.reducePow, Nat.reduceDiv, Nat.reduceMod, f1, f2, g, g', k, k', hx, hy, c, e1, Zr0, ZG9, Nat.zero_lt_one, decide_true, decide_false, ne_eq, not_false_eq_true, not_true_eq_false, false_implies, forall_const, and_true, true_and]
      exact Bt.dropI _ hh rfl
    ·have k' : ((m.length : Int) ≤ (i : Int)) = True := eq_true (by omega)
     rw [List.drop_eq_getElem_cons g, List.drop_eq_nil_of_le (show m.length ≤ i by omega), lexI]
     simp only [QhU, YqB, z16, KHD, Xq6, simprocAttr, CO.tmps, Opd.tmps, optT, Nat.reducePow, Nat.reduceDiv, Nat.reduceMod, f1, f2, g, g', k', Zr0, Nat.zero_lt_one, decide_true, decide_false, ne_eq, not_false_eq_true, not_true_eq_false, false_implies, forall_const, and_true, true_and]
     exact Bt.dropI _ hh rfl
   ·have g' : ((i : Int) < (l.length : Int)) = False := eq_false (by omega)
    rw [List.drop_eq_nil_of_le (show l.length ≤ i by omega)]
    rcases emG ((l.length : Int) < (m.length : Int)) with c | c
    ·have hk : i < m.length := by have := of_eq_true c; omega
     rw [List.drop_eq_getElem_cons hk, lexI]
     simp only [QhU, YqB, z16, KHD, Xq6, simprocAttr, CO.tmps, Opd.tmps, optT, Nat.reducePow, Nat.reduceDiv, Nat.reduceMod, f1, f2, g', c, decide_true, decide_false, ne_eq, not_false_eq_true, not_true_eq_false, false_implies, forall_const, and_true, true_and]
     exact Bt.dropI _ hh rfl
    ·rw [List.drop_eq_nil_of_le (show m.length ≤ i by have := of_eq_false c; omega), lexI]
     simp only [QhU, YqB, z16, KHD, Xq6, simprocAttr, CO.tmps, Opd.tmps, optT, Nat.reducePow, Nat.reduceDiv, Nat.reduceMod, f1, f2, g', c, decide_true, decide_false, ne_eq, not_false_eq_true, not_true_eq_false, false_implies, forall_const, and_true, true_and]
     exact Bt.dropI _ hh rfl
  ·cases e
 ·cases e
def ZHl (a : Int × Int) (w : Int) (b : Int × Int) (u : Int) : Prop := a ≠ b ∧ lexI [w, a.1, a.2] [u, b.1, b.2] < 0 ∨ a = b ∧ w < u
instance (a : Int × Int) (w : Int) (b : Int × Int) (u : Int) : Decidable (ZHl a w b u) := inferInstanceAs (Decidable (_ ∨ _))
noncomputable def Qgw : List AV → List AB → Option (AV × List AB)
 | [.ag [.i .i64 a, .i .i64 b], s, .ag [.i .i64 c, .i .i64 d], t], h => (getS intR h s).bind fun l => (getS intR h t).bind fun m => if l.length ≤ 1000000 ∧ m.length ≤ 1000000 then some (.b (decide (ZHl (a, b) (wS l l.length) (c, d) (wS m m.length))), h) else none
 | _, _ => none
theorem qEQ : Spec Tryz.prog 94 Qgw := by
  intro args h v h' e
  unfold Qgw at e
  split at e
  · rename_i a b s c d t
    obtain ⟨l, hs, e⟩ := zZy e
    obtain ⟨m, ht, e⟩ := zZy e
    split at e
    · rename_i hl
      cases e
      refine FnAt.c (FnAt.frz0 fun hz => ?_)
      have hs := hs.frz
      have ht := ht.frz
      generalize h.map AB.freeze = h at *
      refine FnAt.run (by kernel_rfl) (T := ⟨[⟨150, qal, fun _ => []⟩, ⟨151, Q2L, fun _ => []⟩], []⟩) ⟨⟨zZe, XlJ, trivial⟩, trivial⟩ Tryz.func94 sw94 fun ho hh => ?_
      simp only [XDA, Bool.and_eq_true] at ho
      have f1 := hs.fx ho.2.1 (sz := 1) rfl
      have f2 := ht.fx ho.2.2.2.1 (sz := 1) rfl
      have l1 := eq_true hl.1
      have l2 := eq_true hl.2
      unfold w94
      have eqd : qN8 [.i, .i] [.i .i64 a, .i .i64 b] [.i .i64 c, .i .i64 d] = some (decide ((a, b) = (c, d))) := zlA (a, b) (c, d)
      rcases emG ((a, b) = (c, d)) with q | q <;> rcases emG (wS l l.length < wS m m.length) with q2 | q2 <;> rcases emG (lexI [wS l l.length, a, b] [wS m m.length, c, d] < 0) with q3 | q3 <;>
        (simp only [QhU, YqB, z16, KHD, Xq6, simprocAttr, CO.tmps, Opd.tmps, optT, Nat.reducePow, Nat.reduceDiv, Nat.reduceMod, f1, f2, l1, l2, qal, Q2L, eqd, q, q2, q3, q9x, QQN, Option.bind_some, XUr hh, Ygl hz, QqT hz, qNP hz, if_true, decide_true, decide_false, ne_eq, not_false_eq_true, not_true_eq_false, false_implies, forall_const, and_true, true_and]
         exact Bt.dropB _ hh (by simp [ZHl, q, q2, q3]))
    · cases e
  · cases e
noncomputable def q1b : List AV → List AB → Option (AV × List AB)
 | [a, b], h => (getE a).bind fun x => (getE b).bind fun y => (getS intR h x.deps.a).bind fun l => (getS intR h y.deps.a).bind fun m => if l.length ≤ 1000000 ∧ m.length ≤ 1000000 then some (.b (decide (ZHl x.dot (wS l l.length) y.dot (wS m m.length))), h) else none
 | _, _ => none
theorem Yf2 : Spec Tryz.prog 41 q1b := by
 intro args h v h' e
 unfold q1b at e
 split at e
 ·obtain ⟨x, hx, e2⟩ := Kc6 e
  obtain ⟨y, hy, e3⟩ := Kc6 e2
  clear e e2
  subst hx hy
  obtain ⟨l, hs, e4⟩ := zZy e3
  obtain ⟨m, ht, e5⟩ := zZy e4
  clear e3 e4
  split at e5
  ·rename_i hl
   cases e5
   refine FnAt.c (FnAt.run (by kernel_rfl) (T := ⟨[⟨94, Qgw, fun _ => []⟩], []⟩) ⟨⟨qEQ, trivial⟩, trivial⟩ Tryz.func41 sw41 fun ho hh => ?_)
   obtain ⟨a0, a1, a2, a3, a4, a5, a6⟩ := Zxc x
   obtain ⟨b0, b1, b2, b3, b4, b5, b6⟩ := Zxc y
   have w1 := Q7m x
   have w2 := Q7m y
   have l1 := YXj x
   have l2 := YXj y
   have c1 : ∀ l : List AV, (AV.ag l).cells = l := fun _ => rfl
   have t1 : (evtF x).take 2 = [.i .i64 x.dot.1, .i .i64 x.dot.2] := rfl
   have t2 : (evtF y).take 2 = [.i .i64 y.dot.1, .i .i64 y.dot.2] := rfl
   have g1 : ∀ z, getS intR (h ++ z) x.deps.a = some l := fun z => (hs.app z).get
   have g2 : ∀ z, getS intR (h ++ z) y.deps.a = some m := fun z => (ht.app z).get
   have hl' := eq_true hl
   unfold w41
   simp only [QhU, YqB, z16, KHD, Xq6, simprocAttr, CO.tmps, Opd.tmps, optT, Nat.reducePow, Nat.reduceDiv, Nat.reduceMod, Qgw, a0, a1, a2, b0, b1, b2, w1, w2, l1, l2, c1, t1, t2, g1, g2, hl', List.drop_zero, Option.bind_some, if_true, decide_true, decide_false, ne_eq, not_false_eq_true, not_true_eq_false, false_implies, forall_const, and_true, true_and]
   exact Bt.dropB _ hh rfl
  ·cases e5
 ·cases e
end Go.Proofs.YtebcngelgdpbjaaGreat
end
section
namespace Go.Proofs.YtebcngelgdpbjaaGreat
set_option maxRecDepth 100000
def insK (x : Int × Int) : Dots → Dots
 | [] => [x]
 | y :: l => if cmpD x y < 0 then x :: y :: l else y :: insK x l
def ZdH : Dots → Dots
 | [] => []
 | x :: l => insK x (ZdH l)
theorem K94 (x : Int × Int) : ∀ l, (insK x l).Perm (x :: l)
 | [] => .refl _
 | y :: l => by
  unfold insK
  split
  ·exact .refl _
  ·exact ((K94 x l).cons y).trans (.swap x y l)
theorem zpx : ∀ l, (ZdH l).Perm l
 | [] => .refl _
 | x :: l => (K94 x (ZdH l)).trans ((zpx l).cons x)
def leD (a b : Int × Int) : Prop := ¬ cmpD b a < 0
theorem qiS {a b c : Int × Int} (h1 : leD a b) (h2 : leD b c) : leD a c := by
 unfold leD at *
 rw [YtW] at *
 intro h3
 rcases YZu b a with q | q | q
 ·exact h1 q
 ·subst q; exact h2 h3
 ·exact h2 (q5V h3 q)
theorem XQU {a b : Int × Int} (h : cmpD a b < 0) : leD a b := fun h2 => JW8 a (q5V ((YtW _ _).1 h) ((YtW _ _).1 h2))
theorem K1X (x : Int × Int) : ∀ l, l.Pairwise leD → (insK x l).Pairwise leD
 | [], _ => List.pairwise_singleton _ _
 | y :: l, h => by
  obtain ⟨h1, h2⟩ := List.pairwise_cons.1 h
  unfold insK
  split
  ·rename_i hc
   refine List.pairwise_cons.2 ⟨fun z hz => ?_, h⟩
   rcases List.mem_cons.1 hz with rfl | hz
   ·exact XQU hc
   ·exact qiS (XQU hc) (h1 z hz)
  ·rename_i hc
   refine List.pairwise_cons.2 ⟨fun z hz => ?_, K1X x l h2⟩
   rcases List.mem_cons.1 ((K94 x l).mem_iff.1 hz) with rfl | hz
   ·exact hc
   ·exact h1 z hz
theorem zLN : ∀ l, (ZdH l).Pairwise leD
 | [] => List.Pairwise.nil
 | x :: l => K1X x _ (zLN l)
theorem ZVv (l : Dots) : ZdH l = srtD l := by
 have h2 : (srtD l).Pairwise leD := by
  have := List.pairwise_mergeSort (le := fun x y : Int × Int => !(decide (cmpD y x < 0))) (fun a b c h1 h2 => by
   have := qiS (a := a) (b := b) (c := c) (by simpa [leD] using h1) (by simpa [leD] using h2)
   simpa [leD] using this) (fun a b => by
   by_cases h1 : cmpD b a < 0
   ·have := XQU h1
    simp only [leD] at this
    simp [this]
   ·simp [h1]) l
  refine this.imp fun {a b} h => ?_
  simpa [leD] using h
 refine List.Perm.eq_of_pairwise (le := leD) (fun a b _ _ h1 h2 => ?_) (zLN l) h2 ((zpx l).trans (QL5 l).symm)
 unfold leD at h1 h2
 rw [YtW] at h1 h2
 rcases YZu a b with q | q | q
 ·exact absurd q h2
 ·exact q
 ·exact absurd q h1
def kvD : List AV → Option (List ((Int × Int) × AV))
 | .ag [.i .i64 a, .i .i64 b] :: v :: l => (kvD l).map (((a, b), v) :: ·)
 | [] => some []
 | _ => none
theorem z43 : ∀ {kv : List AV} {l : List ((Int × Int) × AV)}, kvD kv = some l → kv = kvF dotK l
 | [], l, e => by cases e; rfl
 | [x], l, e => by
  have : kvD [x] = none := by
   unfold kvD
   split <;> first | rfl | (rename_i q; cases q)
  rw [this] at e
  cases e
 | x :: v :: kv, l, e => by
  unfold kvD at e
  split at e
  ·rename_i a b v' l' he
   cases he
   obtain ⟨l2, h1, rfl⟩ := Option.map_eq_some_iff.1 e
   rw [z43 h1]
   rfl
  ·rename_i he; cases he
  ·cases e
def qFx : List AV → GT → Nat → Option (AV × HE) := fun args gt hl => match args with
 | [.f (.func f) [] [.p j 0], .f (.func g) [] []] => if f = 148 ∧ g = 90 then
   match gt j with
   | some (.blk _ _ [.m mid]) => match gt mid with
    | some (.mo _ (.map bs c) kv) => (kvD kv).bind fun l => if bs = List.range l.length ∧ c = l.length ∧ l.length ≤ 1000 then some (apS dotR hl (ZdH (l.map (·.1))), .new (resB dotR true (ZdH (l.map (·.1))))) else none
    | _ => none
   | _ => none
  else none
 | _ => none
theorem qSA : NvOk Tryz.prog 88 qFx := by
 intro args gt h v e hg q
 unfold qFx at q
 split at q
 ·rename_i f j g
  split at q
  ·rename_i hfg
   obtain ⟨rfl, rfl⟩ := hfg
   split at q
   ·rename_i fl mu mid hj
    split at q
    ·rename_i m bs c kv hm
     obtain ⟨l, hl, q⟩ := Option.bind_eq_some_iff.1 q
     split at q
     ·rename_i hc
      cases q
      obtain ⟨rfl, rfl, hn⟩ := hc
      have hkv := z43 hl
      subst hkv
      have b1 : ZMh h j = some [.m mid] := by
       unfold ZMh
       rw [Yyf (hg j) hj]
      have hm' := Yfg (hg mid) hm
      rw [ZVv]
      exact ⟨(Yey b1 hm' (by omega)).c, trivial⟩
     ·cases q
    ·cases q
   ·cases q
  ·cases q
 ·cases q
end Go.Proofs.YtebcngelgdpbjaaGreat
end
section
namespace Go.Proofs.YtebcngelgdpbjaaGreat
def tl0 : List (Option TC) := [none, none, none, none, none, some (.cf w5), none, none, none, none, some (.cf w10), some (.cf w11), none, none, some (.cf w14), none]
theorem ta0 : AllN Tryz.prog 0 tl0 := (AllN.skip (AllN.skip (AllN.skip (AllN.skip (AllN.skip (AllN.cons Tryz.func5 sw5 (AllN.skip (AllN.skip (AllN.skip (AllN.skip (AllN.cons Tryz.func10 sw10 (AllN.cons Tryz.func11 sw11 (AllN.skip (AllN.skip (AllN.cons Tryz.func14 sw14 (AllN.skip trivial))))))))))))))))
def tl1 : List (Option TC) := [some (.cf w16), none, some (.cf w18), none, none, none, some (.cf w22), some (.cf w23), none, some (.cf w25), none, none, some (.cf w28), some (.cf w29), some (.cf w30), none]
theorem ta1 : AllN Tryz.prog 16 tl1 := (AllN.cons Tryz.func16 sw16 (AllN.skip (AllN.cons Tryz.func18 sw18 (AllN.skip (AllN.skip (AllN.skip (AllN.cons Tryz.func22 sw22 (AllN.cons Tryz.func23 sw23 (AllN.skip (AllN.cons Tryz.func25 sw25 (AllN.skip (AllN.skip (AllN.cons Tryz.func28 sw28 (AllN.cons Tryz.func29 sw29 (AllN.cons Tryz.func30 sw30 (AllN.skip trivial))))))))))))))))
def tl2 : List (Option TC) := [none, some (.cf w33), none, some (.cf w35), none, some (.cf w37), none, none, some (.cf w40), some (.cf w41), none, none, none, none, some (.cf w46), none]
theorem ta2 : AllN Tryz.prog 32 tl2 := (AllN.skip (AllN.cons Tryz.func33 sw33 (AllN.skip (AllN.cons Tryz.func35 sw35 (AllN.skip (AllN.cons Tryz.func37 sw37 (AllN.skip (AllN.skip (AllN.cons Tryz.func40 sw40 (AllN.cons Tryz.func41 sw41 (AllN.skip (AllN.skip (AllN.skip (AllN.skip (AllN.cons Tryz.func46 sw46 (AllN.skip trivial))))))))))))))))
def tl3 : List (Option TC) := [none, none, some (.cf w50), some (.cf w51), some (.cf w52), none, none, none, none, none, some (.cf w58), none, none, none, none, some (.cf w63)]
theorem ta3 : AllN Tryz.prog 48 tl3 := (AllN.skip (AllN.skip (AllN.cons Tryz.func50 sw50 (AllN.cons Tryz.func51 sw51 (AllN.cons Tryz.func52 sw52 (AllN.skip (AllN.skip (AllN.skip (AllN.skip (AllN.skip (AllN.cons Tryz.func58 sw58 (AllN.skip (AllN.skip (AllN.skip (AllN.skip (AllN.cons Tryz.func63 sw63 trivial))))))))))))))))
def tl4 : List (Option TC) := [some (.cf w64), none, none, none, none, none, none, none, some (.cf w72), some (.cf w73), some (.cf w74), some (.cf w75), some (.cf w76), some (.cf w77), some (.cf w78), none]
theorem ta4 : AllN Tryz.prog 64 tl4 := (AllN.cons Tryz.func64 sw64 (AllN.skip (AllN.skip (AllN.skip (AllN.skip (AllN.skip (AllN.skip (AllN.skip (AllN.cons Tryz.func72 sw72 (AllN.cons Tryz.func73 sw73 (AllN.cons Tryz.func74 sw74 (AllN.cons Tryz.func75 sw75 (AllN.cons Tryz.func76 sw76 (AllN.cons Tryz.func77 sw77 (AllN.cons Tryz.func78 sw78 (AllN.skip trivial))))))))))))))))
def tl5 : List (Option TC) := [some (.cf w80), some (.cf w81), some (.cf w82), some (.cf w83), none, none, none, some (.cf w87), some (.nv qFx), some (.cf w89), some (.cf w90), none, some (.cf w92), some (.cf w93), some (.cf w94), none]
theorem ta5 : AllN Tryz.prog 80 tl5 := (AllN.cons Tryz.func80 sw80 (AllN.cons Tryz.func81 sw81 (AllN.cons Tryz.func82 sw82 (AllN.cons Tryz.func83 sw83 (AllN.skip (AllN.skip (AllN.skip (AllN.cons Tryz.func87 sw87 (AllN.nv qSA (AllN.cons Tryz.func89 sw89 (AllN.cons Tryz.func90 sw90 (AllN.skip (AllN.cons Tryz.func92 sw92 (AllN.cons Tryz.func93 sw93 (AllN.cons Tryz.func94 sw94 (AllN.skip trivial))))))))))))))))
def tl6 : List (Option TC) := [none, none, none, none, none, none, some (.cf w102), some (.cf w103), some (.cf w104), some (.cf w105), none, none, none, none, none, none]
theorem ta6 : AllN Tryz.prog 96 tl6 := (AllN.skip (AllN.skip (AllN.skip (AllN.skip (AllN.skip (AllN.skip (AllN.cons Tryz.func102 qEq (AllN.cons Tryz.func103 YlT (AllN.cons Tryz.func104 Jeh (AllN.cons Tryz.func105 Y6y (AllN.skip (AllN.skip (AllN.skip (AllN.skip (AllN.skip (AllN.skip trivial))))))))))))))))
def tl7 : List (Option TC) := [none, none, none, none, none, none, none, none, none, none, none, some (.cf w123), some (.cf w124), none, none, some (.cf w127)]
theorem ta7 : AllN Tryz.prog 112 tl7 := (AllN.skip (AllN.skip (AllN.skip (AllN.skip (AllN.skip (AllN.skip (AllN.skip (AllN.skip (AllN.skip (AllN.skip (AllN.skip (AllN.cons Tryz.func123 QzU (AllN.cons Tryz.func124 YA6 (AllN.skip (AllN.skip (AllN.cons Tryz.func127 X1r trivial))))))))))))))))
def tl8 : List (Option TC) := [some (.cf w128), some (.cf w129), some (.cf w130), some (.cf w131), none, none, none, none, some (.cf w136), some (.cf w137), some (.cf w138), some (.cf w139), some (.cf w140), none, some (.cf w142), some (.cf w143)]
theorem ta8 : AllN Tryz.prog 128 tl8 := (AllN.cons Tryz.func128 qqU (AllN.cons Tryz.func129 qeD (AllN.cons Tryz.func130 qq4 (AllN.cons Tryz.func131 zJi (AllN.skip (AllN.skip (AllN.skip (AllN.skip (AllN.cons Tryz.func136 YAa (AllN.cons Tryz.func137 zjI (AllN.cons Tryz.func138 K3s (AllN.cons Tryz.func139 ZQu (AllN.cons Tryz.func140 K5C (AllN.skip (AllN.cons Tryz.func142 KBy (AllN.cons Tryz.func143 Xu1 trivial))))))))))))))))
def tl9 : List (Option TC) := [none, none, none, none, some (.cf w148), some (.cf w149), some (.cf w150), some (.cf w151), none, none, none, none, none, none, none, none]
theorem ta9 : AllN Tryz.prog 144 tl9 := (AllN.skip (AllN.skip (AllN.skip (AllN.skip (AllN.cons Tryz.func148 Z4X (AllN.cons Tryz.func149 X0Z (AllN.cons Tryz.func150 JMJ (AllN.cons Tryz.func151 Q7n (AllN.skip (AllN.skip (AllN.skip (AllN.skip (AllN.skip (AllN.skip (AllN.skip (AllN.skip trivial))))))))))))))))
def tl10 : List (Option TC) := [none, none, none, none, none, none, some (.cf w166), none, none, none, none, none, none, none, none, none]
theorem ta10 : AllN Tryz.prog 160 tl10 := (AllN.skip (AllN.skip (AllN.skip (AllN.skip (AllN.skip (AllN.skip (AllN.cons Tryz.func166 Y5M (AllN.skip (AllN.skip (AllN.skip (AllN.skip (AllN.skip (AllN.skip (AllN.skip (AllN.skip (AllN.skip trivial))))))))))))))))
def tl11 : List (Option TC) := [none, none, none, some (.cf w179), some (.cf w180), some (.cf w181), some (.cf w182), some (.cf w183), some (.cf w184), some (.cf w185), none, none, none, none, none, none]
theorem ta11 : AllN Tryz.prog 176 tl11 := (AllN.skip (AllN.skip (AllN.skip (AllN.cons Tryz.func179 J98 (AllN.cons Tryz.func180 zH7 (AllN.cons Tryz.func181 KCg (AllN.cons Tryz.func182 Kg1 (AllN.cons Tryz.func183 KMa (AllN.cons Tryz.func184 zjP (AllN.cons Tryz.func185 Ksm (AllN.skip (AllN.skip (AllN.skip (AllN.skip (AllN.skip (AllN.skip trivial))))))))))))))))
def tl12 : List (Option TC) := [none, none, some (.cf w194), some (.cf w195), some (.cf w196), none, none, none, some (.cf w200), some (.cf w201), some (.cf w202), none, none, none, none, none]
theorem ta12 : AllN Tryz.prog 192 tl12 := (AllN.skip (AllN.skip (AllN.cons Tryz.func194 q5w (AllN.cons Tryz.func195 XkX (AllN.cons Tryz.func196 Jtm (AllN.skip (AllN.skip (AllN.skip (AllN.cons Tryz.func200 X72 (AllN.cons Tryz.func201 KOX (AllN.cons Tryz.func202 JfB (AllN.skip (AllN.skip (AllN.skip (AllN.skip (AllN.skip trivial))))))))))))))))
def tl13 : List (Option TC) := [none, none, some (.cf w210), some (.cf w211), none, none, none, none, none, none, none, none, none, none, some (.cf w222), some (.cf w223)]
theorem ta13 : AllN Tryz.prog 208 tl13 := (AllN.skip (AllN.skip (AllN.cons Tryz.func210 zsC (AllN.cons Tryz.func211 Q2h (AllN.skip (AllN.skip (AllN.skip (AllN.skip (AllN.skip (AllN.skip (AllN.skip (AllN.skip (AllN.skip (AllN.skip (AllN.cons Tryz.func222 JL3 (AllN.cons Tryz.func223 QVg trivial))))))))))))))))
def tl14 : List (Option TC) := [some (.cf w224), some (.cf w225), some (.cf w226), some (.cf w227), some (.cf w228), some (.cf w229), some (.cf w230), some (.cf w231), some (.cf w232), some (.cf w233), some (.cf w234), none, none, none, none, none]
theorem ta14 : AllN Tryz.prog 224 tl14 := (AllN.cons Tryz.func224 zdu (AllN.cons Tryz.func225 Jmz (AllN.cons Tryz.func226 XZI (AllN.cons Tryz.func227 YpL (AllN.cons Tryz.func228 qz2 (AllN.cons Tryz.func229 YED (AllN.cons Tryz.func230 zFC (AllN.cons Tryz.func231 Jfx (AllN.cons Tryz.func232 K3M (AllN.cons Tryz.func233 YPG (AllN.cons Tryz.func234 qzt (AllN.skip (AllN.skip (AllN.skip (AllN.skip (AllN.skip trivial))))))))))))))))
def tl15 : List (Option TC) := [none, none, none, none, none, none, none, none, some (.cf w248), none, none, some (.cf w251), some (.cf w252), none, none, some (.cf w255)]
theorem ta15 : AllN Tryz.prog 240 tl15 := (AllN.skip (AllN.skip (AllN.skip (AllN.skip (AllN.skip (AllN.skip (AllN.skip (AllN.skip (AllN.cons Tryz.func248 Z7i (AllN.skip (AllN.skip (AllN.cons Tryz.func251 Yxl (AllN.cons Tryz.func252 X9X (AllN.skip (AllN.skip (AllN.cons Tryz.func255 ZSs trivial))))))))))))))))
def tl16 : List (Option TC) := [some (.cf w256), some (.cf w257), some (.cf w258), none, none, none, none, none, none, some (.cf w265), none, some (.cf w267), some (.cf w268), some (.cf w269), none, none]
theorem ta16 : AllN Tryz.prog 256 tl16 := (AllN.cons Tryz.func256 ZBl (AllN.cons Tryz.func257 YOP (AllN.cons Tryz.func258 KzM (AllN.skip (AllN.skip (AllN.skip (AllN.skip (AllN.skip (AllN.skip (AllN.cons Tryz.func265 Z7y (AllN.skip (AllN.cons Tryz.func267 Q1U (AllN.cons Tryz.func268 JPY (AllN.cons Tryz.func269 YlB (AllN.skip (AllN.skip trivial))))))))))))))))
def tls : List (List (Option TC)) := [tl0, tl1, tl2, tl3, tl4, tl5, tl6, tl7, tl8, tl9, tl10, tl11, tl12, tl13, tl14, tl15, tl16]
noncomputable def TT : TB := tabn tls
theorem Qs5 : Qhr Tryz.prog TT := QTN tls (AllNs.cons ta0 (AllNs.cons ta1 (AllNs.cons ta2 (AllNs.cons ta3 (AllNs.cons ta4 (AllNs.cons ta5 (AllNs.cons ta6 (AllNs.cons ta7 (AllNs.cons ta8 (AllNs.cons ta9 (AllNs.cons ta10 (AllNs.cons ta11 (AllNs.cons ta12 (AllNs.cons ta13 (AllNs.cons ta14 (AllNs.cons ta15 (AllNs.cons ta16 trivial)))))))))))))))))
end Go.Proofs.YtebcngelgdpbjaaGreat
end
section
namespace Go.Proofs.YtebcngelgdpbjaaGreat
theorem ct5 : runT TT 60 w5 = true := by kernel_rfl
theorem fc5 (h : List AB) : FnC Tryz.prog 5 [] h (.b true) h := FnC.closed (by kernel_rfl) Qs5 60 5 (by kernel_rfl) ct5 h
end Go.Proofs.YtebcngelgdpbjaaGreat
end
