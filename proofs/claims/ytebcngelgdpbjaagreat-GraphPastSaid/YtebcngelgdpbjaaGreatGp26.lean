/- Part 26 of what the laws' proofs rest on. No condition. -/
import Derived.Test.YtebcngelgdpbjaaGreatGp25
set_option linter.all false
section
namespace Go.Proofs.YtebcngelgdpbjaaGreat
set_option maxRecDepth 100000
set_option maxHeartbeats 4000000
noncomputable def rdDs (h : List AB) : List EvtA → Option (List EvD)
 | [] => some []
 | x :: l => if okL (fun i => decide (i < h.length)) (evtF x) = true then (getS intR h x.deps.a).bind fun d => (rdDs h l).map ((x, d) :: ·) else none
theorem qbY {h : List AB} : ∀ {l : List EvtA} {m : List EvD}, rdDs h l = some m → m.map (·.1) = l ∧ ∀ e ∈ m, Rd intR h e.1.deps.a e.2 ∧ okL (fun i => decide (i < h.length)) (evtF e.1) = true
 | [], m, e => by cases e; exact ⟨rfl, fun e h => by simp at h⟩
 | x :: l, m, e => by
  rw [rdDs] at e
  split at e
  ·rename_i ho
   obtain ⟨d, hd, e⟩ := zZy e
   obtain ⟨m', hm, rfl⟩ := Option.map_eq_some_iff.1 e
   obtain ⟨h1, h2⟩ := qbY hm
   exact ⟨by rw [List.map_cons, h1], fun e he => by
    rcases List.mem_cons.1 he with rfl | he
    ·exact ⟨hd, ho⟩
    ·exact h2 e he⟩
  ·cases e
theorem ZLV {h : List AB} : ∀ {m : List EvD}, (∀ e ∈ m, Rd intR h e.1.deps.a e.2 ∧ okL (fun i => decide (i < h.length)) (evtF e.1) = true) → rdDs h (m.map (·.1)) = some m
 | [], _ => rfl
 | e :: m, hm => by
  have h1 := (hm e (List.mem_cons_self ..)).1.get
  have h2 := ZLV (m := m) fun e he => hm e (List.mem_cons_of_mem _ he)
  rw [List.map_cons, rdDs, if_pos (hm e (List.mem_cons_self ..)).2, h1, Option.bind_some, h2]
  rfl
structure RdEv (h : List AB) (s : AV) (m : List EvD) : Prop where
 s : Rd evR h s (m.map (·.1))
 d : ∀ e ∈ m, Rd intR h e.1.deps.a e.2
 o : ∀ e ∈ m, okL (fun i => decide (i < h.length)) (evtF e.1) = true
noncomputable def YgZ (h : List AB) (s : AV) : Option (List EvD) := (getS evR h s).bind (rdDs h)
theorem RdEv.get {h : List AB} {s : AV} {m : List EvD} (e : RdEv h s m) : YgZ h s = some m := by
 unfold YgZ
 rw [e.s.get, Option.bind_some]
 exact ZLV fun a ha => ⟨e.d a ha, e.o a ha⟩
theorem KdM {β : Type} {h : List AB} {s : AV} {f : List EvD → Option β} {b : β} (e : (YgZ h s).bind f = some b) : ∃ m, RdEv h s m ∧ f m = some b := by
 unfold YgZ at e
 rw [Option.bind_assoc] at e
 obtain ⟨l, hl, e⟩ := zZy e
 obtain ⟨m, hm, e⟩ := Option.bind_eq_some_iff.1 e
 obtain ⟨h1, h2⟩ := qbY hm
 exact ⟨m, ⟨by rw [h1]; exact hl, fun a ha => (h2 a ha).1, fun a ha => (h2 a ha).2⟩, e⟩
theorem RdEv.app {h : List AB} {s : AV} {m : List EvD} (e : RdEv h s m) (x : List AB) : RdEv (h ++ x) s m := ⟨e.s.app x, fun a ha => (e.d a ha).app x, fun a ha => KAd (fun i q => by simp only [decide_eq_true_eq, List.length_append] at q ⊢; omega) _ (e.o a ha)⟩
theorem RdEv.frz {h : List AB} {s : AV} {m : List EvD} (e : RdEv h s m) : RdEv (h.map AB.freeze) s m := ⟨e.s.frz, fun a ha => (e.d a ha).frz, fun a ha => by rw [List.length_map]; exact e.o a ha⟩
theorem KQb {zs ys : List AV} (h : ys.length = zs.length) : over zs 0 ys = ys := by
 induction ys generalizing zs with
 | nil => cases zs with
  | nil => rfl
  | cons z zs => cases h
 | cons y ys ih => cases zs with
  | nil => cases h
  | cons z zs =>
   have := ih (zs := zs) (by simpa using h)
   unfold over at this ⊢
   simpa using this
theorem ovE (x : EvtA) : over [.i .i64 0, .i .i64 0, .ns, .i .i64 0, .s [], .s [], .i .u8 0, .i .u8 0, .i .u8 0, .i .u8 0, .i .u8 0, .i .u8 0, .i .u8 0, .i .u8 0, .i .u8 0, .i .u8 0, .i .u8 0, .i .u8 0, .i .u8 0, .i .u8 0, .i .u8 0, .i .u8 0, .i .u8 0, .i .u8 0, .i .u8 0, .i .u8 0, .i .u8 0, .i .u8 0, .i .u8 0, .i .u8 0, .i .u8 0, .i .u8 0, .i .u8 0, .i .u8 0, .i .u8 0, .i .u8 0, .i .u8 0, .i .u8 0, .ns] 0 (evtF x) = evtF x := KQb (YXj x)
theorem XAK {p : Nat} {sel : List Nat} : ∀ {l : List AV}, okL (fun i => decide (i < p)) l = true → WkL (renL (selN p sel) l) l
 | [], _ => trivial
 | a :: l, h => by
  simp only [XDA, Bool.and_eq_true] at h
  exact ⟨Wk.ren (fun i hi => ZiE hi) h.1, XAK h.2⟩
theorem qTb {α : Type} (r : KeyR α) {p n : Nat} {sel : List Nat} {m : Bool} {l : List (α × AV)} (h : okL (fun i => decide (i < p)) (kvF r l) = true) : BWk (fun i => decide (i < p + n)) (selN p sel) (mpB r m l) (mpB r m l) :=
 ⟨⟨_root_.id, rfl⟩, KAd (fun i q => by simp only [decide_eq_true_eq] at q ⊢; omega) _ h, XAK h⟩
theorem zOT {p : Nat} : ∀ {l : List ((Int × Int) × AV)}, (∀ e ∈ l, e.2.ok (fun i => decide (i < p)) = true) → okL (fun i => decide (i < p)) (kvF dotK l) = true
 | [], _ => rfl
 | e :: l, h => by
  have h1 := zOT (l := l) fun e he => h e (List.mem_cons_of_mem _ he)
  have h2 := h e (List.mem_cons_self ..)
  have h3 : (dotK.f e.1).ok (fun i => decide (i < p)) = true := rfl
  simp only [kvF, XDA, h1, h2, h3, Bool.and_self]
def entE (m : List EvD) : List ((Int × Int) × AV) := m.map fun e => (e.1.dot, .ag (evtF e.1))
theorem JQM {m : List EvD} {d : Int × Int} : fndM dotK d (entE m) 0 = none ↔ ∀ e ∈ m, e.1.dot ≠ d := by
 rw [zr4]
 exact ⟨fun h e he => h _ (List.mem_map.2 ⟨e, he, rfl⟩), fun h x hx => by
  obtain ⟨e, he, rfl⟩ := List.mem_map.1 hx
  exact h e he⟩
theorem QjS {m : List EvD} {d : Int × Int} {j : Nat} {v : AV} (h : fndM dotK d (entE m) 0 = some (j, v)) : ∃ e ∈ m, e.1.dot = d ∧ v = .ag (evtF e.1) := by
 have h2 := (Jp7 dotK h).2
 obtain ⟨e, he, h3⟩ := List.mem_map.1 (List.mem_of_getElem? h2)
 rw [Prod.mk.injEq] at h3
 exact ⟨e, he, h3.1, h3.2.symm⟩
noncomputable def Kb7 : List AV → List AB → Option (AV × List AB)
 | [s, .i .i64 n], h => (YgZ h s).bind fun m => if ∀ e ∈ m, e.1.repo.length ≤ 1000000 ∧ e.1.tag.length ≤ 1000000 then some (.i .i64 (chkG m n), h) else none
 | _, _ => none
theorem z8R (n : Int) : ∀ (l : List EvD) (seen : List (Int × Int)) (i : Nat) (hi : i < l.length), chkA n (l.drop i) (seen ++ (l.take i).map (·.1.dot)) = if fitE l[i].1 l[i].2 n ≠ 0 then fitE l[i].1 l[i].2 n else if l[i].1.dot ∈ seen ++ (l.take i).map (·.1.dot) then 19 else chkA n (l.drop (i + 1)) (seen ++ (l.take (i + 1)).map (·.1.dot)) := by
 intro l seen i hi
 rw [List.drop_eq_getElem_cons hi, chkA, List.take_succ_eq_append_getElem hi, List.map_append, List.append_assoc]
 rfl
theorem zyj : Spec Tryz.prog 16 Kb7 := by
 intro args h v h' e
 unfold Kb7 at e
 split at e
 ·rename_i s n
  obtain ⟨m, hs, e⟩ := KdM e
  split at e
  ·rename_i hc
   cases e
   refine FnAt.c (FnAt.frz0 fun hz => ?_)
   have hs := hs.frz
   generalize h.map AB.freeze = h at *
   refine FnAt.run (by kernel_rfl) (T := ⟨[⟨63, ZTW, fun _ => []⟩, ⟨64, zmF, fun _ => []⟩], []⟩) ⟨⟨YC3, ZW8, trivial⟩, trivial⟩ Tryz.func16 sw16 fun ho hh => ?_
   simp only [XDA, Bool.and_eq_true] at ho
   have f1 := hs.s.fx ho.1 (sz := 39) rfl
   have hlm : (m.map (·.1)).length = m.length := List.length_map _
   rw [hlm] at f1
   have so : ∀ c, s.ok (fun i => decide (i < h.length + c)) = true := fun c => AV.ok_mono (fun i q => by simp only [decide_eq_true_eq] at q ⊢; omega) s ho.1
   have sr : ∀ sel, Wk (s.ren (selN h.length sel)) s := fun sel => Wk.ren (fun i hi => ZiE hi) ho.1
   unfold w16
   rcases emG (n < 1) with q1 | q1
   ·have hg : chkG m n = 3 := if_pos (.inl (of_eq_true q1))
    rw [hg]
    simp only [QhU, YqB, z16, KHD, Xq6, if_true, if_false, ↓reduceIte, Nat.reduceAdd, Nat.reduceSub, Nat.reduceLeDiff, Nat.reduceEqDiff, Nat.reduceMul, Nat.reduceLT, Int.reduceLT, Int.reduceLE, Int.reduceEq, CO.tmps, Opd.tmps, optT, Nat.reducePow, Nat.reduceDiv, Nat.reduceMod, q1, XUr hh, Ygl hz, QqT hz, qNP hz, decide_true, decide_false, ne_eq, not_false_eq_true, not_true_eq_false, false_implies, forall_const, and_true, true_and]
    exact Bt.drop _ hh rfl rfl
   rcases emG (16 < n) with q2 | q2
   ·have hg : chkG m n = 3 := if_pos (.inr (of_eq_true q2))
    rw [hg]
    simp only [QhU, YqB, z16, KHD, Xq6, if_true, if_false, ↓reduceIte, Nat.reduceAdd, Nat.reduceSub, Nat.reduceLeDiff, Nat.reduceEqDiff, Nat.reduceMul, Nat.reduceLT, Int.reduceLT, Int.reduceLE, Int.reduceEq, CO.tmps, Opd.tmps, optT, Nat.reducePow, Nat.reduceDiv, Nat.reduceMod, q1, q2, XUr hh, Ygl hz, QqT hz, qNP hz, decide_true, decide_false, ne_eq, not_false_eq_true, not_true_eq_false, false_implies, forall_const, and_true, true_and]
    exact Bt.drop _ hh rfl rfl
   have q12 : ¬ (n < 1 ∨ 16 < n) := fun z => z.elim (of_eq_false q1) (of_eq_false q2)
   rcases emG ((4096 : Int) < (m.length : Int)) with q3 | q3
   ·have hg : chkG m n = 4 := by
     unfold chkG
     rw [if_neg q12, if_pos (by have := of_eq_true q3; omega)]
    rw [hg]
    simp only [QhU, YqB, z16, KHD, Xq6, if_true, if_false, ↓reduceIte, Nat.reduceAdd, Nat.reduceSub, Nat.reduceLeDiff, Nat.reduceEqDiff, Nat.reduceMul, Nat.reduceLT, Int.reduceLT, Int.reduceLE, Int.reduceEq, CO.tmps, Opd.tmps, optT, Nat.reducePow, Nat.reduceDiv, Nat.reduceMod, q1, q2, q3, f1, XUr hh, Ygl hz, QqT hz, qNP hz, decide_true, decide_false, ne_eq, not_false_eq_true, not_true_eq_false, false_implies, forall_const, and_true, true_and]
    exact Bt.drop _ hh rfl rfl
   have q3' : ¬ 4096 < m.length := fun z => of_eq_false q3 (by omega)
   simp only [QhU, YqB, z16, KHD, Xq6, if_true, if_false, ↓reduceIte, Nat.reduceAdd, Nat.reduceSub, Nat.reduceLeDiff, Nat.reduceEqDiff, Nat.reduceMul, Nat.reduceLT, Int.reduceLT, Int.reduceLE, Int.reduceEq, CO.tmps, Opd.tmps, optT, Nat.reducePow, Nat.reduceDiv, Nat.reduceMod, q41, q1, q2, q3, f1, XUr hh, Ygl hz, QqT hz, qNP hz, decide_true, decide_false, ne_eq, not_false_eq_true, not_true_eq_false, false_implies, forall_const, and_true, true_and]
   refine q2X (S := Nat) (fun i => m.length - i) (fun i => [s, .i .i64 n] ++ tp 3 ++ [.m (h.length + 0)] ++ tp 23 ++ [s, .i .i64 (m.length : Int), .i .i64 (i : Int)] ++ tp 59) (fun i => h ++ [mpB dotK true (entE (m.take i))]) (fun i => i ≤ m.length ∧ chkA n (m.drop i) ((m.take i).map (·.1.dot)) = chkA n m []) 0 ⟨Nat.zero_le _, rfl⟩ ?_ fun i hi => ?_
   ·refine Bt.wk ?_
    simp only [z16, Xq6, if_true, if_false, reduceIte, Nat.reduceAdd, Nat.reduceSub, Nat.reduceLeDiff, Nat.reduceEqDiff, Nat.reduceMul, Nat.reduceLT, Int.reduceLT, Int.reduceLE, Int.reduceEq]
   obtain ⟨h1, h2⟩ := hi
   by_cases g : i < m.length
   ·have g' : ((i : Int) < (m.length : Int)) = True := eq_true (by omega)
    have e1 : IntKind.i64.wrap ((i : Int) + 1) = ((i + 1 : Nat) : Int) := ZWm (by have := hs.s.2; unfold maxLen at this; unfold In64; omega)
    have hgd : (m.map (·.1)).getD i evR.d = m[i].1 := by rw [List.getD_eq_getElem?_getD, List.getElem?_map, List.getElem?_eq_getElem g]; rfl
    have hin : m[i] ∈ m := List.getElem_mem g
    have hd := hs.d _ hin
    have hce := hc _ hin
    have hfx := z8R n m [] i g
    have htk : ∀ e ∈ m.take (i + 1), okL (fun i => decide (i < h.length)) (evtF e.1) = true := fun e he => hs.o e (List.mem_of_mem_take he)
    obtain ⟨e, hmi⟩ : ∃ e, m[i] = e := ⟨_, rfl⟩
    rw [hmi] at hgd hd hce hfx hin
    obtain ⟨x, dl⟩ := e
    dsimp only at hgd hd hce hfx
    rw [List.nil_append, h2] at hfx
    obtain ⟨a0, a1, a2, a3, a4, a5, a6⟩ := Zxc x
    have w1 := Q7m x
    have l1 := YXj x
    have lt : (evtF x).take 39 = evtF x := List.take_of_length_le (by rw [l1]; exact Nat.le_refl _)
    have c1 : ∀ l : List AV, (AV.ag l).cells = l := fun _ => rfl
    have gx : ∀ y, getS intR (h ++ y) x.deps.a = some dl := fun y => (hd.app y).get
    have hcf := eq_true (p := x.repo.length ≤ 1000000 ∧ x.tag.length ≤ 1000000 ∧ n ≤ 1000) ⟨hce.1, hce.2, by have := of_eq_false q2; omega⟩
    rcases emG (fitE x dl n = 0) with f | f
    rotate_left
    ·have hres : chkG m n = fitE x dl n := by
      rw [if_pos (of_eq_false f)] at hfx
      unfold chkG
      rw [if_neg q12, if_neg q3', hfx, if_pos (of_eq_false f)]
     rw [hres]
     simp only [QhU, YqB, z16, KHD, Xq6, if_true, if_false, ↓reduceIte, Nat.reduceAdd, Nat.reduceSub, Nat.reduceLeDiff, Nat.reduceEqDiff, Nat.reduceMul, Nat.reduceLT, Int.reduceLT, Int.reduceLE, Int.reduceEq, CO.tmps, Opd.tmps, optT, Nat.reducePow, Nat.reduceDiv, Nat.reduceMod, f1, g, g', e1, ZxE, hgd, ovE, ZTW, Zz9, gx, hcf, f, a0, a1, w1, l1, lt, c1, Option.bind_some, List.drop_zero, if_true, XUr hh, Ygl hz, QqT hz, qNP hz, decide_true, decide_false, ne_eq, not_false_eq_true, not_true_eq_false, false_implies, forall_const, and_true, true_and]
     exact Bt.dropI _ hh rfl
    rw [if_neg (not_not_intro (of_eq_true f))] at hfx
    have t2 : (evtF x).take 2 = [.i .i64 x.dot.1, .i .i64 x.dot.2] := rfl
    have key : ∀ (M : List ((Int × Int) × AV)) L, (h ++ (mpB dotK true M :: L))[h.length + 0]? = some (mpB dotK true M) := fun M L => qu4 _ 0
    have lk : ∀ (M : List ((Int × Int) × AV)) L z a b, lkV (h ++ (mpB dotK true M :: L)) true [.i, .i] true z (.m (h.length + 0)) (.ag [.i .i64 a, .i .i64 b]) = some (lkR true z (fndM dotK (a, b) M 0)) := fun M L z a b => JMn dotK (key M L) true z (a, b)
    have mu : ∀ (M : List ((Int × Int) × AV)) L a b v, muV (h ++ (mpB dotK true M :: L)) true [.i, .i] (.m (h.length + 0)) (.ag [.i .i64 a, .i .i64 b]) v = some (h ++ (mpB dotK true (putM dotK M (a, b) v) :: L)) := fun M L a b v => by
     have := YOF dotK (key M L) (a, b) v
     rw [Yie] at this
     exact this
    have lr0 : ∀ z, lkR true z none = .tu [z, .b false] := fun _ => rfl
    have lr1 : ∀ z j v, lkR true z (some (j, v)) = .tu [v, .b true] := fun _ _ _ => rfl
    have lfx := lk (entE (m.take i))
    cases hfd : fndM dotK (x.dot.1, x.dot.2) (entE (m.take i)) 0 with
    | some jv =>
     obtain ⟨j, v⟩ := jv
     obtain ⟨e', he', hd', rfl⟩ := QjS hfd
     have hres : chkG m n = 19 := by
      rw [if_pos (List.mem_map.2 ⟨e', he', hd'⟩)] at hfx
      unfold chkG
      rw [if_neg q12, if_neg q3', hfx]
      rfl
     rw [hres]
     simp only [QhU, YqB, z16, KHD, Xq6, if_true, if_false, ↓reduceIte, Nat.reduceAdd, Nat.reduceSub, Nat.reduceLeDiff, Nat.reduceEqDiff, Nat.reduceMul, Nat.reduceLT, Int.reduceLT, Int.reduceLE, Int.reduceEq, CO.tmps, Opd.tmps, optT, Nat.reducePow, Nat.reduceDiv, Nat.reduceMod, qlG, f1, g, g', e1, ZxE, hgd, ovE, ZTW, Zz9, gx, hcf, f, a0, a1, w1, l1, lt, t2, c1, lk, lr0, lr1, hfd, Q7m, YXj, Option.map_some, Option.bind_some, List.drop_zero, if_true, XUr hh, Ygl hz, QqT hz, qNP hz, decide_true, decide_false, ne_eq, not_false_eq_true, not_true_eq_false, false_implies, forall_const, and_true, true_and]
     exact Bt.dropI _ hh rfl
    | none =>
     have hnd : x.dot ∉ (m.take i).map (·.1.dot) := fun z => by
      obtain ⟨e', he', hd'⟩ := List.mem_map.1 z
      exact JQM.1 hfd e' he' hd'
     rw [if_neg hnd, List.nil_append] at hfx
     have hput : putM dotK (entE (m.take i)) (x.dot.1, x.dot.2) (.ag (evtF x)) = entE (m.take (i + 1)) := by
      unfold putM
      rw [hfd]
      show entE (m.take i) ++ [(x.dot, AV.ag (evtF x))] = _
      rw [List.take_succ_eq_append_getElem g, hmi]
      unfold entE
      rw [List.map_append]
      rfl
     simp only [QhU, YqB, z16, KHD, Xq6, if_true, if_false, ↓reduceIte, Nat.reduceAdd, Nat.reduceSub, Nat.reduceLeDiff, Nat.reduceEqDiff, Nat.reduceMul, Nat.reduceLT, Int.reduceLT, Int.reduceLE, Int.reduceEq, CO.tmps, Opd.tmps, optT, Nat.reducePow, Nat.reduceDiv, Nat.reduceMod, qlG, KhU, f1, g, g', e1, ZxE, hgd, ovE, ZTW, Zz9, gx, hcf, f, a0, a1, w1, l1, lt, t2, c1, lk, mu, lr0, lr1, hfd, hput, Q7m, YXj, Option.map_some, Option.bind_some, List.drop_zero, if_true, XUr hh, Ygl hz, QqT hz, qNP hz, decide_true, decide_false, ne_eq, not_false_eq_true, not_true_eq_false, false_implies, forall_const, and_true, true_and]
     have bm := qTb dotK (p := h.length) (n := 1) (sel := [0]) (m := true) (l := entE (m.take (i + 1))) (zOT fun e he => by
      obtain ⟨e', he', rfl⟩ := List.mem_map.1 he
      exact htk e' he')
     refine ⟨i + 1, ⟨g, by rw [hfx]⟩, by dsimp only; omega, ?_⟩
     dsimp only
     exact Bt.sel [0] hh (by decide) (by simp only [KlC, FrSel, BlkSel, AV.ren, renL, AV.ok, okL, Option.some.injEq, exists_eq_left', List.length_cons, List.length_nil, Nat.reduceAdd, Nat.reduceLT, reduceCtorEq, implies_true, exists_eq', bm]) (by simp only [KlC, FrSel, BlkSel, AV.ren, renL, AV.ok, okL, Option.some.injEq, exists_eq_left', List.length_cons, List.length_nil, Nat.reduceAdd, Nat.reduceLT, reduceCtorEq, implies_true, exists_eq', so, sr])
   ·have g' : ((i : Int) < (m.length : Int)) = False := eq_false (by omega)
    have hA : chkA n m [] = 0 := by rw [← h2, List.drop_eq_nil_of_le (by omega)]; rfl
    have hMi : m.take i = m := List.take_of_length_le (by omega)
    have hres0 : chkB m → chkG m n = 0 := fun hB => by
     unfold chkG
     rw [if_neg q12, if_neg q3', hA, if_neg (not_not_intro rfl), if_pos hB]
    have hres1 : ¬ chkB m → chkG m n = 25 := fun hB => by
     unfold chkG
     rw [if_neg q12, if_neg q3', hA, if_neg (not_not_intro rfl), if_neg hB]
    obtain ⟨hA1, _, hA3⟩ := Js7 hA
    simp only [QhU, YqB, z16, KHD, Xq6, if_true, if_false, ↓reduceIte, Nat.reduceAdd, Nat.reduceSub, Nat.reduceLeDiff, Nat.reduceEqDiff, Nat.reduceMul, Nat.reduceLT, Int.reduceLT, Int.reduceLE, Int.reduceEq, CO.tmps, Opd.tmps, optT, Nat.reducePow, Nat.reduceDiv, Nat.reduceMod, f1, g', hMi, XUr hh, Ygl hz, QqT hz, qNP hz, decide_true, decide_false, ne_eq, not_false_eq_true, not_true_eq_false, false_implies, forall_const, and_true, true_and]
    have hok : okL (fun i => decide (i < h.length)) (kvF dotK (entE m)) = true := zOT fun e he => by
     obtain ⟨e', he', rfl⟩ := List.mem_map.1 he
     exact hs.o e' he'
    clear h1 h2 g g' hMi
    have key : ∀ (M : List ((Int × Int) × AV)) L, (h ++ (mpB dotK true M :: L))[h.length + 0]? = some (mpB dotK true M) := fun M L => qu4 _ 0
    have lk : ∀ L z a b, lkV (h ++ (mpB dotK true (entE m) :: L)) true [.i, .i] true z (.m (h.length + 0)) (.ag [.i .i64 a, .i .i64 b]) = some (lkR true z (fndM dotK (a, b) (entE m) 0)) := fun L z a b => JMn dotK (key _ L) true z (a, b)
    have lr0 : ∀ z, lkR true z none = .tu [z, .b false] := fun _ => rfl
    have lr1 : ∀ z j v, lkR true z (some (j, v)) = .tu [v, .b true] := fun _ _ _ => rfl
    refine q2X (S := Nat) (fun i => m.length - i) (fun i => tp 5 ++ [.m (h.length + 0)] ++ tp 48 ++ [s, .i .i64 (m.length : Int), .i .i64 (i : Int)] ++ tp 34) (fun i => h ++ [mpB dotK true (entE m)]) (fun i => i ≤ m.length ∧ ∀ e ∈ m.take i, ∀ j, Zqo m e j) 0 ⟨Nat.zero_le _, fun e he => by simp at he⟩ ?_ fun i hi => ?_
    ·refine Bt.wk ?_
     simp only [z16, Xq6, if_true, if_false, reduceIte, Nat.reduceAdd, Nat.reduceSub, Nat.reduceLeDiff, Nat.reduceEqDiff, Nat.reduceMul, Nat.reduceLT, Int.reduceLT, Int.reduceLE, Int.reduceEq]
    obtain ⟨h1, h2⟩ := hi
    by_cases g : i < m.length
    ·have g' : ((i : Int) < (m.length : Int)) = True := eq_true (by omega)
     have e1 : IntKind.i64.wrap ((i : Int) + 1) = ((i + 1 : Nat) : Int) := ZWm (by have := hs.s.2; unfold maxLen at this; unfold In64; omega)
     have hgd : (m.map (·.1)).getD i evR.d = m[i].1 := by rw [List.getD_eq_getElem?_getD, List.getElem?_map, List.getElem?_eq_getElem g]; rfl
     have hin : m[i] ∈ m := List.getElem_mem g
     have hd := hs.d _ hin
     have hoe := hs.o _ hin
     obtain ⟨e, hmi⟩ : ∃ e, m[i] = e := ⟨_, rfl⟩
     rw [hmi] at hgd hd hin hoe
     obtain ⟨x, dl⟩ := e
     dsimp only at hgd hd hoe
     obtain ⟨a0, a1, a2, a3, a4, a5, a6⟩ := Zxc x
     have w1 := Q7m x
     have l1 := YXj x
     have c1 : ∀ l : List AV, (AV.ag l).cells = l := fun _ => rfl
     have od : x.deps.a.ok (fun i => decide (i < h.length)) = true := zFH.1 hoe 2 _ a2
     have f2 := hd.fx od (sz := 1) rfl
     have soe : ∀ c, okL (fun i => decide (i < h.length + c)) (evtF x) = true := fun c => KAd (fun i q => by simp only [decide_eq_true_eq] at q ⊢; omega) _ hoe
     have sre : ∀ sel, WkL (renL (selN h.length sel) (evtF x)) (evtF x) := fun sel => XAK hoe
     have sod : ∀ c, x.deps.a.ok (fun i => decide (i < h.length + c)) = true := fun c => AV.ok_mono (fun i q => by simp only [decide_eq_true_eq] at q ⊢; omega) _ od
     have srd : ∀ sel, Wk (x.deps.a.ren (selN h.length sel)) x.deps.a := fun sel => Wk.ren (fun i hi => ZiE hi) od
     simp only [QhU, YqB, z16, KHD, Xq6, if_true, if_false, ↓reduceIte, Nat.reduceAdd, Nat.reduceSub, Nat.reduceLeDiff, Nat.reduceEqDiff, Nat.reduceMul, Nat.reduceLT, Int.reduceLT, Int.reduceLE, Int.reduceEq, CO.tmps, Opd.tmps, optT, Nat.reducePow, Nat.reduceDiv, Nat.reduceMod, f1, f2, g, g', ZxE, hgd, ovE, a2, w1, l1, c1, List.drop_zero, if_true, XUr hh, Ygl hz, QqT hz, qNP hz, decide_true, decide_false, ne_eq, not_false_eq_true, not_true_eq_false, false_implies, forall_const, and_true, true_and]
     refine q2X (S := Nat) (fun j => dl.length - j) (fun j => tp 5 ++ [.m (h.length + 0)] ++ tp 6 ++ [.p (h.length + 1) 0] ++ tp 41 ++ [s, .i .i64 (m.length : Int), .i .i64 (i : Int)] ++ tp 4 ++ [x.deps.a, .i .i64 (dl.length : Int), .i .i64 (j : Int)] ++ tp 27) (fun j => h ++ [mpB dotK true (entE m), .blk false true (evtF x)]) (fun j => j ≤ dl.length ∧ ∀ k < j, Zqo m (x, dl) k) 0 ⟨Nat.zero_le _, fun k hk => absurd hk (Nat.not_lt_zero _)⟩ ?_ fun j hj => ?_
     ·refine Bt.wk ?_
      simp only [z16, Xq6, if_true, if_false, reduceIte, Nat.reduceAdd, Nat.reduceSub, Nat.reduceLeDiff, Nat.reduceEqDiff, Nat.reduceMul, Nat.reduceLT, Int.reduceLT, Int.reduceLE, Int.reduceEq]
     obtain ⟨j1, j2⟩ := hj
     have bm := fun n sel => qTb dotK (p := h.length) (n := n) (sel := sel) (m := true) (l := entE m) hok
     have bE : ∀ n sel, BWk (fun i => decide (i < h.length + n)) (selN h.length sel) (.blk false true (evtF x)) (.blk false true (evtF x)) := fun n sel => ⟨_root_.id, soe n, sre sel⟩
     by_cases gj : j < dl.length
     ·have gj' : ((j : Int) < (dl.length : Int)) = True := eq_true (by omega)
      have ej : IntKind.i64.wrap ((j : Int) + 1) = ((j + 1 : Nat) : Int) := ZWm (by have := hd.2; unfold maxLen at this; unfold In64; omega)
      have hga : dl[j]? = some (dl.getD j intR.d) := by rw [List.getD_eq_getElem?_getD, List.getElem?_eq_getElem gj]; rfl
      obtain ⟨a, ha⟩ : ∃ a, dl.getD j intR.d = a := ⟨_, rfl⟩
      rw [ha] at hga
      rcases emG (a = 0) with z | z
      ·simp only [QhU, YqB, z16, KHD, Xq6, if_true, if_false, ↓reduceIte, Nat.reduceAdd, Nat.reduceSub, Nat.reduceLeDiff, Nat.reduceEqDiff, Nat.reduceMul, Nat.reduceLT, Int.reduceLT, Int.reduceLE, Int.reduceEq, CO.tmps, Opd.tmps, optT, Nat.reducePow, Nat.reduceDiv, Nat.reduceMod, f2, gj, gj', ej, ha, z, Zr0, Nat.zero_lt_one, XUr hh, Ygl hz, QqT hz, qNP hz, decide_true, decide_false, ne_eq, not_false_eq_true, not_true_eq_false, false_implies, forall_const, and_true, true_and]
       refine ⟨j + 1, ⟨gj, fun k hk => ?_⟩, by dsimp only; omega, ?_⟩
       ·by_cases hkj : k = j
        ·subst hkj
         intro a' ha' hn
         rw [show (x, dl).2 = dl from rfl, hga] at ha'
         cases ha'
         exact absurd (of_eq_true z) hn
        ·exact j2 k (by omega)
       ·dsimp only
        refine Bt.wk ?_
        simp only [z16, Xq6, if_true, if_false, reduceIte, Nat.reduceAdd, Nat.reduceSub, Nat.reduceLeDiff, Nat.reduceEqDiff, Nat.reduceMul, Nat.reduceLT, Int.reduceLT, Int.reduceLE, Int.reduceEq]
      ·cases hfd : fndM dotK (((j + 1 : Nat) : Int), a) (entE m) 0 with
       | none =>
        have hB : ¬ chkB m := fun hB => by
         obtain ⟨o, ho', hod, _⟩ := hB _ hin j a hga (of_eq_false z)
         exact JQM.1 hfd o ho' hod
        rw [hres1 hB]
        simp only [QhU, YqB, z16, KHD, Xq6, if_true, if_false, ↓reduceIte, Nat.reduceAdd, Nat.reduceSub, Nat.reduceLeDiff, Nat.reduceEqDiff, Nat.reduceMul, Nat.reduceLT, Int.reduceLT, Int.reduceLE, Int.reduceEq, CO.tmps, Opd.tmps, optT, Nat.reducePow, Nat.reduceDiv, Nat.reduceMod, qlG, f2, gj, gj', ej, ha, z, lk, hfd, lr0, lr1, Zr0, Nat.zero_lt_one, Option.map_some, XUr hh, Ygl hz, QqT hz, qNP hz, decide_true, decide_false, ne_eq, not_false_eq_true, not_true_eq_false, false_implies, forall_const, and_true, true_and]
        exact Bt.dropI _ hh rfl
       | some jv =>
        obtain ⟨jj, v⟩ := jv
        obtain ⟨o, ho', hod, rfl⟩ := QjS hfd
        have hdo := hs.d o ho'
        have go : ∀ y, getS intR (h ++ y) o.1.deps.a = some o.2 := fun y => (hdo.app y).get
        have gx : ∀ y, getS intR (h ++ y) x.deps.a = some dl := fun y => (hd.app y).get
        have b2 := (Zxc o.1).2.2.1
        have w2 := Q7m o.1
        have l2 := YXj o.1
        rcases emG (leqN o.2 dl (max o.2.length dl.length) = true) with t | t
        ·have t' : leqN o.2 dl (max o.2.length dl.length) = true := of_eq_true t
         simp only [QhU, YqB, z16, KHD, Xq6, if_true, if_false, ↓reduceIte, Nat.reduceAdd, Nat.reduceSub, Nat.reduceLeDiff, Nat.reduceEqDiff, Nat.reduceMul, Nat.reduceLT, Int.reduceLT, Int.reduceLE, Int.reduceEq, CO.tmps, Opd.tmps, optT, Nat.reducePow, Nat.reduceDiv, Nat.reduceMod, qlG, zmF, f2, gj, gj', ej, ha, z, lk, hfd, lr0, lr1, ovE, a2, b2, w1, w2, l1, l2, c1, go, gx, t', XJx, Bool.not_true, Bool.not_false, Zr0, Nat.zero_lt_one, Option.map_some, Option.bind_some, XUr hh, Ygl hz, QqT hz, qNP hz, decide_true, decide_false, ne_eq, not_false_eq_true, not_true_eq_false, false_implies, forall_const, and_true, true_and]
         refine ⟨j + 1, ⟨gj, fun k hk => ?_⟩, by dsimp only; omega, ?_⟩
         ·by_cases hkj : k = j
          ·subst hkj
           intro a' ha' hn
           rw [show (x, dl).2 = dl from rfl, hga] at ha'
           cases ha'
           exact ⟨o, ho', hod, JFg.1 (of_eq_true t)⟩
          ·exact j2 k (by omega)
         ·dsimp only
          exact Bt.sel [0, 1] hh (by decide) (by simp only [KlC, FrSel, BlkSel, AV.ren, renL, AV.ok, okL, Option.some.injEq, exists_eq_left', List.length_cons, List.length_nil, Nat.reduceAdd, Nat.reduceLT, reduceCtorEq, implies_true, exists_eq', bm, bE]) (by simp only [KlC, FrSel, BlkSel, AV.ren, renL, AV.ok, okL, Option.some.injEq, exists_eq_left', List.length_cons, List.length_nil, Nat.reduceAdd, Nat.reduceLT, reduceCtorEq, implies_true, exists_eq', so, sr, sod, srd])
        ·have hB : ¬ chkB m := fun hB => by
          obtain ⟨o', ho2, hod2, hle⟩ := hB _ hin j a hga (of_eq_false z)
          have q1 := QEz hA3 ho2
          have q2 := QEz hA3 ho'
          rw [hod2] at q1
          rw [hod, q1] at q2
          rw [q2] at hle
          exact of_eq_false t (JFg.2 hle)
         have t' : leqN o.2 dl (max o.2.length dl.length) = false := by simpa using of_eq_false t
         rw [hres1 hB]
         simp only [QhU, YqB, z16, KHD, Xq6, if_true, if_false, ↓reduceIte, Nat.reduceAdd, Nat.reduceSub, Nat.reduceLeDiff, Nat.reduceEqDiff, Nat.reduceMul, Nat.reduceLT, Int.reduceLT, Int.reduceLE, Int.reduceEq, CO.tmps, Opd.tmps, optT, Nat.reducePow, Nat.reduceDiv, Nat.reduceMod, qlG, zmF, f2, gj, gj', ej, ha, z, lk, hfd, lr0, lr1, ovE, a2, b2, w1, w2, l1, l2, c1, go, gx, t', XJx, Bool.not_true, Bool.not_false, Zr0, Nat.zero_lt_one, Option.map_some, Option.bind_some, XUr hh, Ygl hz, QqT hz, qNP hz, decide_true, decide_false, ne_eq, not_false_eq_true, not_true_eq_false, false_implies, forall_const, and_true, true_and]
         exact Bt.dropI _ hh rfl
     ·have gj' : ((j : Int) < (dl.length : Int)) = False := eq_false (by omega)
      simp only [QhU, YqB, z16, KHD, Xq6, if_true, if_false, ↓reduceIte, Nat.reduceAdd, Nat.reduceSub, Nat.reduceLeDiff, Nat.reduceEqDiff, Nat.reduceMul, Nat.reduceLT, Int.reduceLT, Int.reduceLE, Int.reduceEq, CO.tmps, Opd.tmps, optT, Nat.reducePow, Nat.reduceDiv, Nat.reduceMod, gj', e1, XUr hh, Ygl hz, QqT hz, qNP hz, decide_true, decide_false, ne_eq, not_false_eq_true, not_true_eq_false, false_implies, forall_const, and_true, true_and]
      refine ⟨i + 1, ⟨g, fun e he k => ?_⟩, by dsimp only; omega, ?_⟩
      ·rw [List.take_succ_eq_append_getElem g, hmi] at he
       rcases List.mem_append.1 he with he | he
       ·exact h2 e he k
       ·rw [List.mem_singleton.1 he]
        by_cases hk : k < j
        ·exact j2 k hk
        ·intro a ha
         rw [List.getElem?_eq_none (show (x, dl).2.length ≤ k by dsimp only; omega)] at ha
         cases ha
      ·dsimp only
       exact Bt.sel [0] hh (by decide) (by simp only [KlC, FrSel, BlkSel, AV.ren, renL, AV.ok, okL, Option.some.injEq, exists_eq_left', List.length_cons, List.length_nil, Nat.reduceAdd, Nat.reduceLT, reduceCtorEq, implies_true, exists_eq', bm, bE]) (by simp only [KlC, FrSel, BlkSel, AV.ren, renL, AV.ok, okL, Option.some.injEq, exists_eq_left', List.length_cons, List.length_nil, Nat.reduceAdd, Nat.reduceLT, reduceCtorEq, implies_true, exists_eq', so, sr])
    ·have g' : ((i : Int) < (m.length : Int)) = False := eq_false (by omega)
     have hB : chkB m := fun e he j => h2 e (by rw [List.take_of_length_le (by omega)]; exact he) j
     rw [hres0 hB]
     simp only [QhU, YqB, z16, KHD, Xq6, if_true, if_false, ↓reduceIte, Nat.reduceAdd, Nat.reduceSub, Nat.reduceLeDiff, Nat.reduceEqDiff, Nat.reduceMul, Nat.reduceLT, Int.reduceLT, Int.reduceLE, Int.reduceEq, CO.tmps, Opd.tmps, optT, Nat.reducePow, Nat.reduceDiv, Nat.reduceMod, g', XUr hh, Ygl hz, QqT hz, qNP hz, decide_true, decide_false, ne_eq, not_false_eq_true, not_true_eq_false, false_implies, forall_const, and_true, true_and]
     exact Bt.dropI _ hh rfl
  ·cases e
 ·cases e
end Go.Proofs.YtebcngelgdpbjaaGreat
end
section
namespace Go.Proofs.YtebcngelgdpbjaaGreat
set_option maxRecDepth 100000
set_option maxHeartbeats 4000000
def ksM (M : List (Int × Int)) : List ((Int × Int) × AV) := M.map fun d => (d, .ag [])
def mtB (M : List (Int × Int)) : AB := mpB dotK true (ksM M)
theorem Yxs (q : Nat → Bool) (M : List (Int × Int)) : (mtB M).ok q = true := by
 show okL q (kvF dotK (ksM M)) = true
 induction M with
 | nil => rfl
 | cons d M ih =>
  have h3 : (dotK.f d).ok q = true := rfl
  have h4 : (AV.ag []).ok q = true := rfl
  show okL q (dotK.f d :: .ag [] :: kvF dotK (ksM M)) = true
  simp only [XDA, h3, h4, Bool.true_and]
  exact ih
theorem JT1 {M M' : List (Int × Int)} (e : mtB M = mtB M') : M = M' := by
 unfold mtB mpB at e
 simp only [AB.mo.injEq, true_and] at e
 have e2 := e.2
 clear e
 induction M generalizing M' with
 | nil => cases M' with
  | nil => rfl
  | cons d M' => cases e2
 | cons d M ih => cases M' with
  | nil => cases e2
  | cons d' M' =>
   simp only [ksM, List.map_cons, kvF, List.cons.injEq, true_and] at e2
   rw [ih e2.2]
   have := e2.1
   simp only [dotK, AV.ag.injEq] at this
   rw [dotR.inj _ _ this]
theorem QEY {M : List (Int × Int)} {d : Int × Int} : (d ∈ M → ∃ j, fndM dotK d (ksM M) 0 = some (j, .ag [])) ∧ (d ∉ M → fndM dotK d (ksM M) 0 = none) := by
 constructor
 ·intro h
  cases e : fndM dotK d (ksM M) 0 with
  | none => exact absurd rfl (zr4 dotK |>.1 e _ (List.mem_map.2 ⟨d, h, rfl⟩))
  | some jv =>
   obtain ⟨j, v⟩ := jv
   obtain ⟨d', _, h3⟩ := List.mem_map.1 (List.mem_of_getElem? (Jp7 dotK e).2)
   rw [Prod.mk.injEq] at h3
   exact ⟨j, by rw [← h3.2]⟩
 ·intro h
  refine (zr4 dotK).2 fun e he => ?_
  obtain ⟨d', hd', rfl⟩ := List.mem_map.1 he
  rintro rfl
  exact h hd'
theorem YHQ {M : List (Int × Int)} {d : Int × Int} (h : d ∉ M) : mpB dotK true (putM dotK (ksM M) d (.ag [])) = mtB (M ++ [d]) := by
 unfold putM
 rw [QEY.2 h]
 show mpB dotK true (ksM M ++ [(d, .ag [])]) = mpB dotK true (ksM (M ++ [d]))
 unfold ksM
 rw [List.map_append]
 rfl
abbrev zQ4 (j : Nat) : AV := .f (.func 87) [.p j 0] []
structure PastH (h0 : List AB) (l : List EvD) (j bid mid : Nat) (H : List AB) : Prop where
 old : (H.take h0.length).map AB.freeze = h0
 hj : ZMh H j = some [.m bid, .m mid, zQ4 j]
 hb : ∃ mb, H[bid]? = some (mpB dotK mb (entE l))
open Classical in
noncomputable def Kaa (h0 : List AB) (l : List EvD) (n k j bid mid : Nat) : List AV → List AB → Option (AV × List AB)
 | [.p j' 0, .ag [.i .i64 a, .i .i64 b]], H => if c : (j' = j ∧ PastH h0 l j bid mid H ∧ wtN (dpE l (a, b)) n < k) ∧ ∃ M, H[mid]? = some (mtB M) then some (.tu [], H.set mid (mtB (pSt (dpE l) k c.2.choose (a, b)))) else none
 | _, _ => none
theorem zRt {h0 : List AB} {l : List EvD} {n k j bid mid : Nat} {H : List AB} {M : List (Int × Int)} {d : Int × Int} (hp : PastH h0 l j bid mid H) (hm : H[mid]? = some (mtB M)) (hw : wtN (dpE l d) n < k) : Kaa h0 l n k j bid mid [.p j 0, .ag [.i .i64 d.1, .i .i64 d.2]] H = some (.tu [], H.set mid (mtB (pSt (dpE l) k M d))) := by
 have c : (j = j ∧ PastH h0 l j bid mid H ∧ wtN (dpE l (d.1, d.2)) n < k) ∧ ∃ M, H[mid]? = some (mtB M) := ⟨⟨rfl, hp, hw⟩, M, hm⟩
 rw [Kaa, dif_pos c]
 have q := JT1 (Option.some.inj (hm.symm.trans c.2.choose_spec))
 exact congrArg (fun M => some (AV.tu [], H.set mid (mtB (pSt (dpE l) k M d)))) q.symm
theorem PastH.oB {h0 : List AB} {l : List EvD} {j bid mid : Nat} {h : List AB} (hp : PastH h0 l j bid mid h) (h1 : j ≠ mid) (h2 : bid ≠ mid) (h3 : h0.length ≤ mid) (M : List (Int × Int)) (L : List AB) : PastH h0 l j bid mid (Go.Proofs.YtebcngelgdpbjaaGreat.oB (h.map AB.freeze) mid (mtB M) ++ L) := by
 obtain ⟨p1, p2, mb, p3⟩ := hp
 have hl : h0.length ≤ h.length := by
  have := congrArg List.length p1
  rw [List.length_map, List.length_take] at this
  omega
 have hjl : j < (h.map AB.freeze).length := by rw [List.length_map]; exact Kvu p2
 have hbl : bid < (h.map AB.freeze).length := by rw [List.length_map]; exact (List.getElem?_eq_some_iff.1 p3).1
 refine ⟨?_, ?_, false, ?_⟩
 ·rw [List.take_append_of_le_length (by rw [ZxG, List.length_map]; exact hl)]
  have : (Go.Proofs.YtebcngelgdpbjaaGreat.oB (h.map AB.freeze) mid (mtB M)).take h0.length = (h.map AB.freeze).take h0.length := by
   refine List.ext_getElem? fun i => ?_
   rw [List.getElem?_take, List.getElem?_take]
   split
   ·unfold Go.Proofs.YtebcngelgdpbjaaGreat.oB
    rw [List.getElem?_set_ne (by omega)]
   ·rfl
  rw [this, ← List.map_take]
  conv => rhs; rw [← p1]
  rw [List.map_map]
  refine List.map_congr_left fun B _ => ?_
  cases B <;> rfl
 ·unfold ZMh at p2 ⊢
  rw [ZrG hjl h1, List.getElem?_map]
  cases e : h[j]? with
  | none => rw [e] at p2; cases p2
  | some B =>
   rw [e] at p2
   cases B <;> first | exact p2 | cases p2
 ·rw [ZrG hbl h2, List.getElem?_map, p3]
  rfl
theorem Xso {α : Type} {r : Row α} {h h' : List AB} {s : AV} {l : List α} (hm : ∀ id xs, ZMh h id = some xs → ZMh h' id = some xs) (e : Rd r h s l) : Rd r h' s l := by
 refine ⟨?_, e.2⟩
 have h1 := e.1
 cases s <;> first | exact h1 | skip
 rename_i id off len cap k
 simp only [rdS] at h1 ⊢
 split at h1
 ·rename_i h0
  rw [if_pos h0]
  exact h1
 ·rename_i h0
  rw [if_neg h0]
  obtain ⟨xs, hx, h2⟩ := Option.bind_eq_some_iff.1 h1
  rw [hm id xs hx, Option.bind_some]
  exact h2
theorem Z3u {h0 H : List AB} (ho : (H.take h0.length).map AB.freeze = h0) (id : Nat) (xs : List AV) (e : ZMh h0 id = some xs) : ZMh H id = some xs := by
 have hlt := Kvu e
 unfold ZMh at e ⊢
 have h1 : h0[id]? = (H[id]?).map AB.freeze := by
  conv => lhs; rw [← ho]
  rw [List.getElem?_map, List.getElem?_take, if_pos hlt]
 rw [h1] at e
 cases hB : H[id]? with
 | none => rw [hB] at e; cases e
 | some B =>
  rw [hB] at e
  cases B <;> first | exact e | cases e
theorem QPZ {h0 h : List AB} {mid : Nat} (ho : (h.take h0.length).map AB.freeze = h0) (hm : h0.length ≤ mid) (B : AB) (L : List AB) : ((Go.Proofs.YtebcngelgdpbjaaGreat.oB h mid B ++ L).take h0.length).map AB.freeze = h0 := by
 have hl : h0.length ≤ h.length := by
  have := congrArg List.length ho
  rw [List.length_map, List.length_take] at this
  omega
 rw [List.take_append_of_le_length (by rw [ZxG]; exact hl)]
 have : (Go.Proofs.YtebcngelgdpbjaaGreat.oB h mid B).take h0.length = h.take h0.length := by
  refine List.ext_getElem? fun i => ?_
  rw [List.getElem?_take, List.getElem?_take]
  split
  ·unfold Go.Proofs.YtebcngelgdpbjaaGreat.oB
   rw [List.getElem?_set_ne (by omega)]
  ·rfl
 rw [this]
 exact ho
theorem JTj (ag ks ok z x k) : (CO.lkp ag ks ok z x k).isM = true := _root_.id rfl
theorem JXM (ag ks x k v) : (CO.mup ag ks x k v).isM = true := _root_.id rfl
theorem ok_m (q : Nat → Bool) (id : Nat) : (AV.m id).ok q = q id := by simp [AV.ok]
theorem zDe (T : Env) (ev : Opd → AV) (ag ks ok z x k) : wsC T ev (.lkp ag ks ok z x k) = [] := _root_.id rfl
theorem YqJ (T : Env) (ev : Opd → AV) (ag ks x k v) : wsC T ev (.mup ag ks x k v) = idOf (ev x) := _root_.id rfl
theorem QzY (id : Nat) : idOf (.m id) = [id] := _root_.id rfl
def fldA (off : Nat) : AV → Option AV
 | .ag l => l[off]?
 | _ => none
theorem XBR (off : Nat) (l : List AV) : fldA off (.ag l) = l[off]? := _root_.id rfl
theorem Q3r {T : Env} {fr : List AV} {h : List AB} (off : Nat) (x : Opd) : opR T (.fld off none x) fr h = (fldA off (x.ev fr)).map (·, h) := by
 unfold opR fldA
 simp only [CO.isCall, CO.run]
 cases x.ev fr <;> rfl
theorem zkk {h0 : List AB} {l : List EvD} {n : Nat} (hV : GV (dpE l) n) (hd : ∀ e ∈ l, Rd intR h0 e.1.deps.a e.2 ∧ okL (fun i => decide (i < h0.length)) (evtF e.1) = true) (hn : (l.map (·.1.dot)).Nodup) {j bid mid : Nat} (h1 : j ≠ mid) (h2 : bid ≠ mid) (h3 : h0.length ≤ j ∧ h0.length ≤ bid ∧ h0.length ≤ mid) :
  ∀ k, Spec Tryz.prog 87 (Kaa h0 l n k j bid mid)
 | 0 => fun args h v h' e => by
  unfold Kaa at e
  split at e
  ·split at e
   ·rename_i c
    exact absurd c.1.2.2 (Nat.not_lt_zero _)
   ·cases e
  ·cases e
 | k + 1 => fun args h v h' e => by
  unfold Kaa at e
  split at e
  ·rename_i j' a b
   split at e
   ·rename_i c
    obtain ⟨⟨hj', hp, hw⟩, hM⟩ := c
    subst hj'
    have hm := hM.choose_spec
    generalize hM.choose = M at *
    cases e
    refine FnAt.c (FnAt.run (by kernel_rfl) (T := ⟨[⟨87, Kaa h0 l n k j' bid mid, fun _ => [mid]⟩], []⟩) ⟨⟨zkk hV hd hn h1 h2 h3 k, trivial⟩, trivial⟩ Tryz.func87 sw87 fun ho hh => ?_)
    have hmid := (List.getElem?_eq_some_iff.1 hm).1
    have e0 : h ++ [] = oB h mid (mtB M) ++ [] := by rw [Y1G hm]
    rw [e0]
    unfold w87
    have hmidz : mid < (h.map AB.freeze).length := by rw [List.length_map]; exact hmid
    have hj := hp.hj
    have hjl := Kvu hj
    obtain ⟨mb, hb⟩ := hp.hb
    have hbl := (List.getElem?_eq_some_iff.1 hb).1
    have q1 : ∀ c, (j' < h.length + c) = True := fun c => eq_true (by omega)
    have q2 : ∀ c, (bid < h.length + c) = True := fun c => eq_true (by omega)
    have q3 : ∀ c, (mid < h.length + c) = True := fun c => eq_true (by omega)
    have sj : ∀ M L o, ldV (oB h mid (mtB M) ++ L) none (.p j' o) = [AV.m bid, .m mid, zQ4 j'][o]? := fun M L o => by
     rw [ZJG hj h1]
     simp only [ldV, hj, Option.bind_some]
    have hd1 : (a, b) = (a, b) := rfl
    obtain ⟨cs, sl, hlk, hcs2, hsl, hco⟩ : ∃ cs sl, lkR false (.ag [.i .i64 0, .i .i64 0, .ns, .i .i64 0, .s [], .s [], .i .u8 0, .i .u8 0, .i .u8 0, .i .u8 0, .i .u8 0, .i .u8 0, .i .u8 0, .i .u8 0, .i .u8 0, .i .u8 0, .i .u8 0, .i .u8 0, .i .u8 0, .i .u8 0, .i .u8 0, .i .u8 0, .i .u8 0, .i .u8 0, .i .u8 0, .i .u8 0, .i .u8 0, .i .u8 0, .i .u8 0, .i .u8 0, .i .u8 0, .i .u8 0, .i .u8 0, .i .u8 0, .i .u8 0, .i .u8 0, .i .u8 0, .i .u8 0, .ns]) (fndM dotK (a, b) (entE l) 0) = .ag cs ∧ cs[2]? = some sl ∧ Rd intR h0 sl (dpE l (a, b)) ∧ okL (fun i => decide (i < h0.length)) cs = true := by
     cases hf : fndM dotK (a, b) (entE l) 0 with
     | none =>
      refine ⟨_, .ns, rfl, rfl, ?_, rfl⟩
      have : dpE l (a, b) = [] := by
       rcases Z7t l (a, b) with e | ⟨e, he, hde, _⟩
       ·exact e
       ·exact absurd hde (JQM.1 hf e he)
      rw [this]
      exact ⟨rfl, Nat.zero_le _⟩
     | some jv =>
      obtain ⟨jj, v⟩ := jv
      obtain ⟨o, ho', hod, rfl⟩ := QjS hf
      have hdo := hd o ho'
      refine ⟨_, o.1.deps.a, rfl, (Zxc o.1).2.2.1, ?_, hdo.2⟩
      have := QEz hn ho'
      rw [hod] at this
      rw [this]
      exact hdo.1
    have hdl : ∀ x ∈ dpE l (a, b), 0 ≤ x ∧ x ≤ 1048576 := hV.pos (a, b)
    have keyM : ∀ M L k, k < h.length → k ≠ mid → ((oB h mid (mtB M)).map AB.freeze ++ L)[k]? = (h[k]?).map AB.freeze := fun M L k hk hne => by
     rw [zMD, ZrG (by rw [List.length_map]; exact hk) hne, List.getElem?_map]
    have keyM2 : ∀ M L, ((oB h mid (mtB M)).map AB.freeze ++ L)[mid]? = some (mpB dotK false (ksM M)) := fun M L => by
     rw [zMD, K6A hmidz]
     rfl
    have lkb : ∀ M L, lkV ((oB h mid (mtB M)).map AB.freeze ++ L) true [.i, .i] false (.ag [.i .i64 0, .i .i64 0, .ns, .i .i64 0, .s [], .s [], .i .u8 0, .i .u8 0, .i .u8 0, .i .u8 0, .i .u8 0, .i .u8 0, .i .u8 0, .i .u8 0, .i .u8 0, .i .u8 0, .i .u8 0, .i .u8 0, .i .u8 0, .i .u8 0, .i .u8 0, .i .u8 0, .i .u8 0, .i .u8 0, .i .u8 0, .i .u8 0, .i .u8 0, .i .u8 0, .i .u8 0, .i .u8 0, .i .u8 0, .i .u8 0, .i .u8 0, .i .u8 0, .i .u8 0, .i .u8 0, .i .u8 0, .i .u8 0, .ns]) (.m bid) (.ag [.i .i64 a, .i .i64 b]) = some (.ag cs) := fun M L => by
     have := JMn dotK (h := (oB h mid (mtB M)).map AB.freeze ++ L) (id := bid) (m := false) (l := entE l) (by rw [keyM M L bid hbl h2, hb]; rfl) false (.ag [.i .i64 0, .i .i64 0, .ns, .i .i64 0, .s [], .s [], .i .u8 0, .i .u8 0, .i .u8 0, .i .u8 0, .i .u8 0, .i .u8 0, .i .u8 0, .i .u8 0, .i .u8 0, .i .u8 0, .i .u8 0, .i .u8 0, .i .u8 0, .i .u8 0, .i .u8 0, .i .u8 0, .i .u8 0, .i .u8 0, .i .u8 0, .i .u8 0, .i .u8 0, .i .u8 0, .i .u8 0, .i .u8 0, .i .u8 0, .i .u8 0, .i .u8 0, .i .u8 0, .i .u8 0, .i .u8 0, .i .u8 0, .i .u8 0, .ns]) (a, b)
     rw [hlk] at this
     exact this
    have lkm : ∀ M L z x y, lkV ((oB h mid (mtB M)).map AB.freeze ++ L) true [.i, .i] true z (.m mid) (.ag [.i .i64 x, .i .i64 y]) = some (lkR true z (fndM dotK (x, y) (ksM M) 0)) := fun M L z x y => JMn dotK (keyM2 M L) true z (x, y)
    have hl0 : h0.length ≤ h.length := by
     have := congrArg List.length hp.old
     rw [List.length_map, List.length_take] at this
     omega
    have hso := zFH.1 hco 2 _ hcs2
    have sok : sl.ok (fun i => decide (i < h.length)) = true := AV.ok_mono (fun i q => by simp only [decide_eq_true_eq] at q ⊢; omega) sl hso
    have soc : ∀ c, sl.ok (fun i => decide (i < h.length + c)) = true := fun c => AV.ok_mono (fun i q => by simp only [decide_eq_true_eq] at q ⊢; omega) sl hso
    have sor : ∀ sel, Wk (sl.ren (selN h.length sel)) sl := fun sel => Wk.ren (fun i hi => ZiE hi) sok
    have soq : ∀ c lo hi anc past, sl.ok (qOk (h.length + c) lo hi anc past) = true := fun c lo hi anc past => AV.ok_mono (fun i q => YO3 (by simp only [decide_eq_true_eq] at q; omega)) sl sok
    have csq2 : ∀ c lo hi anc past, okL (qOk (h.length + c) lo hi anc past) cs = true := fun c lo hi anc past => KAd (fun i q => YO3 (by have := of_decide_eq_true q; omega)) cs hco
    have sstr := q5E hsl.isSl
    have slen := hsl.len
    have siad : ∀ k m, iadV 1 sl (.i k m) = if 0 ≤ m ∧ m < ((dpE l (a, b)).length : Int) then some (elP 1 sl m.toNat 0) else none := hsl.iad
    have srd : ∀ M, Rd intR (oB h mid (mtB M)) sl (dpE l (a, b)) := fun M => by
     have := QPZ hp.old h3.2.2 (mtB M) []
     rw [List.append_nil] at this
     exact Xso (Z3u this) hsl
    have sld : ∀ M L i, i < (dpE l (a, b)).length → ldV (oB h mid (mtB M) ++ L) none (elP 1 sl i 0) = some (.i .i64 ((dpE l (a, b)).getD i 0)) := fun M L i hi => ((srd M).app L).ld i 0 hi Nat.zero_lt_one
    obtain ⟨dl, hdl'⟩ : ∃ dl, dpE l (a, b) = dl := ⟨_, rfl⟩
    rw [hdl'] at hdl siad sld slen hsl
    simp only [QhU, YqB, z16, qdd, Qgj, if_true, if_false, reduceIte, Nat.reduceAdd, Nat.reduceSub, Nat.reduceLeDiff, Nat.reduceEqDiff, Nat.reduceMul, Nat.reduceLT, Int.reduceLT, Int.reduceLE, Int.reduceEq, CO.tmps, Opd.tmps, optT, Nat.reducePow, Nat.reduceDiv, Nat.reduceMod, ZxG, qlG, JTj, zDe, ok_m, Q3r, XBR, sj, q1, q2, q3, X1A, ZxG, lkb, hcs2, sstr, slen, Option.map_some, List.getElem?_cons_zero, List.getElem?_cons_succ, X01, zMZ hmid hh, Yxs, csq2, soq]
    have hun : ∀ (i : Nat) (m : Nat), i < dl.length → 1 ≤ m → (m : Int) ≤ dl.getD i 0 → vhas (dpE l (a, b)) (((i + 1 : Nat) : Int), (m : Int)) := fun i m hi h1 h2 => by
     have hg : dl[i]? = some (dl.getD i 0) := by rw [List.getD_eq_getElem?_getD, List.getElem?_eq_getElem hi]; rfl
     have := qt6 hg (by omega)
     rw [hdl']
     exact ⟨by dsimp only; omega, by dsimp only; omega, by dsimp only; rw [this]; exact h2⟩
    have hres : pSt (dpE l) (k + 1) M (a, b) = pOut (pSt (dpE l) k) dl 0 M := by rw [pSt, hdl']
    rw [hres]
    have qne : ∀ c, (h.length + c = mid) = False := fun c => eq_false (by omega)
    have qnl : ∀ c, (h.length + c ≤ mid) = False := fun c => eq_false (by omega)
    have lr0 : ∀ z, lkR true z none = .tu [z, .b false] := fun _ => rfl
    have lr1 : ∀ z j v, lkR true z (some (j, v)) = .tu [v, .b true] := fun _ _ _ => rfl
    have hll : dl.length ≤ 9223372036854775807 := by have := hsl.2; unfold maxLen at this; omega
    have hjr : ∀ sel, selN h.length sel j' = j' := fun sel => ZiE hjl
    refine q2X (S := Nat × List (Int × Int)) (fun σ => dl.length - σ.1) (fun σ => [.p j' 0] ++ tp 15 ++ [sl, .i .i64 (dl.length : Int), .i .i64 (σ.1 : Int)] ++ tp 36) (fun σ => oB h mid (mtB σ.2) ++ []) (fun σ => σ.1 ≤ dl.length ∧ pOut (pSt (dpE l) k) (dl.drop σ.1) σ.1 σ.2 = pOut (pSt (dpE l) k) dl 0 M) (0, M) ⟨Nat.zero_le _, rfl⟩ ?_ fun σ hσ => ?_
    ·exact Bt.selO [] hh (fun q => Yxs q M) (by decide) (by simp only [KlC, FrSel, BlkSel, AV.ren, renL, AV.ok, okL, Option.some.injEq, exists_eq_left', List.length_cons, List.length_nil, Nat.reduceAdd, Nat.reduceLT, reduceCtorEq, implies_true, exists_eq']) (by simp only [tp_0, tp_s, List.cons_append, List.nil_append, KlC, FrSel, BlkSel, AV.ren, renL, AV.ok, okL, Option.some.injEq, exists_eq_left', List.length_cons, List.length_nil, Nat.reduceAdd, Nat.reduceLT, reduceCtorEq, implies_true, exists_eq', sok, soc, sor, q1, hjl, hjr, Int.natCast_zero])
    obtain ⟨i, M1⟩ := σ
    obtain ⟨i1, i2⟩ := hσ
    dsimp only at i1 i2 ⊢
    by_cases g : i < dl.length
    ·have g' : ((i : Int) < (dl.length : Int)) = True := eq_true (by omega)
     have e1 : IntKind.i64.wrap ((i : Int) + 1) = ((i + 1 : Nat) : Int) := ZWm (by unfold In64; omega)
     have hge : ((0 : Int) ≤ (i : Int) ∧ (i : Int) < (dl.length : Int)) = True := eq_true (by omega)
     have hmem : dl.getD i 0 ∈ dl := by rw [List.getD_eq_getElem?_getD, List.getElem?_eq_getElem g]; exact List.getElem_mem g
     have hpos := hdl _ hmem
     obtain ⟨m0, hm0⟩ : ∃ m0 : Nat, dl.getD i 0 = (m0 : Int) := ⟨(dl.getD i 0).toNat, by omega⟩
     have hdrop : pOut (pSt (dpE l) k) (dl.drop i) i M1 = pOut (pSt (dpE l) k) (dl.drop (i + 1)) (i + 1) (pIn (pSt (dpE l) k) ((i + 1 : Nat) : Int) m0 M1) := by
      have hgd : dl[i] = (m0 : Int) := by rw [← hm0, List.getD_eq_getElem?_getD, List.getElem?_eq_getElem g]; rfl
      rw [List.drop_eq_getElem_cons g, pOut, hgd, Int.toNat_natCast]
     rw [hdrop] at i2
     have m0' : m0 ≤ 1048576 := by omega
     simp only [QhU, YqB, z16, qdd, Qgj, if_true, if_false, reduceIte, Nat.reduceAdd, Nat.reduceSub, Nat.reduceLeDiff, Nat.reduceEqDiff, Nat.reduceMul, Nat.reduceLT, Int.reduceLT, Int.reduceLE, Int.reduceEq, CO.tmps, Opd.tmps, optT, Nat.reducePow, Nat.reduceDiv, Nat.reduceMod, ZxG, sj, q1, q2, q3, g', g, hge, siad, sld, hm0, Int.toNat_natCast]
     refine q2X (S := Nat × List (Int × Int)) (fun τ => τ.1) (fun τ => [.p j' 0] ++ tp 3 ++ [.i .i64 (i : Int)] ++ tp 1 ++ [.i .i64 (τ.1 : Int)] ++ tp 9 ++ [sl, .i .i64 (dl.length : Int), .i .i64 (i : Int)] ++ tp 36) (fun τ => oB h mid (mtB τ.2) ++ []) (fun τ => τ.1 ≤ m0 ∧ pIn (pSt (dpE l) k) ((i + 1 : Nat) : Int) τ.1 τ.2 = pIn (pSt (dpE l) k) ((i + 1 : Nat) : Int) m0 M1) (m0, M1) ⟨Nat.le_refl _, rfl⟩ ?_ fun τ hτ => ?_
     ·refine Bt.wk ?_
      simp only [z16, Xq6, if_true, if_false, reduceIte, Nat.reduceAdd, Nat.reduceSub, Nat.reduceLeDiff, Nat.reduceEqDiff, Nat.reduceMul, Nat.reduceLT, Int.reduceLT, Int.reduceLE, Int.reduceEq]
     obtain ⟨m, M2⟩ := τ
     obtain ⟨j1, j2⟩ := hτ
     dsimp only at j1 j2 ⊢
     cases m with
     | zero =>
      have z' : ((0 : Int) < ((0 : Nat) : Int)) = False := eq_false (by omega)
      rw [pIn] at j2
      rw [← j2] at i2
      simp only [QhU, YqB, z16, qdd, Qgj, if_true, if_false, reduceIte, Nat.reduceAdd, Nat.reduceSub, Nat.reduceLeDiff, Nat.reduceEqDiff, Nat.reduceMul, Nat.reduceLT, Int.reduceLT, Int.reduceLE, Int.reduceEq, CO.tmps, Opd.tmps, optT, Nat.reducePow, Nat.reduceDiv, Nat.reduceMod, z', e1]
      refine ⟨(i + 1, M2), ⟨g, i2⟩, by dsimp only; omega, ?_⟩
      dsimp only
      refine Bt.wk ?_
      simp only [z16, Xq6, if_true, if_false, reduceIte, Nat.reduceAdd, Nat.reduceSub, Nat.reduceLeDiff, Nat.reduceEqDiff, Nat.reduceMul, Nat.reduceLT, Int.reduceLT, Int.reduceLE, Int.reduceEq]
     | succ m =>
      have z' : ((0 : Int) < ((m + 1 : Nat) : Int)) = True := eq_true (by omega)
      by_cases hin : (((i + 1 : Nat) : Int), ((m + 1 : Nat) : Int)) ∈ M2
      ·obtain ⟨jj, hf⟩ := QEY.1 hin
       rw [pIn, if_pos hin] at j2
       rw [← j2] at i2
       simp only [QhU, YqB, z16, qdd, Qgj, if_true, if_false, reduceIte, Nat.reduceAdd, Nat.reduceSub, Nat.reduceLeDiff, Nat.reduceEqDiff, Nat.reduceMul, Nat.reduceLT, Int.reduceLT, Int.reduceLE, Int.reduceEq, CO.tmps, Opd.tmps, optT, Nat.reducePow, Nat.reduceDiv, Nat.reduceMod, ZxG, qlG, JTj, zDe, ok_m, sj, q1, q2, q3, X1A, lkm, hf, lr1, z', e1, Option.map_some, List.getElem?_cons_zero, List.getElem?_cons_succ, X01, zMZ hmid hh, Yxs]
       refine ⟨(i + 1, M2), ⟨g, i2⟩, by dsimp only; omega, ?_⟩
       dsimp only
       exact Bt.selO [] hh (fun q => Yxs q M2) (by decide) (by simp only [KlC, FrSel, BlkSel, AV.ren, renL, AV.ok, okL, Option.some.injEq, exists_eq_left', List.length_cons, List.length_nil, Nat.reduceAdd, Nat.reduceLT, reduceCtorEq, implies_true, exists_eq']) (by simp only [tp_0, tp_s, List.cons_append, List.nil_append, KlC, FrSel, BlkSel, AV.ren, renL, AV.ok, okL, Option.some.injEq, exists_eq_left', List.length_cons, List.length_nil, Nat.reduceAdd, Nat.reduceLT, reduceCtorEq, implies_true, exists_eq', sok, soc, sor, q1, hjl, hjr])
      ·have hf := QEY.2 hin
       rw [pIn, if_neg hin] at j2
       have hx := hun i (m + 1) g (by omega) (by rw [hm0]; omega)
       have hwx : wtN (dpE l (((i + 1 : Nat) : Int), ((m + 1 : Nat) : Int))) n < k := Nat.lt_of_lt_of_le (hV.lt hx) (Nat.le_of_lt_succ hw)
       have mu : ∀ L, muV (oB (h.map AB.freeze) mid (mtB M2) ++ L) true [.i, .i] (.m mid) (.ag [.i .i64 ((i + 1 : Nat) : Int), .i .i64 ((m + 1 : Nat) : Int)]) (.ag []) = some (oB (h.map AB.freeze) mid (mtB (M2 ++ [(((i + 1 : Nat) : Int), ((m + 1 : Nat) : Int))])) ++ L) := fun L => by
        have := KBJ dotK hmidz (ksM M2) L (((i + 1 : Nat) : Int), ((m + 1 : Nat) : Int)) (.ag [])
        rw [YHQ hin] at this
        exact this
       have tp : ∀ M3 L, Kaa h0 l n k j' bid mid [.p j' 0, .ag [.i .i64 ((i + 1 : Nat) : Int), .i .i64 ((m + 1 : Nat) : Int)]] (oB (h.map AB.freeze) mid (mtB M3) ++ L) = some (.tu [], oB (h.map AB.freeze) mid (mtB (pSt (dpE l) k M3 (((i + 1 : Nat) : Int), ((m + 1 : Nat) : Int)))) ++ L) := fun M3 L => by
        rw [zRt (hp.oB h1 h2 h3.2.2 M3 L) (K6A hmidz _ _) hwx, Xqv hmidz]
       have em : IntKind.i64.wrap (((m + 1 : Nat) : Int) - 1) = (m : Int) := by rw [ZWm (by unfold In64; omega)]; omega
       simp only [QhU, YqB, z16, qdd, Qgj, if_true, if_false, reduceIte, Nat.reduceAdd, Nat.reduceSub, Nat.reduceLeDiff, Nat.reduceEqDiff, Nat.reduceMul, Nat.reduceLT, Int.reduceLT, Int.reduceLE, Int.reduceEq, CO.tmps, Opd.tmps, optT, Nat.reducePow, Nat.reduceDiv, Nat.reduceMod, ZxG, qlG, KhU, JTj, JXM, zDe, YqJ, QzY, ok_m, sj, q1, q2, q3, X1A, zhj rfl hmid, QGw hmid, XgJ hmidz, Z3V, ZlO, List.length_map, lkm, hf, lr0, mu, tp, qne, qnl, z', e1, em, Option.map_some, List.getElem?_cons_zero, List.getElem?_cons_succ, X01, zMZ hmid hh, Yxs]
       refine ⟨(m, pSt (dpE l) k (M2 ++ [(((i + 1 : Nat) : Int), ((m + 1 : Nat) : Int))]) (((i + 1 : Nat) : Int), ((m + 1 : Nat) : Int))), ⟨by dsimp only; omega, j2⟩, Nat.lt_succ_self _, ?_⟩
       dsimp only
       exact Bt.selO [] hh (fun q => Yxs q _) (by decide) (by simp only [KlC, FrSel, BlkSel, AV.ren, renL, AV.ok, okL, Option.some.injEq, exists_eq_left', List.length_cons, List.length_nil, Nat.reduceAdd, Nat.reduceLT, reduceCtorEq, implies_true, exists_eq']) (by simp only [tp_0, tp_s, List.cons_append, List.nil_append, KlC, FrSel, BlkSel, AV.ren, renL, AV.ok, okL, Option.some.injEq, exists_eq_left', List.length_cons, List.length_nil, Nat.reduceAdd, Nat.reduceLT, reduceCtorEq, implies_true, exists_eq', sok, soc, sor, q1, hjl, hjr])
    ·have g' : ((i : Int) < (dl.length : Int)) = False := eq_false (by omega)
     rw [List.drop_eq_nil_of_le (by omega), pOut] at i2
     rw [← i2]
     simp only [QhU, YqB, z16, qdd, Qgj, if_true, if_false, reduceIte, Nat.reduceAdd, Nat.reduceSub, Nat.reduceLeDiff, Nat.reduceEqDiff, Nat.reduceMul, Nat.reduceLT, Int.reduceLT, Int.reduceLE, Int.reduceEq, CO.tmps, Opd.tmps, optT, Nat.reducePow, Nat.reduceDiv, Nat.reduceMod, g']
     rw [List.append_nil]
     exact Bt.refl _ _ _
   ·cases e
  ·cases e
end Go.Proofs.YtebcngelgdpbjaaGreat
end
