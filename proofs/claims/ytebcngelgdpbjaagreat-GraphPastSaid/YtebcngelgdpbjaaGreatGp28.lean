/- Part 28 of what the laws' proofs rest on. No condition. -/
import Derived.Test.YtebcngelgdpbjaaGreatGp27
set_option linter.all false
section
namespace Go.Proofs.YtebcngelgdpbjaaGreat
set_option maxRecDepth 100000
set_option maxHeartbeats 4000000
def Q4J : List AV → List AB → Option (AV × List AB)
 | [], h => some (.b true, h)
 | _, _ => none
theorem KsC : Spec Tryz.prog 5 Q4J := by
 intro args h v h' e
 unfold Q4J at e
 split at e
 ·cases e
  exact fc5 h
 ·cases e
theorem QSw {n many : Int} : ∀ {l : List EvtA} {i : Nat} {refs : Int}, (i : Int) + l.length = n → lgs n many l i refs = false → n ≤ many ∧ ∀ x ∈ l, ¬ Jri x
 | [], i, refs, _, h => by
  rw [lgs, decide_eq_false_iff_not] at h
  exact ⟨by omega, fun x hx => by simp at hx⟩
 | x :: l, i, refs, hn, h => by
  rw [lgs] at h
  simp only [List.length_cons] at hn
  split at h
  ·split at h
   ·cases h
   ·rename_i hx
    obtain ⟨h1, h2⟩ := QSw (l := l) (i := i + 1) (by omega) h
    refine ⟨h1, fun y hy => ?_⟩
    rcases List.mem_cons.1 hy with rfl | hy
    ·exact hx
    ·exact h2 y hy
  ·rw [decide_eq_false_iff_not] at h
   omega
theorem YoY {m : List EvD} {n : Int} (h : chkG m n = 0) {e : EvD} (he : e ∈ m) (x : Int × Int) : x ∈ qVG m n e.1.dot ↔ vhas e.2 x := by
 obtain ⟨_, _, _, hA, _⟩ := ZEf h
 obtain ⟨_, _, hnd⟩ := Js7 hA
 unfold qVG
 rw [(QL5 _).mem_iff, q6O (qOn h) (Nat.lt_succ_self _), QEz hnd he]
theorem JiR {m : List EvD} {n : Int} (h : chkG m n = 0) {e : EvD} (he : e ∈ m) : ¬ vhas e.2 e.1.dot := fun hx => by
 obtain ⟨_, _, _, hA, _⟩ := ZEf h
 obtain ⟨h1, _, _⟩ := Js7 hA
 obtain ⟨f1, f2, f3, f4, f5, f6, f7⟩ := YRV (h1 e he)
 have := hx.2.2
 unfold atV at this
 rw [if_neg (by omega), f7] at this
 omega
theorem ZRI {α : Type} {r : Row α} {h : List AB} {s : AV} {l : List α} (e : Rd r h s l) {sz : Nat} (hz : r.sz = sz) (n j m : Nat) (hn : n < l.length) (hm : j + m ≤ sz) : ldV h (some m) (elP sz s n j) = some (.ag (((r.f (l.getD n r.d)).drop j).take m)) := by
 subst hz
 obtain ⟨id, off, cap, k, xs, rfl, h1, h2, h3⟩ := e.blk n hn
 simp only [elP, ldV, h1, Option.bind_some]
 have hlt : n * r.sz + r.sz ≤ l.length * r.sz := by
  have := Nat.mul_le_mul_right r.sz (show n + 1 ≤ l.length from hn)
  rw [Nat.add_mul] at this
  omega
 rw [if_pos (by omega)]
 congr 2
 refine List.ext_getElem? fun i => ?_
 rw [List.getElem?_take, List.getElem?_take]
 split
 ·rename_i hi
  rw [List.getElem?_drop, List.getElem?_drop, ← r.cells_get l n (j + i) hn (by omega), ← h3, List.getElem?_take, if_pos (by omega), List.getElem?_drop]
  congr 1
  omega
 ·rfl
theorem Jeg {α : Type} {r : Row α} {h L : List AB} {k : Nat} {b : Bool} {l : List α} (hk : L[k]? = some (resB r b l)) (hl : l.length ≤ maxLen) : Rd r (h ++ L) (apS r (h.length + k) l) l := by
 by_cases h0 : l.length = 0
 ·obtain rfl := List.eq_nil_of_length_eq_zero h0
  exact ⟨rfl, Nat.zero_le _⟩
 ·rw [YM1 _ h0]
  exact K0d (by rw [qu4]; exact hk) hl
theorem YM0 (n : Nat) (l : List (Int × Int)) (c : Nat) : (apS dotR n l).ok (fun i => decide (i < n + (c + 1))) = true := Yv9 _ _ _ (by simp)
theorem Xgb {h : List AB} (hz : h.map AB.freeze = h) {s : AV} {m : List EvD} (hs : RdEv h s m) (n0 : Int) (hn0 : -9223372036854775808 ≤ n0 ∧ n0 ≤ 9223372036854775807) :
    FnAt Tryz.prog 6 [s, .i .i64 n0] h (.b true) h := by
  refine FnAt.run (by kernel_rfl) (T := ⟨[⟨5, Q4J, fun _ => []⟩, ⟨38, JE8, fun _ => []⟩, ⟨9, Yvf, fun _ => []⟩, ⟨16, Kb7, fun _ => []⟩, ⟨33, QA1, fun _ => []⟩, ⟨39, Yks, fun _ => []⟩, ⟨40, qY8, fun _ => []⟩, ⟨41, q1b, fun _ => []⟩], []⟩) ⟨⟨KsC, KMS, qcF, zyj, Qbw, qOG, Jbk, Yf2, trivial⟩, trivial⟩ Tryz.func6 sw6 fun ho hh => ?_
  simp only [XDA, Bool.and_eq_true] at ho
  have f1 := hs.s.fx ho.1 (sz := 39) rfl
  have hlm : (m.map (·.1)).length = m.length := List.length_map _
  rw [hlm] at f1
  have gS : ∀ x, getS evR (h ++ x) s = some (m.map (·.1)) := fun x => (hs.s.app x).get
  have gs : ∀ x, YgZ (h ++ x) s = some m := fun x => (hs.app x).get
  have so : ∀ c, s.ok (fun i => decide (i < h.length + c)) = true := fun c => AV.ok_mono (fun i q => by simp only [decide_eq_true_eq] at q ⊢; omega) s ho.1
  have sr : ∀ sel, Wk (s.ren (selN h.length sel)) s := fun sel => Wk.ren (fun i hi => ZiE hi) ho.1
  have hn0' := eq_true hn0
  have p1 := eq_true (p := (-9223372036854775808 ≤ n0 ∧ n0 ≤ 9223372036854775807) ∧ (0 : Int) < 16 ∧ (16 : Int) ≤ 1000000) ⟨hn0, by omega, by omega⟩
  have p2 : IntKind.i64.wrap (1 + n0 % 16) = 1 + n0 % 16 := ZWm (by unfold In64; omega)
  have p3 := eq_true (p := (0 : Int) ≤ 20 ∧ (20 : Int) ≤ 1000) ⟨by omega, by omega⟩
  generalize hn : 1 + n0 % 16 = n at p2
  unfold w6
  cases hl : lgs (m.map (·.1)).length 20 (m.map (·.1)) 0 0 with
  | true =>
    simp only [QhU, YqB, z16, KHD, Xq6, if_true, if_false, ↓reduceIte, Nat.reduceAdd, Nat.reduceSub, Nat.reduceLeDiff, Nat.reduceEqDiff, Nat.reduceMul, Nat.reduceLT, Int.reduceLT, Int.reduceLE, Int.reduceEq, CO.tmps, Opd.tmps, optT, Nat.reducePow, Nat.reduceDiv, Nat.reduceMod, f1, Q4J, JE8, Yvf, gS, p1, p2, p3, hn0', hn, hl, Option.bind_some, XUr hh, Ygl hz, QqT hz, qNP hz, if_true, decide_true, decide_false, ne_eq, not_false_eq_true, not_true_eq_false, false_implies, forall_const, and_true, true_and]
    exact Bt.dropB _ hh rfl
  | false =>
  obtain ⟨hm20, hlong⟩ := QSw (by simp) hl
  have hc : ∀ e ∈ m, e.1.repo.length ≤ 1000000 ∧ e.1.tag.length ≤ 1000000 := fun e he => by
    have := hlong e.1 (List.mem_map.2 ⟨e, he, rfl⟩)
    unfold Jri at this
    omega
  have hc' := eq_true hc
  rw [hlm] at hm20
  by_cases hg : chkG m n ≠ 0
  · have hg' := eq_false (p := chkG m n = 0) hg
    simp only [QhU, YqB, z16, KHD, Xq6, if_true, if_false, ↓reduceIte, Nat.reduceAdd, Nat.reduceSub, Nat.reduceLeDiff, Nat.reduceEqDiff, Nat.reduceMul, Nat.reduceLT, Int.reduceLT, Int.reduceLE, Int.reduceEq, CO.tmps, Opd.tmps, optT, Nat.reducePow, Nat.reduceDiv, Nat.reduceMod, f1, Q4J, JE8, Yvf, Kb7, gS, gs, p1, p2, p3, hn0', hn, hl, hc', hg', Option.bind_some, XUr hh, Ygl hz, QqT hz, qNP hz, if_true, decide_true, decide_false, ne_eq, not_false_eq_true, not_true_eq_false, false_implies, forall_const, and_true, true_and]
    exact Bt.dropB _ hh rfl
  have hg0 : chkG m n = 0 := Decidable.byContradiction hg
  have hg' := eq_true hg0
  simp only [QhU, YqB, z16, KHD, Xq6, if_true, if_false, ↓reduceIte, Nat.reduceAdd, Nat.reduceSub, Nat.reduceLeDiff, Nat.reduceEqDiff, Nat.reduceMul, Nat.reduceLT, Int.reduceLT, Int.reduceLE, Int.reduceEq, CO.tmps, Opd.tmps, optT, Nat.reducePow, Nat.reduceDiv, Nat.reduceMod, f1, Q4J, JE8, Yvf, Kb7, gS, gs, p1, p2, p3, hn0', hn, hl, hc', hg', Option.bind_some, XUr hh, Ygl hz, QqT hz, qNP hz, if_true, decide_true, decide_false, ne_eq, not_false_eq_true, not_true_eq_false, false_implies, forall_const, and_true, true_and]
  have hml := eq_true (p := (∀ e ∈ m, e.1.repo.length ≤ 1000000 ∧ e.1.tag.length ≤ 1000000) ∧ m.length ≤ 1000) ⟨hc, by omega⟩
  have gp : ∀ L e, e ∈ m → QA1 [s, .i .i64 n, .ag [.i .i64 e.1.dot.1, .i .i64 e.1.dot.2]] (h ++ L) = some (.tu [apS dotR (h.length + L.length) (qVG m n e.1.dot), .i .i64 0], h ++ (L ++ [resB dotR true (qVG m n e.1.dot)])) := fun L e he => by
    have hne : ¬ ∀ x ∈ m, x.1.dot ≠ (e.1.dot.1, e.1.dot.2) := fun z => z e he rfl
    simp only [QA1]
    rw [gs, Option.bind_some, if_pos ⟨hc, by omega⟩, if_neg hg, if_neg hne, List.length_append, List.append_assoc]
    rfl
  have hpl : ∀ d, (qVG m n d).length ≤ 1000 := fun d => by
    have := qDL hg0 d
    unfold qVG
    rw [Qv5]
    omega
  have ld2 : ∀ L i (hi : i < m.length), ldV (h ++ L) (some 2) (elP 39 s i 0) = some (.ag [.i .i64 (m[i]).1.dot.1, .i .i64 (m[i]).1.dot.2]) := fun L i hi => by
    rw [ZRI (hs.s.app L) (sz := 39) rfl i 0 2 (by rw [hlm]; exact hi) (by decide)]
    have : (m.map (·.1)).getD i evR.d = (m[i]).1 := by rw [List.getD_eq_getElem?_getD, List.getElem?_map, List.getElem?_eq_getElem hi]; rfl
    rw [this]
    rfl
  have ld0 : ∀ L i (hi : i < m.length), ldV (h ++ L) none (elP 39 s i 2) = some (m[i]).1.deps.a := fun L i hi => by
    have q := (hs.s.app L).ld i 2 (by rw [hlm]; exact hi) (by decide)
    have : (m.map (·.1)).getD i evR.d = (m[i]).1 := by rw [List.getD_eq_getElem?_getD, List.getElem?_map, List.getElem?_eq_getElem hi]; rfl
    rw [this] at q
    exact q
  have ld39 : ∀ L i (hi : i < m.length), ldV (h ++ L) (some 39) (elP 39 s i 0) = some (.ag (evtF (m[i]).1)) := fun L i hi => by
    have q := (hs.s.app L).lda i (by rw [hlm]; exact hi)
    have : (m.map (·.1)).getD i evR.d = (m[i]).1 := by rw [List.getD_eq_getElem?_getD, List.getElem?_map, List.getElem?_eq_getElem hi]; rfl
    rw [this] at q
    exact q
  clear f1
  have f1 := hs.s.fx ho.1 (sz := 39) rfl
  rw [hlm] at f1
  have f1 := And.intro f1.1 (And.intro f1.2.1 (And.intro f1.2.2.1 (And.intro f1.2.2.2.1 (And.intro f1.2.2.2.2.1 (And.intro f1.2.2.2.2.2.1 f1.2.2.2.2.2.2.2.2.2)))))
  refine q2X (S := Nat) (fun i => m.length - i) (fun i => [s, .i .i64 n] ++ tp 3 ++ [.b true, .i .i64 (i : Int)] ++ tp 120) (fun _ => h ++ []) (fun i => i ≤ m.length) 0 (Nat.zero_le _) ?_ fun i hi => ?_
  · refine Bt.wk ?_
    simp only [z16, Xq6, if_true, if_false, reduceIte, Nat.reduceAdd, Nat.reduceSub, Nat.reduceLeDiff, Nat.reduceEqDiff, Nat.reduceMul, Nat.reduceLT, Int.reduceLT, Int.reduceLE, Int.reduceEq]
  by_cases g : i < m.length
  rotate_left
  · have g' : ((i : Int) < (m.length : Int)) = False := eq_false (by omega)
    simp only [QhU, YqB, z16, KHD, Xq6, if_true, if_false, ↓reduceIte, Nat.reduceAdd, Nat.reduceSub, Nat.reduceLeDiff, Nat.reduceEqDiff, Nat.reduceMul, Nat.reduceLT, Int.reduceLT, Int.reduceLE, Int.reduceEq, CO.tmps, Opd.tmps, optT, Nat.reducePow, Nat.reduceDiv, Nat.reduceMod, f1, Yks, qY8, q1b, gS, gs, hc', hml, hg', Option.bind_some, Option.map_some, g', XUr hh, Ygl hz, QqT hz, qNP hz, if_true, decide_true, decide_false, ne_eq, not_false_eq_true, not_true_eq_false, false_implies, forall_const, and_true, true_and]
    exact Bt.dropB _ hh rfl
  have g' : ((i : Int) < (m.length : Int)) = True := eq_true (by omega)
  have gz : ((0 : Int) ≤ (i : Int) ∧ (i : Int) < (m.length : Int)) = True := eq_true (by omega)
  have e1 : IntKind.i64.wrap ((i : Int) + 1) = ((i + 1 : Nat) : Int) := ZWm (by unfold In64; omega)
  have hin : m[i] ∈ m := List.getElem_mem g
  have l2i := fun L => ld2 L i g
  have l0i := fun L => ld0 L i g
  have l9i := fun L => ld39 L i g
  have hdi := hs.d _ hin
  have hoi := hs.o _ hin
  obtain ⟨ei, hei⟩ : ∃ e, m[i] = e := ⟨_, rfl⟩
  rw [hei] at hin l2i l0i l9i hdi hoi
  have gpi := fun L => gp L ei hin
  have gxi : ∀ y, getS intR (h ++ y) ei.1.deps.a = some ei.2 := fun y => (hdi.app y).get
  obtain ⟨P, hP⟩ : ∃ P, qVG m n ei.1.dot = P := ⟨_, rfl⟩
  rw [hP] at gpi
  have hPl : P.length ≤ 1000 := by rw [← hP]; exact hpl _
  have hPm : ∀ x, x ∈ P ↔ vhas ei.2 x := fun x => by rw [← hP]; exact YoY hg0 hin x
  simp only [QhU, YqB, z16, KHD, Xq6, if_true, if_false, ↓reduceIte, Nat.reduceAdd, Nat.reduceSub, Nat.reduceLeDiff, Nat.reduceEqDiff, Nat.reduceMul, Nat.reduceLT, Int.reduceLT, Int.reduceLE, Int.reduceEq, CO.tmps, Opd.tmps, optT, Nat.reducePow, Nat.reduceDiv, Nat.reduceMod, f1, Yks, qY8, q1b, gS, gs, hc', hml, hg', Option.bind_some, Option.map_some, g, g', gz, l2i, gpi, XUr hh, Ygl hz, QqT hz, qNP hz, if_true, decide_true, decide_false, ne_eq, not_false_eq_true, not_true_eq_false, false_implies, forall_const, and_true, true_and]
  refine q2X (S := Nat) (fun k => m.length - k) (fun k => [s, .i .i64 n] ++ tp 3 ++ [.b true, .i .i64 (i : Int), apS dotR (h.length + 0) P] ++ tp 1 ++ [.i .i64 (k : Int)] ++ tp 117) (fun _ => h ++ [resB dotR true P]) (fun k => k ≤ m.length) 0 (Nat.zero_le _) ?_ fun k hk => ?_
  · refine Bt.wk ?_
    simp only [z16, Xq6, if_true, if_false, reduceIte, Nat.reduceAdd, Nat.reduceSub, Nat.reduceLeDiff, Nat.reduceEqDiff, Nat.reduceMul, Nat.reduceLT, Int.reduceLT, Int.reduceLE, Int.reduceEq]
  by_cases gk : k < m.length
  rotate_left
  · have gk' : ((k : Int) < (m.length : Int)) = False := eq_false (by omega)
    simp only [QhU, YqB, z16, KHD, Xq6, if_true, if_false, ↓reduceIte, Nat.reduceAdd, Nat.reduceSub, Nat.reduceLeDiff, Nat.reduceEqDiff, Nat.reduceMul, Nat.reduceLT, Int.reduceLT, Int.reduceLE, Int.reduceEq, CO.tmps, Opd.tmps, optT, Nat.reducePow, Nat.reduceDiv, Nat.reduceMod, f1, Yks, qY8, q1b, gS, gs, hc', hml, hg', Option.bind_some, Option.map_some, gk', e1, XUr hh, Ygl hz, QqT hz, qNP hz, if_true, decide_true, decide_false, ne_eq, not_false_eq_true, not_true_eq_false, false_implies, forall_const, and_true, true_and]
    refine ⟨i + 1, g, by dsimp only; omega, ?_⟩
    dsimp only
    exact Bt.sel [] hh (by decide) (by simp only [KlC, FrSel, BlkSel, AV.ren, renL, AV.ok, okL, Option.some.injEq, exists_eq_left', List.length_cons, List.length_nil, Nat.reduceAdd, Nat.reduceLT, reduceCtorEq, implies_true, exists_eq']) (by simp only [KlC, FrSel, BlkSel, AV.ren, renL, AV.ok, okL, Option.some.injEq, exists_eq_left', List.length_cons, List.length_nil, Nat.reduceAdd, Nat.reduceLT, reduceCtorEq, implies_true, exists_eq', ho.1, so, sr])
  have gk' : ((k : Int) < (m.length : Int)) = True := eq_true (by omega)
  have gkz : ((0 : Int) ≤ (k : Int) ∧ (k : Int) < (m.length : Int)) = True := eq_true (by omega)
  have ek : IntKind.i64.wrap ((k : Int) + 1) = ((k + 1 : Nat) : Int) := ZWm (by unfold In64; omega)
  have hik : m[k] ∈ m := List.getElem_mem gk
  have l2k := fun L => ld2 L k gk
  have l0k := fun L => ld0 L k gk
  have l9k := fun L => ld39 L k gk
  have hdk := hs.d _ hik
  obtain ⟨ej, hej⟩ : ∃ e, m[k] = e := ⟨_, rfl⟩
  rw [hej] at hik l2k l0k l9k hdk
  have gpk := fun L => gp L ej hik
  have gxk : ∀ y, getS intR (h ++ y) ej.1.deps.a = some ej.2 := fun y => (hdk.app y).get
  obtain ⟨Q, hQ⟩ : ∃ Q, qVG m n ej.1.dot = Q := ⟨_, rfl⟩
  rw [hQ] at gpk
  have hQl : Q.length ≤ 1000 := by rw [← hQ]; exact hpl _
  have hQm : ∀ x, x ∈ Q ↔ vhas ej.2 x := fun x => by rw [← hQ]; exact YoY hg0 hik x
  have gP : ∀ L, getS dotR (h ++ (resB dotR true P :: L)) (apS dotR (h.length + 0) P) = some P := fun L => (Jeg (b := true) rfl (by unfold maxLen; omega)).get
  have lens := fun e he => (YRV ((Js7 (ZEf hg0).2.2.2.1).1 e he)).2.2.2.2.1
  have hn16 := (ZEf hg0).2.1
  have w1 := eq_true (p := ej.2.length ≤ 1000000 ∧ ei.2.length ≤ 1000000) ⟨by have := lens ej hik; omega, by have := lens ei hin; omega⟩
  have hoj := hs.o _ hik
  have di : ei.1.deps.a.ok (fun i => decide (i < h.length)) = true := zFH.1 hoi 2 _ (Zxc ei.1).2.2.1
  have di1 : ∀ c, ei.1.deps.a.ok (fun i => decide (i < h.length + c)) = true := fun c => AV.ok_mono (fun i q => by simp only [decide_eq_true_eq] at q ⊢; omega) _ di
  have di2 : ∀ c lo hi anc past, ei.1.deps.a.ok (qOk (h.length + c) lo hi anc past) = true := fun c lo hi anc past => AV.ok_mono (fun i q => YO3 (by have := of_decide_eq_true q; omega)) _ di
  have oi1 : ∀ c, okL (fun i => decide (i < h.length + c)) (evtF ei.1) = true := fun c => KAd (fun i q => by simp only [decide_eq_true_eq] at q ⊢; omega) _ hoi
  have oi2 : ∀ c lo hi anc past, okL (qOk (h.length + c) lo hi anc past) (evtF ei.1) = true := fun c lo hi anc past => KAd (fun i q => YO3 (by have := of_decide_eq_true q; omega)) _ hoi
  have oj1 : ∀ c, okL (fun i => decide (i < h.length + c)) (evtF ej.1) = true := fun c => KAd (fun i q => by simp only [decide_eq_true_eq] at q ⊢; omega) _ hoj
  have oj2 : ∀ c lo hi anc past, okL (qOk (h.length + c) lo hi anc past) (evtF ej.1) = true := fun c lo hi anc past => KAd (fun i q => YO3 (by have := of_decide_eq_true q; omega)) _ hoj
  have bx1 : (true == true ^^ true) = false := rfl
  have bx2 : (false == false ^^ true) = false := rfl
  have rs1 : ∀ (L : List AB), ∀ (n : Nat) (l : List (Int × Int)), (apS dotR n l).isStr = false := fun _ n l => q5E (Kjc n l)
  by_cases hx : vhas ei.2 ej.1.dot
  · have hmem : (((ej.1.dot.1, ej.1.dot.2) ∈ P)) = True := eq_true ((hPm _).2 hx)
    have hvh : vhas ei.2 (ej.1.dot.1, ej.1.dot.2) = True := eq_true hx
    have hdne : ej.1.dot ≠ ei.1.dot := fun z => JiR hg0 hin (z ▸ hx)
    have hw := Y6l hg0 hin hik hx
    have hlv : ZHl ej.1.dot (wS ej.2 ej.2.length) ei.1.dot (wS ei.2 ei.2.length) = True := eq_true (.inl ⟨hdne, by
      rw [lexI]
      have : cmpI (wS ej.2 ej.2.length) (wS ei.2 ei.2.length) = -1 := by unfold cmpI; rw [if_pos hw]
      rw [this, if_neg (by decide)]
      decide⟩)
    have hki : ((k : Int) = (i : Int)) = False := eq_false fun z => by
      have : k = i := by omega
      subst this
      rw [hei] at hej
      exact hdne (by rw [hej])
    simp only [QhU, YqB, z16, KHD, Xq6, if_true, if_false, ↓reduceIte, Nat.reduceAdd, Nat.reduceSub, Nat.reduceLeDiff, Nat.reduceEqDiff, Nat.reduceMul, Nat.reduceLT, Int.reduceLT, Int.reduceLE, Int.reduceEq, CO.tmps, Opd.tmps, optT, Nat.reducePow, Nat.reduceDiv, Nat.reduceMod, f1, Yks, qY8, q1b, gS, gs, hc', hml, hg', Option.bind_some, Option.map_some, g, gk, gk', gkz, gz, l2k, gpk, l0k, l9k, l2i, l0i, l9i, gP, gxi, gxk, Zz9, w1, hmem, hvh, hlv, hki, di1, di2, oi1, oi2, oj1, oj2, bx1, bx2, Yv9, so, XJx, qF7, KKe, Kef, ztT, Bool.not_true, Bool.not_false, XUr hh, Ygl hz, QqT hz, qNP hz, if_true, decide_true, decide_false, ne_eq, not_false_eq_true, not_true_eq_false, false_implies, forall_const, and_true, true_and]
    have hsub : ∀ x ∈ Q, x ∈ P := fun x hxQ => (hPm x).2 (by
      obtain ⟨hA1, _, hA3⟩ := Js7 (ZEf hg0).2.2.2.1
      have q1 := QEz hA3 hin
      have q2 := QEz hA3 hik
      have := ((qOn hg0).low ei.1.dot ej.1.dot (by rw [q1]; exact hx)).1
      rw [q1, q2] at this
      exact KYy this ((hQm x).1 hxQ))
    have rQ : Rd dotR (h ++ [resB dotR true P, resB dotR true Q]) (apS dotR (h.length + 1) Q) Q := Jeg (b := true) rfl (by unfold maxLen; omega)
    have ao1 : (apS dotR (h.length + 0) P).ok (fun i => decide (i < h.length + 2)) = true := Yv9 _ _ _ (by simp)
    have ao2 : (apS dotR (h.length + 1) Q).ok (fun i => decide (i < h.length + 2)) = true := Yv9 _ _ _ (by simp)
    refine q2X (S := Nat) (fun t => Q.length - t) (fun t => [s, .i .i64 n] ++ tp 3 ++ [.b true, .i .i64 (i : Int), apS dotR (h.length + 0) P] ++ tp 1 ++ [.i .i64 (k : Int), .b true, apS dotR (h.length + 1) Q] ++ tp 1 ++ [.i .i64 (t : Int)] ++ tp 113) (fun _ => h ++ [resB dotR true P, resB dotR true Q]) (fun t => t ≤ Q.length) 0 (Nat.zero_le _) ?_ fun t ht => ?_
    · refine Bt.wk ?_
      simp only [z16, Xq6, if_true, if_false, reduceIte, Nat.reduceAdd, Nat.reduceSub, Nat.reduceLeDiff, Nat.reduceEqDiff, Nat.reduceMul, Nat.reduceLT, Int.reduceLT, Int.reduceLE, Int.reduceEq]
    by_cases gt : t < Q.length
    · have gt' : ((t : Int) < (Q.length : Int)) = True := eq_true (by omega)
      have et : IntKind.i64.wrap ((t : Int) + 1) = ((t + 1 : Nat) : Int) := ZWm (by unfold In64; omega)
      obtain ⟨x, hx'⟩ : ∃ x, Q.getD t dotR.d = x := ⟨_, rfl⟩
      have hxQ : x ∈ Q := by rw [← hx', List.getD_eq_getElem?_getD, List.getElem?_eq_getElem gt]; exact List.getElem_mem gt
      have hxP : ((x.1, x.2) ∈ P) = True := eq_true (hsub x hxQ)
      have iq : iadV 2 (apS dotR (h.length + 1) Q) (.i .i64 (t : Int)) = some (elP 2 (apS dotR (h.length + 1) Q) t 0) := by
        have := rQ.iad .i64 (t : Int)
        rw [if_pos ⟨by omega, by omega⟩, Int.toNat_natCast] at this
        exact this
      have lq : ldV (h ++ [resB dotR true P, resB dotR true Q]) (some 2) (elP 2 (apS dotR (h.length + 1) Q) t 0) = some (.ag [.i .i64 x.1, .i .i64 x.2]) := by
        have := rQ.lda t gt
        rw [hx'] at this
        exact this
      simp only [QhU, YqB, z16, KHD, Xq6, if_true, if_false, ↓reduceIte, Nat.reduceAdd, Nat.reduceSub, Nat.reduceLeDiff, Nat.reduceEqDiff, Nat.reduceMul, Nat.reduceLT, Int.reduceLT, Int.reduceLE, Int.reduceEq, CO.tmps, Opd.tmps, optT, Nat.reducePow, Nat.reduceDiv, Nat.reduceMod, Yks, gP, gt', iq, lq, hxP, et, XJx, Bool.not_true, Bool.not_false, Option.bind_some, Option.map_some, XUr hh, Ygl hz, QqT hz, qNP hz, if_true, decide_true, decide_false, ne_eq, not_false_eq_true, not_true_eq_false, false_implies, forall_const, and_true, true_and]
      refine ⟨t + 1, gt, by dsimp only; omega, ?_⟩
      dsimp only
      refine Bt.wk ?_
      simp only [z16, Xq6, if_true, if_false, reduceIte, Nat.reduceAdd, Nat.reduceSub, Nat.reduceLeDiff, Nat.reduceEqDiff, Nat.reduceMul, Nat.reduceLT, Int.reduceLT, Int.reduceLE, Int.reduceEq]
    · have gt' : ((t : Int) < (Q.length : Int)) = False := eq_false (by omega)
      simp only [QhU, YqB, z16, KHD, Xq6, if_true, if_false, ↓reduceIte, Nat.reduceAdd, Nat.reduceSub, Nat.reduceLeDiff, Nat.reduceEqDiff, Nat.reduceMul, Nat.reduceLT, Int.reduceLT, Int.reduceLE, Int.reduceEq, CO.tmps, Opd.tmps, optT, Nat.reducePow, Nat.reduceDiv, Nat.reduceMod, gt', ek, XUr hh, Ygl hz, QqT hz, qNP hz, if_true, decide_true, decide_false, ne_eq, not_false_eq_true, not_true_eq_false, false_implies, forall_const, and_true, true_and]
      refine ⟨k + 1, gk, by dsimp only; omega, ?_⟩
      dsimp only
      exact Bt.sel [0] hh (by decide) (by simp only [KlC, FrSel, BlkSel, AV.ren, renL, AV.ok, okL, Option.some.injEq, exists_eq_left', List.length_cons, List.length_nil, Nat.reduceAdd, Nat.reduceLT, reduceCtorEq, implies_true, exists_eq']) (by simp only [tp_0, tp_s, List.cons_append, List.nil_append, KlC, FrSel, BlkSel, AV.ren, renL, AV.ok, okL, Option.some.injEq, exists_eq_left', List.length_cons, List.length_nil, Nat.reduceAdd, Nat.reduceLT, reduceCtorEq, implies_true, exists_eq', ho.1, so, sr, YM0])
  · have hmem : (((ej.1.dot.1, ej.1.dot.2) ∈ P)) = False := eq_false fun z => hx ((hPm _).1 z)
    have hvh : vhas ei.2 (ej.1.dot.1, ej.1.dot.2) = False := eq_false hx
    simp only [QhU, YqB, z16, KHD, Xq6, if_true, if_false, ↓reduceIte, Nat.reduceAdd, Nat.reduceSub, Nat.reduceLeDiff, Nat.reduceEqDiff, Nat.reduceMul, Nat.reduceLT, Int.reduceLT, Int.reduceLE, Int.reduceEq, CO.tmps, Opd.tmps, optT, Nat.reducePow, Nat.reduceDiv, Nat.reduceMod, f1, Yks, qY8, q1b, gS, gs, hc', hml, hg', Option.bind_some, Option.map_some, g, gk, gk', gkz, gz, l2k, gpk, l0k, l9k, l2i, l0i, l9i, gP, gxi, gxk, Zz9, w1, hmem, hvh, di1, di2, oi1, oi2, oj1, oj2, bx1, bx2, Yv9, so, XJx, qF7, KKe, Kef, ztT, Bool.not_true, Bool.not_false, XUr hh, Ygl hz, QqT hz, qNP hz, if_true, decide_true, decide_false, ne_eq, not_false_eq_true, not_true_eq_false, false_implies, forall_const, and_true, true_and]
    refine q2X (S := Nat) (fun t => 1 - t) (fun t => [s, .i .i64 n] ++ tp 3 ++ [.b true, .i .i64 (i : Int), apS dotR (h.length + 0) P] ++ tp 1 ++ [.i .i64 (k : Int), .b false, apS dotR (h.length + 1) Q] ++ tp 1 ++ [.i .i64 (t : Int)] ++ tp 113) (fun _ => h ++ [resB dotR true P, resB dotR true Q]) (fun t => t ≤ 0) 0 (Nat.le_refl _) ?_ fun t ht => ?_
    · refine Bt.wk ?_
      simp only [z16, Xq6, if_true, if_false, reduceIte, Nat.reduceAdd, Nat.reduceSub, Nat.reduceLeDiff, Nat.reduceEqDiff, Nat.reduceMul, Nat.reduceLT, Int.reduceLT, Int.reduceLE, Int.reduceEq]
    rcases emG ((t : Int) < (Q.length : Int)) with gt' | gt' <;>
      (simp only [QhU, YqB, z16, KHD, Xq6, if_true, if_false, ↓reduceIte, Nat.reduceAdd, Nat.reduceSub, Nat.reduceLeDiff, Nat.reduceEqDiff, Nat.reduceMul, Nat.reduceLT, Int.reduceLT, Int.reduceLE, Int.reduceEq, CO.tmps, Opd.tmps, optT, Nat.reducePow, Nat.reduceDiv, Nat.reduceMod, gt', ek, XUr hh, Ygl hz, QqT hz, qNP hz, if_true, decide_true, decide_false, ne_eq, not_false_eq_true, not_true_eq_false, false_implies, forall_const, and_true, true_and]
       refine ⟨k + 1, gk, by dsimp only; omega, ?_⟩
       dsimp only
       exact Bt.sel [0] hh (by decide) (by simp only [KlC, FrSel, BlkSel, AV.ren, renL, AV.ok, okL, Option.some.injEq, exists_eq_left', List.length_cons, List.length_nil, Nat.reduceAdd, Nat.reduceLT, reduceCtorEq, implies_true, exists_eq']) (by simp only [tp_0, tp_s, List.cons_append, List.nil_append, KlC, FrSel, BlkSel, AV.ren, renL, AV.ok, okL, Option.some.injEq, exists_eq_left', List.length_cons, List.length_nil, Nat.reduceAdd, Nat.reduceLT, reduceCtorEq, implies_true, exists_eq', ho.1, so, sr, YM0]))
end Go.Proofs.YtebcngelgdpbjaaGreat
end
section
namespace Go.Proofs.YtebcngelgdpbjaaGreat
open Go.ChangeShapes Go.WideShapes Go.ChangeAt Go.RowKit
def RdL {α : Type} (R : World → List Value → α → Prop) (size : Nat) (w : World) (v : Value) (ts : List α) : Prop :=
 ∃ cs, Sl w v ts.length cs ∧ cs.length = ts.length * size ∧ ∀ i t, ts[i]? = some t → R w ((cs.drop (i * size)).take size) t
section
variable {H : Type} {enc : TypeId × Value → H} {P : Program} {w : World} {base : Nat} {spare : Nat → Bool} {held : Bool}
theorem JF9 {α β : Type} (f : α → Option β) : ∀ (l : List α) (r : List β), l.mapM f = some r → ∀ a ∈ l, ∃ b, f a = some b
 | [], _, _, a, ha => by cases ha
 | x :: l, r, h, a, ha => by
  rw [List.mapM_cons] at h
  cases hx : f x with
  | none => simp [hx] at h
  | some b =>
   cases hl : l.mapM f with
   | none => simp [hx, hl] at h
   | some bs =>
    rcases List.mem_cons.1 ha with rfl | ha
    ·exact ⟨b, hx⟩
    ·exact JF9 f l bs hl a ha
theorem zEA {α : Type} (R : Nat → α → Prop) : ∀ n, (∀ i, i < n → ∃ t, R i t) → ∃ ts : List α, ts.length = n ∧ ∀ i t, ts[i]? = some t → R i t
 | 0, _ => ⟨[], rfl, fun i t h => by simp at h⟩
 | n + 1, h => by
  obtain ⟨ts, hl, ht⟩ := zEA R n fun i hi => h i (by omega)
  obtain ⟨t, h1⟩ := h n (by omega)
  refine ⟨ts ++ [t], by simp [hl], fun i u hu => ?_⟩
  by_cases hi : i < n
  ·rw [List.getElem?_append_left (by omega)] at hu
   exact ht i u hu
  ·have hi2 : i = n := by
    have := (List.getElem?_eq_some_iff.1 hu).1
    simp [hl] at this
    omega
   subst hi2
   rw [List.getElem?_append_right (by omega)] at hu
   simp [hl] at hu
   exact hu ▸ h1
theorem zcz {α : Type} (R : World → List Value → α → Prop) {fuel : Nat} {T e : TypeId} {size : Nat} (hT : P.underlying T = some (.slice e)) (hc : P.cellsOf e = size) (hsz : 0 < size)
  (hR : ∀ cs x, DataW.trod enc P w base (fun _ => true) held fuel e cs = some x → ∃ t, R w cs t) {v : Value} {x : DataW H × List MemPlace}
  (h : DataW.trod enc P w base (fun _ => true) held (fuel + 1) T [v] = some x) : ∃ ts, RdL R size w v ts := by
 cases v with
 | slice a len cap =>
  cases a with
  | none =>
   cases len with
   | zero =>
    cases cap with
    | zero => exact ⟨[], [], .inl ⟨⟨_, rfl⟩, rfl, rfl⟩, by simp, fun i t ht => by simp at ht⟩
    | succ c => simp [DataW.trod, hT] at h
   | succ l => cases cap <;> simp [DataW.trod, hT] at h
  | some a =>
   simp only [DataW.trod, hT, hc] at h
   split at h
   case isFalse => cases h
   case isTrue hcond =>
    obtain ⟨hb, hlc, hcm⟩ := hcond
    obtain ⟨elems, hel, h2⟩ := Option.bind_eq_some_iff.1 h
    simp only [if_true] at h2
    obtain ⟨rest, hrest, _⟩ := Option.map_eq_some_iff.1 h2
    have hel2 : ∀ i, i < len → ∃ cs t, cs.length = size ∧ (∀ j, j < size → w.cell? ((a.add (i * size)).add j) = cs[j]?) ∧ R w cs t := by
     intro i hi
     obtain ⟨y, hy⟩ := JF9 _ _ _ hel i (List.mem_range.2 hi)
     obtain ⟨cs, hcs, hy2⟩ := Option.bind_eq_some_iff.1 hy
     obtain ⟨_, hl, hcell⟩ := World.cells?_some hcs
     obtain ⟨t, ht⟩ := hR cs y hy2
     exact ⟨cs, t, hl, hcell, ht⟩
    by_cases h0 : cap = 0
    ·subst h0
     have : len = 0 := by omega
     subst this
     exact ⟨[], [], .inl ⟨⟨_, rfl⟩, rfl, rfl⟩, by simp, fun i t ht => by simp at ht⟩
    ·have hspot : a.spot = none := by
      have hfirst : ∃ u, w.cell? a = some u := by
       by_cases hl0 : len = 0
       ·subst hl0
        obtain ⟨y, hy⟩ := JF9 _ _ _ hrest 0 (List.mem_range.2 (by omega))
        obtain ⟨cs, hcs, _⟩ := Option.bind_eq_some_iff.1 hy
        obtain ⟨_, hl, hcell⟩ := World.cells?_some hcs
        have := hcell 0 hsz
        simp [Addr.add] at this
        exact ⟨cs[0]'(by omega), by rw [this]; exact List.getElem?_eq_getElem (by omega)⟩
       ·obtain ⟨cs, t, hl, hcell, _⟩ := hel2 0 (by omega)
        have := hcell 0 hsz
        simp [Addr.add] at this
        exact ⟨cs[0]'(by omega), by rw [this]; exact List.getElem?_eq_getElem (by omega)⟩
      obtain ⟨u, hu⟩ := hfirst
      unfold World.cell? at hu
      split at hu
      ·split at hu
       ·cases hu
       ·rename_i hs
        simpa using hs
      ·cases hu
     obtain ⟨b, off, sp⟩ := a
     simp only at hspot
     subst hspot
     obtain ⟨g, hg⟩ : ∃ g : Nat → Value, ∀ k, g k = (w.cell? ⟨b, off + k, none⟩).getD undef := ⟨_, fun _ => rfl⟩
     have hlt : ∀ i j, i < len → j < size → i * size + j < len * size := fun i j hi hj => by
      have : (i + 1) * size ≤ len * size := Nat.mul_le_mul_right _ hi
      rw [Nat.add_mul] at this
      omega
     have hpiece : ∀ i, i < len → ∀ cs' : List Value, cs'.length = size → (∀ j, j < size → w.cell? (((⟨b, off, none⟩ : Addr).add (i * size)).add j) = cs'[j]?) → ((((List.range (len * size)).map g).drop (i * size)).take size) = cs' := by
      intro i hi cs' hl hcell
      apply List.ext_getElem?
      intro j
      by_cases hj : j < size
      ·have h1 := hcell j hj
       rw [Addr.add_none, Addr.add_none] at h1
       rw [List.getElem?_take_of_lt hj, List.getElem?_drop, List.getElem?_map, List.getElem?_range (hlt i j hi hj), ← h1]
       rw [Option.map_some, hg, ← Nat.add_assoc, h1, List.getElem?_eq_getElem (by omega)]
       rfl
      ·rw [List.getElem?_eq_none (by rw [List.length_take]; omega), List.getElem?_eq_none (by omega)]
     obtain ⟨ts, htl, hts⟩ := zEA (fun i t => R w ((((List.range (len * size)).map g).drop (i * size)).take size) t) len fun i hi => by
      obtain ⟨cs, t, hl, hcell, ht⟩ := hel2 i hi
      exact ⟨t, by rw [hpiece i hi cs hl hcell]; exact ht⟩
     refine ⟨ts, (List.range (len * size)).map g, .inr ⟨b, off, cap, by rw [htl], by omega, hcm, fun k u hu => ?_⟩, by simp [htl], hts⟩
     rw [List.getElem?_map] at hu
     obtain ⟨k', hk', rfl⟩ := Option.map_eq_some_iff.1 hu
     have hk : k < len * size := by simpa using (List.getElem?_eq_some_iff.1 hk').1
     rw [List.getElem?_range hk] at hk'
     cases hk'
     have hdiv : k / size < len := (Nat.div_lt_iff_lt_mul hsz).2 hk
     obtain ⟨cs, t, hl, hcell, _⟩ := hel2 (k / size) hdiv
     have h1 := hcell (k % size) (Nat.mod_lt _ hsz)
     rw [Addr.add_none, Addr.add_none, Nat.add_assoc, Nat.mul_comm, Nat.div_add_mod] at h1
     rw [hg, h1, List.getElem?_eq_getElem (by have := Nat.mod_lt k hsz; omega)]
     rfl
 | _ => simp [DataW.trod, hT] at h
theorem QRP {fuel : Nat} {T : TypeId} {fs : Array Field} (hT : P.underlying T = some (.struct fs)) {cs : List Value} {x : DataW H × List MemPlace}
  (h : DataW.trod enc P w base spare held (fuel + 1) T cs = some x) : cs.length = P.cellsOf T ∧ ∀ f ∈ fs.toList, ∃ y, DataW.trod enc P w base spare held fuel f.type ((cs.drop f.offset).take (P.cellsOf f.type)) = some y := by
 simp only [DataW.trod, hT] at h
 split at h
 ·rename_i hl
  obtain ⟨xs, hxs, _⟩ := Option.map_eq_some_iff.1 h
  exact ⟨hl, fun f hf => JF9 _ _ _ hxs f hf⟩
 ·cases h
theorem zOr {fuel : Nat} {T e : TypeId} {n : Nat} (hT : P.underlying T = some (.array n e)) {cs : List Value} {x : DataW H × List MemPlace}
  (h : DataW.trod enc P w base spare held (fuel + 1) T cs = some x) : cs.length = P.cellsOf T ∧ ∀ i, i < n → ∃ y, DataW.trod enc P w base spare held fuel e ((cs.drop (i * P.cellsOf e)).take (P.cellsOf e)) = some y := by
 simp only [DataW.trod, hT] at h
 split at h
 ·rename_i hl
  obtain ⟨xs, hxs, _⟩ := Option.map_eq_some_iff.1 h
  exact ⟨hl, fun i hi => JF9 _ _ _ hxs i (List.mem_range.2 hi)⟩
 ·cases h
theorem Ka4 {fuel : Nat} {T : TypeId} {k : IntKind} (hT : P.underlying T = some (.int k)) {cs : List Value} {x : DataW H × List MemPlace}
  (h : DataW.trod enc P w base spare held fuel T cs = some x) : ∃ n, cs = [.int k n] ∧ (Lit.int k n).wf = true := by
 cases fuel with
 | zero => cases h
 | succ fuel =>
  simp only [DataW.trod, hT] at h
  split at h <;> simp_all
theorem XPg {fuel : Nat} {T : TypeId} (hT : P.underlying T = some .string) {cs : List Value} {x : DataW H × List MemPlace}
  (h : DataW.trod enc P w base spare held fuel T cs = some x) : ∃ s : ByteArray, cs = [.string s] ∧ s.size ≤ maxLen := by
 cases fuel with
 | zero => cases h
 | succ fuel =>
  simp only [DataW.trod, hT] at h
  split at h <;> simp_all
theorem Qho {α : Type} (R : World → List Value → α → Prop) {fuel : Nat} {T e : TypeId} {size : Nat} (hT : P.underlying T = some (.slice e)) (hc : P.cellsOf e = size) (hsz : 0 < size)
  (hR : ∀ fuel cs x, DataW.trod enc P w base (fun _ => true) held fuel e cs = some x → ∃ t, R w cs t) {cs : List Value} {x : DataW H × List MemPlace}
  (h : DataW.trod enc P w base (fun _ => true) held fuel T cs = some x) : ∃ v, cs = [v] ∧ ∃ ts, RdL R size w v ts := by
 cases fuel with
 | zero => cases h
 | succ fuel =>
  have hv : ∃ v, cs = [v] := by
   have h' := h
   simp only [DataW.trod, hT] at h'
   split at h' <;> simp_all
  obtain ⟨v, rfl⟩ := hv
  exact ⟨v, rfl, zcz R hT hc hsz (fun cs x => hR fuel cs x) h⟩
theorem Kp4 {n : Int} (h : (Lit.int .u8 n).wf = true) : Value.int .u8 n = .int .u8 ((UInt8.ofInt n).toNat : Int) := by
 have hb := bounds_u8 h
 congr 1
 simp only [UInt8.ofInt, UInt8.toNat_ofNat']
 omega
theorem ZLD {n : Int} (h : (Lit.int .i64 n).wf = true) : -9223372036854775808 ≤ n ∧ n ≤ 9223372036854775807 := bounds_i64 h
end
end Go.Proofs.YtebcngelgdpbjaaGreat
end
section
namespace Go.Proofs.YtebcngelgdpbjaaGreat
open Go.ChangeShapes Go.WideShapes Go.ChangeAt Go.RowKit
section
variable {K : Code → CC → Prop} {ρ : Mp} {h : List AB} {w : World}
theorem In.hz (i : In K ρ h w) : h.map AB.freeze = h := by
 refine List.ext_getElem? fun j => ?_
 rw [List.getElem?_map]
 cases e : h[j]? with
 | none => rfl
 | some B =>
  have := i.frz B (List.mem_of_getElem? e)
  rw [Option.map_some]
  congr 1
  cases B <;> first | rfl | (cases this; done) | (simp only [AB.mut] at this; subst this; rfl)
theorem RdL.row {α : Type} {r : Row α} {v : Value} {ts : List α} (e : RdL (fun _ cs x => cs = (r.f x).map AV.val) r.sz w v ts) : Sl w v ts.length ((r.cells ts).map AV.val) := by
 obtain ⟨cs, h1, h2, h3⟩ := e
 have hcs : cs = (r.cells ts).map AV.val := by
  apply List.ext_getElem?
  intro k
  by_cases hk : k < ts.length * r.sz
  ·have hi : k / r.sz < ts.length := (Nat.div_lt_iff_lt_mul r.pos).2 hk
   have hj := Nat.mod_lt k r.pos
   have ek : k = k / r.sz * r.sz + k % r.sz := by rw [Nat.mul_comm]; exact (Nat.div_add_mod k r.sz).symm
   have ht : ts[k / r.sz]? = some (ts.getD (k / r.sz) r.d) := by rw [List.getD_eq_getElem?_getD, List.getElem?_eq_getElem hi]; rfl
   have q := h3 _ _ ht
   have q1 : ((cs.drop (k / r.sz * r.sz)).take r.sz)[k % r.sz]? = ((r.f (ts.getD (k / r.sz) r.d)).map AV.val)[k % r.sz]? := by rw [q]
   rw [List.getElem?_take_of_lt hj, List.getElem?_drop, ← ek, List.getElem?_map, ← r.cells_get ts _ _ hi hj, ← ek] at q1
   rw [q1, List.getElem?_map]
  ·rw [List.getElem?_eq_none (by omega), List.getElem?_eq_none (by rw [List.length_map, r.cells_len]; omega)]
 rw [hcs] at h1
 exact h1
end
section
variable {H : Type} {enc : TypeId × Value → H} {w : World} {base : Nat} {held : Bool}
theorem zEY {α : Type} {l : List α} (h : l.length = 2) : ∃ a b, l = [a, b] := by
 match l, h with
 | [a, b], _ => exact ⟨a, b, rfl⟩
theorem z9H {fuel : Nat} {cs : List Value} {x : DataW H × List MemPlace} (h : DataW.trod enc Tryz.prog w base (fun _ => true) held fuel 26 cs = some x) : ∃ v, cs = [v] ∧ ∃ xs : List Int, Sl w v xs.length ((intR.cells xs).map AV.val) := by
 obtain ⟨v, h1, ts, h2⟩ := Qho (fun _ cs (c : Int) => cs = (intR.f c).map AV.val) Tryz.underlying26 (size := 1) (by kernel_rfl) (by decide) (fun fuel cs x hx => by
  obtain ⟨n, rfl, hw⟩ := Ka4 Tryz.underlying3 hx
  exact ⟨n, by rw [Zr0]; rfl⟩) h
 exact ⟨v, h1, ts, RdL.row (r := intR) h2⟩
theorem QXC {fuel : Nat} {i : Int} {x : DataW H × List MemPlace} (h : DataW.trod enc Tryz.prog w base (fun _ => true) held fuel 3 [.int .i64 i] = some x) : -9223372036854775808 ≤ i ∧ i ≤ 9223372036854775807 := by
 obtain ⟨n, e, hw⟩ := Ka4 Tryz.underlying3 h
 cases e
 exact ZLD hw
theorem qJX {fuel : Nat} {cs : List Value} {x : DataW H × List MemPlace} (h : DataW.trod enc Tryz.prog w base (fun _ => true) held fuel 47 cs = some x) : ∃ r n, cs = [.int .i64 r, .int .i64 n] ∧ (-9223372036854775808 ≤ r ∧ r ≤ 9223372036854775807) ∧ (-9223372036854775808 ≤ n ∧ n ≤ 9223372036854775807) := by
 cases fuel with
 | zero => cases h
 | succ fuel =>
  obtain ⟨hl, he⟩ := QRP Tryz.underlying47 h
  have hl2 : cs.length = 2 := hl.trans (by kernel_rfl)
  simp only [List.forall_mem_cons] at he
  obtain ⟨⟨y0, h0⟩, ⟨y1, h1⟩, _⟩ := he
  rw [(by kernel_rfl : Tryz.prog.cellsOf 3 = 1)] at h0 h1
  obtain ⟨r, e0, w0⟩ := Ka4 Tryz.underlying3 h0
  obtain ⟨n, e1, w1⟩ := Ka4 Tryz.underlying3 h1
  obtain ⟨a, b, rfl⟩ := zEY hl2
  have e0' : [a] = _ := e0
  have e1' : [b] = _ := e1
  cases e0'
  cases e1'
  exact ⟨r, n, rfl, ZLD w0, ZLD w1⟩
end
end Go.Proofs.YtebcngelgdpbjaaGreat
end
section
namespace Go.Proofs.YtebcngelgdpbjaaGreat
open Go.ChangeShapes Go.WideShapes Go.ChangeAt Go.RowKit
section
variable {H : Type} {enc : TypeId × Value → H} {w : World} {base : Nat} {held : Bool}
theorem Kny {fuel : Nat} {cs : List Value} {x : DataW H × List MemPlace} (h : DataW.trod enc Tryz.prog w base (fun _ => true) held fuel 59 cs = some x) : ∃ i : Dg, cs = (idR.f i).map AV.val := by
 cases fuel with
 | zero => cases h
 | succ fuel =>
  obtain ⟨hl, he⟩ := zOr Tryz.underlying59 h
  have hl2 : cs.length = 32 := hl.trans (by kernel_rfl)
  have h1 : Tryz.prog.cellsOf 5 = 1 := by kernel_rfl
  obtain ⟨d, hd, hdt⟩ := zEA (fun i (c : UInt8) => cs[i]? = some (.int .u8 (c.toNat : Int))) 32 fun i hi => by
   obtain ⟨y, hy⟩ := he i hi
   rw [h1] at hy
   obtain ⟨n, hn, hw⟩ := Ka4 Tryz.underlying5 hy
   refine ⟨UInt8.ofInt n, ?_⟩
   have e : ((cs.drop (i * 1)).take 1)[0]? = some (.int .u8 n) := by rw [hn]; rfl
   rw [List.getElem?_take_of_lt (by omega), List.getElem?_drop, Kp4 hw] at e
   simpa using e
  refine ⟨⟨d, hd⟩, ?_⟩
  apply List.ext_getElem?
  intro i
  show cs[i]? = ((d.map u8A).map AV.val)[i]?
  rw [List.map_map]
  by_cases hi : i < 32
  ·rw [List.getElem?_map, List.getElem?_eq_getElem (by omega : i < d.length), Option.map_some, hdt i _ (List.getElem?_eq_getElem (by omega : i < d.length))]
   rfl
  ·rw [List.getElem?_eq_none (by omega), List.getElem?_eq_none (by rw [List.length_map]; omega)]
end
end Go.Proofs.YtebcngelgdpbjaaGreat
end
section
namespace Go.Proofs.YtebcngelgdpbjaaGreat
open Go.ChangeShapes Go.WideShapes Go.ChangeAt Go.RowKit
section
variable {H : Type} {enc : TypeId × Value → H} {w : World} {base : Nat} {held : Bool}
theorem qH7 (s : ByteArray) : AV.val (.s s.data.toList) = .string s := by
 show Value.string ⟨s.data.toList.toArray⟩ = _
 rw [Array.toArray_toList]
theorem Ydi {fuel : Nat} {cs : List Value} {x : DataW H × List MemPlace} (h : DataW.trod enc Tryz.prog w base (fun _ => true) held fuel 60 cs = some x) : ∃ v, cs = [v] ∧ ∃ xs : List Dg, Sl w v xs.length ((idR.cells xs).map AV.val) := by
 obtain ⟨v, h1, ts, h2⟩ := Qho (fun _ cs (c : Dg) => cs = (idR.f c).map AV.val) Tryz.underlying60 (size := 32) (by kernel_rfl) (by decide) (fun fuel cs x hx => Kny hx) h
 exact ⟨v, h1, ts, RdL.row (r := idR) h2⟩
end
end Go.Proofs.YtebcngelgdpbjaaGreat
end
section
namespace Go.Proofs.YtebcngelgdpbjaaGreat
open Go.ChangeShapes Go.WideShapes Go.ChangeAt Go.RowKit
structure RawE where
 r : Int
 n : Int
 d : Value
 k : Int
 repo : ByteArray
 tag : ByteArray
 id : Dg
 rf : Value
 xs : List Int
 ys : List Dg
def RawE.cells (t : RawE) : List Value := [.int .i64 t.r, .int .i64 t.n, t.d, .int .i64 t.k, .string t.repo, .string t.tag] ++ (idR.f t.id).map AV.val ++ [t.rf]
section
variable {H : Type} {enc : TypeId × Value → H} {w : World} {base : Nat} {held : Bool}
theorem cutE {α : Type} (cs : List α) (a b : Nat) : (cs.drop a).take b ++ cs.drop (a + b) = cs.drop a := by rw [← List.drop_drop, List.take_append_drop]
theorem JLb {fuel : Nat} {cs : List Value} {x : DataW H × List MemPlace} (h : DataW.trod enc Tryz.prog w base (fun _ => true) held fuel 62 cs = some x) :
  ∃ t : RawE, cs = t.cells ∧ Sl w t.d t.xs.length ((intR.cells t.xs).map AV.val) ∧ Sl w t.rf t.ys.length ((idR.cells t.ys).map AV.val) := by
 cases fuel with
 | zero => cases h
 | succ fuel =>
  obtain ⟨hl, he⟩ := QRP Tryz.underlying62 h
  have hl2 : cs.length = 39 := hl.trans (by kernel_rfl)
  simp only [List.forall_mem_cons] at he
  obtain ⟨⟨y0, h0⟩, ⟨y1, h1⟩, ⟨y2, h2⟩, ⟨y3, h3⟩, ⟨y4, h4⟩, ⟨y5, h5⟩, ⟨y6, h6⟩, _⟩ := he
  rw [(by kernel_rfl : Tryz.prog.cellsOf 47 = 2)] at h0
  rw [(by kernel_rfl : Tryz.prog.cellsOf 26 = 1)] at h1
  rw [(by kernel_rfl : Tryz.prog.cellsOf 3 = 1)] at h2
  rw [(by kernel_rfl : Tryz.prog.cellsOf 9 = 1)] at h3 h4
  rw [(by kernel_rfl : Tryz.prog.cellsOf 59 = 32)] at h5
  rw [(by kernel_rfl : Tryz.prog.cellsOf 60 = 1)] at h6
  obtain ⟨r, n, e0, _, _⟩ := qJX h0
  obtain ⟨d, e1, xs, s1⟩ := z9H h1
  obtain ⟨k, e2, _⟩ := Ka4 Tryz.underlying3 h2
  obtain ⟨p, e3, _⟩ := XPg Tryz.underlying9 h3
  obtain ⟨g, e4, _⟩ := XPg Tryz.underlying9 h4
  obtain ⟨i, e5⟩ := Kny h5
  obtain ⟨f, e6, ys, s6⟩ := Ydi h6
  have e0' : (cs.drop 0).take 2 = [.int .i64 r, .int .i64 n] := e0
  have e1' : (cs.drop 2).take 1 = [d] := e1
  have e2' : (cs.drop 3).take 1 = [.int .i64 k] := e2
  have e3' : (cs.drop 4).take 1 = [.string p] := e3
  have e4' : (cs.drop 5).take 1 = [.string g] := e4
  have e5' : (cs.drop 6).take 32 = (idR.f i).map AV.val := e5
  have e6' : (cs.drop 38).take 1 = [f] := e6
  refine ⟨⟨r, n, d, k, p, g, i, f, xs, ys⟩, ?_, s1, s6⟩
  have a0 := cutE cs 0 2
  have a1 := cutE cs 2 1
  have a2 := cutE cs 3 1
  have a3 := cutE cs 4 1
  have a4 := cutE cs 5 1
  have a5 := cutE cs 6 32
  have a6 := cutE cs 38 1
  rw [e0', Nat.zero_add] at a0
  rw [e1'] at a1
  rw [e2'] at a2
  rw [e3'] at a3
  rw [e4'] at a4
  rw [e5'] at a5
  rw [e6', List.drop_eq_nil_of_le (show cs.length ≤ 38 + 1 by omega)] at a6
  rw [← a6] at a5
  rw [← a5] at a4
  rw [← a4] at a3
  rw [← a3] at a2
  rw [← a2] at a1
  rw [← a1] at a0
  rw [show cs = cs.drop 0 from rfl, ← a0]
  unfold RawE.cells
  simp only [List.cons_append, List.nil_append, List.append_assoc, List.append_nil]
theorem zSe {fuel : Nat} {cs : List Value} {x : DataW H × List MemPlace} (h : DataW.trod enc Tryz.prog w base (fun _ => true) held fuel 22 cs = some x) :
  ∃ v, cs = [v] ∧ ∃ (ts : List RawE) (c : List Value), Sl w v ts.length c ∧ c.length = ts.length * 39 ∧ (∀ i t, ts[i]? = some t → (c.drop (i * 39)).take 39 = t.cells) ∧ ∀ t ∈ ts, Sl w t.d t.xs.length ((intR.cells t.xs).map AV.val) ∧ Sl w t.rf t.ys.length ((idR.cells t.ys).map AV.val) := by
 obtain ⟨v, h1, ts, c, h2, h3, h4⟩ := Qho (fun w cs (t : RawE) => cs = t.cells ∧ Sl w t.d t.xs.length ((intR.cells t.xs).map AV.val) ∧ Sl w t.rf t.ys.length ((idR.cells t.ys).map AV.val)) Tryz.underlying22 (size := 39) (by kernel_rfl) (by decide) (fun fuel cs x hx => JLb hx) h
 exact ⟨v, h1, ts, c, h2, h3, fun i t ht => (h4 i t ht).1, fun t ht => by
  obtain ⟨i, hi⟩ := List.mem_iff_getElem?.1 ht
  exact (h4 i t hi).2⟩
end
section
variable {K : Code → CC → Prop} {ρ : Mp} {h : List AB} {w : World}
theorem In.slG {α : Type} {r : Row α} (i : In K ρ h w) {v : Value} {cs : List Value} {xs : List α} (hl : cs.length = xs.length * r.sz) (hs : Sl w v xs.length cs) (hv : ∀ (j : Nat) a c, (r.cells xs)[j]? = some a → cs[j]? = some c → VR ρ a c) :
  ∃ x s B, In K (ρ ++ [x]) (h ++ [B]) w ∧ VR (ρ ++ [x]) s v ∧ Rd r (h ++ [B]) s xs ∧ s.ok (fun i => decide (i < (h ++ [B]).length)) = true ∧ s.capOk = true := by
 have hrl := i.rel.len
 by_cases h0 : xs.length = 0
 ·obtain rfl := List.eq_nil_of_length_eq_zero h0
  refine ⟨(0, 0, 0), .sl h.length 0 0 0 (some 0), .dead, i.push (by simp [AB.mut]) (by simp [BR]), ?_, ⟨by rfl, Nat.zero_le _⟩, by simp [AV.ok], rfl⟩
  rcases hs with ⟨⟨a, rfl⟩, _, _⟩ | ⟨b, off, cap, rfl, _, hc, _⟩
  ·exact .sz _ _ _ _ (Nat.zero_le _) fun _ => rfl
  ·exact .sz _ _ _ _ hc fun q => by cases q
 ·rcases hs with ⟨_, q, _⟩ | ⟨b, off, cap, rfl, hlc, hc, hcells⟩
  ·omega
  ·have hlen : (r.cells xs).length = xs.length * r.sz := r.cells_len xs
   have hpos : 0 < xs.length * r.sz := Nat.mul_pos (by omega) r.pos
   have hat : ∀ k (hk : k < cs.length), w.cell? ⟨b, off + k, none⟩ = some cs[k] := fun k hk => hcells k _ (List.getElem?_eq_getElem hk)
   obtain ⟨ds, e, fz, hb⟩ : ∃ cs e fz, w.heap[b]? = some (.cells cs e fz) := by
    have := hat 0 (by omega)
    unfold World.cell? at this
    split at this
    ·rename_i c e fz hb
     exact ⟨c, e, fz, hb⟩
    ·cases this
   have hat' : ∀ k (hk : k < cs.length), ds[off + k]? = some cs[k] := fun k hk => by
    have := hat k hk
    unfold World.cell? at this
    rw [hb] at this
    simpa using this
   refine ⟨(b, off, off + cap * r.sz), .sl h.length 0 xs.length xs.length (some r.sz), .blk false false (r.cells xs), i.push (by simp [AB.mut]) ?_, ?_, ⟨?_, by show xs.length ≤ maxLen; omega⟩, by simp [AV.ok], ?_⟩
   ·refine ⟨ds, e, fz, hb, (fun q => by cases q), ?_, fun k a c ha hc' => ?_⟩
    ·have := (Array.getElem?_eq_some_iff.1 (hat' (cs.length - 1) (by omega))).1
     omega
    ·have hk := (List.getElem?_eq_some_iff.1 ha).1
     rw [hat' k (by omega)] at hc'
     cases hc'
     exact (hv k a _ ha (List.getElem?_eq_getElem (by omega))).ext (Ext.push _ _)
   ·exact .sl h.length 0 xs.length xs.length (some r.sz) b off (off + cap * r.sz) cap (by rw [← hrl, List.getElem?_append_right (Nat.le_refl _), Nat.sub_self]; rfl) (Nat.le_refl _) (by omega) hc (fun q => by cases q) (fun z hz _ => by cases hz; exact Nat.le_refl _)
   ·simp only [rdS, if_neg h0]
    have hr : ZMh (h ++ [AB.blk false false (r.cells xs)]) h.length = some (r.cells xs) := by
     unfold ZMh
     rw [List.getElem?_append_right (Nat.le_refl _), Nat.sub_self]
     rfl
    rw [hr, Option.bind_some, if_pos (by omega), List.drop_zero, List.take_of_length_le (by omega)]
   ·simp [AV.capOk]
structure EvO (ρ : Mp) (h : List AB) (e : EvtA) (t : RawE) : Prop where
 v : VL ρ (evtF e) t.cells.toArray
 d : Rd intR h e.deps.a t.xs
 f : Rd idR h e.refs.a t.ys
 o : okL (fun i => decide (i < h.length)) (evtF e) = true
 c1 : e.deps.a.capOk = true
 c2 : e.refs.a.capOk = true
theorem EvO.app {ρ ρ2 : Mp} {h h2 : List AB} {e : EvtA} {t : RawE} (q : EvO ρ h e t) : EvO (ρ ++ ρ2) (h ++ h2) e t :=
 ⟨q.v.ext (fun k y hk => by rw [List.getElem?_append_left (List.getElem?_eq_some_iff.1 hk).1]; exact hk), q.d.app h2, q.f.app h2, KAd (fun i z => by simp only [decide_eq_true_eq, List.length_append] at z ⊢; omega) _ q.o, q.c1, q.c2⟩
theorem X0G (x : Dg) : ∀ a ∈ idR.f x, a.fl = true := fun a ha => by
 obtain ⟨b, _, rfl⟩ := List.mem_map.1 ha
 rfl
theorem JW9 {ρ : Mp} {d f : AV} {t : RawE} (hd : VR ρ d t.d) (hf : VR ρ f t.rf) (sd : d.isSl = true) (sf : f.isSl = true) : VL ρ (evtF ⟨(t.r, t.n), ⟨d, sd⟩, t.k, t.repo.data.toList, t.tag.data.toList, t.id, ⟨f, sf⟩⟩) t.cells.toArray := by
 have h1 := YM6 ρ [.i .i64 t.r, .i .i64 t.n] (fun a ha => by simp at ha; rcases ha with rfl | rfl <;> rfl)
 have h2 := YM6 ρ (.i .i64 t.k :: .s t.repo.data.toList :: .s t.tag.data.toList :: idR.f t.id) (fun a ha => by
  rcases List.mem_cons.1 ha with rfl | ha
  ·rfl
  ·rcases List.mem_cons.1 ha with rfl | ha
   ·rfl
   ·rcases List.mem_cons.1 ha with rfl | ha
    ·rfl
    ·exact X0G _ a ha)
 have h3 := ((h1.append (VL.one hd)).append h2).append (VL.one hf)
 have e1 : ([AV.i .i64 t.r, .i .i64 t.n] ++ [d]) ++ (.i .i64 t.k :: .s t.repo.data.toList :: .s t.tag.data.toList :: idR.f t.id) ++ [f] = evtF ⟨(t.r, t.n), ⟨d, sd⟩, t.k, t.repo.data.toList, t.tag.data.toList, t.id, ⟨f, sf⟩⟩ := by
  unfold evtF
  simp only [List.cons_append, List.nil_append]
 rw [e1] at h3
 have e2 : (([AV.i .i64 t.r, .i .i64 t.n].map AV.val).toArray ++ #[t.d] ++ ((AV.i .i64 t.k :: .s t.repo.data.toList :: .s t.tag.data.toList :: idR.f t.id).map AV.val).toArray ++ #[t.rf]) = t.cells.toArray := by
  apply Array.toList_inj.1
  simp only [Array.toList_append, List.map_cons, List.map_nil, qH7]
  unfold RawE.cells
  simp only [List.cons_append, List.nil_append, List.append_assoc]
  rfl
 rw [e2] at h3
 exact h3
theorem In.evl : ∀ (ts : List RawE) {ρ : Mp} {h : List AB}, In K ρ h w → (∀ t ∈ ts, Sl w t.d t.xs.length ((intR.cells t.xs).map AV.val) ∧ Sl w t.rf t.ys.length ((idR.cells t.ys).map AV.val)) →
  ∃ (ρ2 : Mp) (h2 : List AB) (es : List EvtA), In K (ρ ++ ρ2) (h ++ h2) w ∧ es.length = ts.length ∧ ∀ (j : Nat) e t, es[j]? = some e → ts[j]? = some t → EvO (ρ ++ ρ2) (h ++ h2) e t
 | [], ρ, h, i, _ => ⟨[], [], [], by simpa using i, rfl, fun j e t q => by simp at q⟩
 | t :: ts, ρ, h, i, hs => by
  obtain ⟨m1, x1, i1, v1⟩ := i.slice zDi (hs t (List.mem_cons_self ..)).1
  obtain ⟨m2, x2, i2, v2⟩ := i1.slice (r := idR) X0G (hs t (List.mem_cons_self ..)).2
  obtain ⟨ρ2, h2, es, i3, hl, hj⟩ := In.evl ts i2 fun t ht => hs t (List.mem_cons_of_mem _ ht)
  have e1 : (ρ ++ [x1] ++ [x2]) ++ ρ2 = ρ ++ ([x1, x2] ++ ρ2) := by simp
  have e2 : (h ++ [resB intR false t.xs] ++ [resB idR false t.ys]) ++ h2 = h ++ ([resB intR false t.xs, resB idR false t.ys] ++ h2) := by simp
  obtain ⟨e0, q0⟩ : ∃ e0, EvO (ρ ++ [x1] ++ [x2]) (h ++ [resB intR false t.xs] ++ [resB idR false t.ys]) e0 t := by
   refine ⟨⟨(t.r, t.n), ⟨rsl intR h.length t.xs, JZE _ _⟩, t.k, t.repo.data.toList, t.tag.data.toList, t.id, ⟨rsl idR (h ++ [resB intR false t.xs]).length t.ys, JZE _ _⟩⟩, ?_⟩
   refine ⟨JW9 (v1.ext (Ext.push _ _)) v2 _ _, ?_, ?_, ?_, zKc _ _, zKc _ _⟩
   ·exact (K0d (by rw [List.getElem?_append_right (Nat.le_refl _), Nat.sub_self]; rfl) m1).app _
   ·exact K0d (by rw [List.getElem?_append_right (Nat.le_refl _), Nat.sub_self]; rfl) m2
   ·refine zFH.2 fun j a ha => ?_
    have hv := (JW9 (ρ := ρ ++ [x1] ++ [x2]) (v1.ext (Ext.push _ _)) v2 (JZE _ _) (JZE _ _))
    obtain ⟨c, _, hc⟩ := hv.get (j := j) (a := a) ha
    exact hc.okLe (by rw [i2.rel.len]; exact Nat.le_refl _)
  rw [e1, e2] at i3
  refine ⟨[x1, x2] ++ ρ2, [resB intR false t.xs, resB idR false t.ys] ++ h2, e0 :: es, i3, by simp [hl], fun j e t' a b => ?_⟩
  ·cases j with
   | zero =>
    cases a; cases b
    have := q0.app (ρ2 := ρ2) (h2 := h2)
    rw [e1, e2] at this
    exact this
   | succ j =>
    have := hj j e t' (by simpa using a) (by simpa using b)
    rw [e1, e2] at this
    exact this
abbrev EvF := EvtA × (List Int × List Dg)
structure RdEf (h : List AB) (s : AV) (M : List EvF) : Prop where
 ev : RdEv h s (M.map fun e => (e.1, e.2.1))
 f : ∀ e ∈ M, Rd idR h e.1.refs.a e.2.2
 c : ∀ e ∈ M, e.1.deps.a.capOk = true ∧ e.1.refs.a.capOk = true
theorem In.evs (i : In K ρ h w) {v : Value} {ts : List RawE} {c : List Value} (hs : Sl w v ts.length c) (hl : c.length = ts.length * 39) (hc : ∀ i t, ts[i]? = some t → (c.drop (i * 39)).take 39 = t.cells) (ht : ∀ t ∈ ts, Sl w t.d t.xs.length ((intR.cells t.xs).map AV.val) ∧ Sl w t.rf t.ys.length ((idR.cells t.ys).map AV.val)) :
  ∃ (ρ2 : Mp) (h2 : List AB) (s : AV) (M : List EvF), In K (ρ ++ ρ2) (h ++ h2) w ∧ VR (ρ ++ ρ2) s v ∧ RdEf (h ++ h2) s M ∧ s.ok (fun i => decide (i < (h ++ h2).length)) = true ∧ s.capOk = true ∧ Ext ρ (ρ ++ ρ2) := by
 obtain ⟨ρ2, h2, es, i2, hle, hj⟩ := i.evl ts ht
 have key : ∀ (j : Nat) a c', (evR.cells es)[j]? = some a → c[j]? = some c' → VR (ρ ++ ρ2) a c' := fun j a c' ha hc' => by
  have hjl : j < es.length * 39 := by
   have := (List.getElem?_eq_some_iff.1 ha).1
   rw [evR.cells_len] at this
   exact this
  have hi : j / 39 < es.length := by omega
  have hm : j % 39 < 39 := Nat.mod_lt _ (by decide)
  have ej : j = j / 39 * 39 + j % 39 := by omega
  have q := hj (j / 39) _ _ (List.getElem?_eq_getElem hi) (List.getElem?_eq_getElem (by omega : j / 39 < ts.length))
  have h1 := hc (j / 39) _ (List.getElem?_eq_getElem (by omega : j / 39 < ts.length))
  refine q.v.2 (j % 39) a c' ?_ ?_
  ·have := evR.cells_get es (j / 39) (j % 39) hi hm
   rw [show evR.sz = 39 from rfl, ← ej, ha] at this
   rw [this, List.getD_eq_getElem?_getD, List.getElem?_eq_getElem hi]
   rfl
  ·rw [List.getElem?_toArray, ← h1, List.getElem?_take_of_lt hm, List.getElem?_drop, ← ej]
   exact hc'
 obtain ⟨x, s, B, i3, v3, r3, o3, c3⟩ := i2.slG (r := evR) (xs := es) (by rw [hle]; exact hl) (by rw [hle]; exact hs) key
 have e1 : ρ ++ ρ2 ++ [x] = ρ ++ (ρ2 ++ [x]) := List.append_assoc _ _ _
 have e2 : h ++ h2 ++ [B] = h ++ (h2 ++ [B]) := List.append_assoc _ _ _
 have hz : ∀ e ∈ es.zip ts, EvO (ρ ++ ρ2 ++ [x]) (h ++ h2 ++ [B]) e.1 e.2 := fun e he => by
  obtain ⟨j, hj'⟩ := List.mem_iff_getElem?.1 he
  obtain ⟨a, b⟩ := e
  rw [List.getElem?_zip_eq_some] at hj'
  exact (hj j a b hj'.1 hj'.2).app
 have hm1 : ((es.zip ts).map fun e => (e.1, (e.2.xs, e.2.ys))).map (fun e => (e.1, e.2.1)) = (es.zip ts).map fun e => (e.1, e.2.xs) := by rw [List.map_map]; rfl
 have hm2 : ((es.zip ts).map fun e => (e.1, e.2.xs)).map (·.1) = es := by
  rw [List.map_map]
  exact List.map_fst_zip (by omega)
 rw [e1] at i3 v3
 rw [e2] at i3 r3 o3
 rw [e1, e2] at hz
 refine ⟨ρ2 ++ [x], h2 ++ [B], s, (es.zip ts).map fun e => (e.1, (e.2.xs, e.2.ys)), i3, v3, ⟨⟨?_, fun e he => ?_, fun e he => ?_⟩, fun e he => ?_, fun e he => ?_⟩, o3, c3, fun k y hk => ?_⟩
 ·rw [hm1, hm2]; exact r3
 ·rw [hm1] at he
  obtain ⟨p, hp, rfl⟩ := List.mem_map.1 he
  exact (hz p hp).d
 ·rw [hm1] at he
  obtain ⟨p, hp, rfl⟩ := List.mem_map.1 he
  exact (hz p hp).o
 ·obtain ⟨p, hp, rfl⟩ := List.mem_map.1 he
  exact (hz p hp).f
 ·obtain ⟨p, hp, rfl⟩ := List.mem_map.1 he
  exact ⟨(hz p hp).c1, (hz p hp).c2⟩
 ·rw [List.getElem?_append_left (List.getElem?_eq_some_iff.1 hk).1]; exact hk
end
end Go.Proofs.YtebcngelgdpbjaaGreat
end
