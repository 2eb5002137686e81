/- Part 20 of what the laws' proofs rest on. No condition. -/
import Derived.Test.YtbcpcjofkfgjoaaPh19
set_option linter.all false
section
namespace Go.Proofs.Ytbcpcjofkfgjoaa
set_option maxRecDepth 100000
set_option maxHeartbeats 4000000
def CC.at : List Nat → CC → CC
 | [], c => c
 | 0 :: p, .seq a _ => CC.at p a
 | 1 :: p, .seq _ b => CC.at p b
 | 2 :: p, .block _ a => CC.at p a
 | 2 :: p, .loop a => CC.at p a
 | _, c => c
theorem at_nil (c : CC) : CC.at [] c = c := _root_.id (by cases c <;> rfl)
theorem at_0 (p : List Nat) (a b : CC) : CC.at (0 :: p) (.seq a b) = CC.at p a := _root_.id rfl
theorem at_1 (p : List Nat) (a b : CC) : CC.at (1 :: p) (.seq a b) = CC.at p b := _root_.id rfl
theorem at_b (p : List Nat) (i : Nat) (a : CC) : CC.at (2 :: p) (.block i a) = CC.at p a := _root_.id rfl
theorem at_l (p : List Nat) (a : CC) : CC.at (2 :: p) (.loop a) = CC.at p a := _root_.id rfl
theorem ZMO {c : Ctx} {k : List IT} {a : CC} {fr fr' : List AV} {h h' : List AB} (hb : Bt c.P c.p fr h fr' h') (e : W c (.code (.loop a) :: k) fr' h') : W c (.code (.loop a) :: k) fr h := by
 simp only [W, Lv_n, IT.wp, wpC] at e ⊢
 obtain ⟨I, ⟨n, f1, h1, g1, g2⟩, g3⟩ := e
 exact ⟨I, ⟨n, f1, h1, hb.trans g1, g2⟩, g3⟩
noncomputable def KjK : List AV → List AB → Option (AV × List AB)
 | [a], h => (getS strR h a).bind fun xs => if xs.length ≤ 1000000 then (if xs = [] then some (.sl h.length 0 0 0 none, h ++ [.blk true true []]) else some (rsl strR h.length xs, h ++ [resB strR true xs])) else none
 | _, _ => none
theorem Zc9 : Spec Try.prog 12 KjK := by
 intro args h v h' e
 unfold KjK at e
 split at e
 ·rename_i a
  obtain ⟨xs, ha, e⟩ := Yc7 e
  split at e
  ·rename_i hl
   split at e
   ·rename_i h0
    cases e
    subst h0
    refine FnAt.c ?_
    refine FnAt.run (by kernel_rfl) (T := ⟨[], []⟩) ⟨trivial, trivial⟩ Try.func12 sw12 fun ho hh => ?_
    simp only [Qlf, Bool.and_eq_true] at ho
    have fa := ha.fx ho.1 (sz := 1) rfl
    have fs := ha.src (sz := 1) rfl
    unfold w12
    simp only [QZz, KkX, KtL, KED, Kg0, if_true, if_false, ↓reduceIte, Nat.reduceAdd, Nat.reduceSub, Nat.reduceLeDiff, Nat.reduceEqDiff, Nat.reduceMul, Nat.reduceLT, Int.reduceLT, Int.reduceLE, Int.reduceEq, CO.tmps, Opd.tmps, optT, Nat.reducePow, Nat.reduceDiv, Nat.reduceMod, fa, fs, XnW, List.length_nil]
    exact Bt.eq rfl rfl
   ·rename_i h0
    cases e
    exact QIh _ _ _ _ (by unfold YRg; dsimp only; rw [ha.get, Option.bind_some, if_pos hl])
  ·cases e
 ·cases e
theorem Yzz {h L : List AB} {T p : List (List UInt8)} (k : Nat) (hb : ownM strR T L k) (h1 : (T.length + p.length) ≤ 1000000) :
  ∃ tv G, appW (h ++ L) true 1 16 (apS strR (h.length + k) T) p.length (strR.cells p) = some (tv, h ++ G) ∧
   ((p = [] ∧ tv = apS strR (h.length + k) T ∧ G = L) ∨ (p ≠ [] ∧ T = [] ∧ tv = .sl (h.length + L.length) 0 p.length p.length (some 1) ∧ G = L ++ [.blk true true (strR.cells p)]) ∨
    (p ≠ [] ∧ T ≠ [] ∧ tv = .sl (h.length + L.length) 0 (T.length + p.length) (T.length + p.length) (some 1) ∧ G = JLX L k ++ [.blk true true (strR.cells T ++ strR.cells p)])) := by
 by_cases hp : p = []
 ·subst hp
  refine ⟨_, _, ?_, .inl ⟨rfl, rfl, rfl⟩⟩
  by_cases hT : T.length = 0
  ·obtain rfl := List.eq_nil_of_length_eq_zero hT
   simp only [appW, YtJ, List.length_nil, if_true]
  ·rw [Kte _ hT]
   unfold rsl
   rw [if_neg hT]
   exact zqn _ _ _ _ _ _ _ _ _ _
 ·have hlp : p.length ≠ 0 := fun q => hp (List.eq_nil_of_length_eq_zero q)
  by_cases hT : T = []
  ·subst hT
   refine ⟨_, _, ?_, .inr (.inl ⟨hp, rfl, rfl, rfl⟩)⟩
   simp only [List.length_nil, Nat.zero_add] at h1
   show appW (h ++ L) true 1 16 .ns p.length (strR.cells p) = _
   unfold appW
   dsimp only
   rw [if_neg hlp, if_pos ⟨by omega, by unfold maxLen; omega⟩, List.length_append, List.append_assoc]
  ·have hlT : T.length ≠ 0 := fun q => hT (List.eq_nil_of_length_eq_zero q)
   refine ⟨_, _, ?_, .inr (.inr ⟨hp, hT, rfl, rfl⟩)⟩
   rw [Kte _ hlT]
   exact zWD (h := h) (p := h.length) rfl (r := strR) (sz := 1) rfl L k T 16 p.length (strR.cells p) hlT hb hlp (by omega) (by unfold maxLen; omega)
structure Told (A T : List (List UInt8)) (d : List UInt8) : Prop where
 ris : T.Pairwise ltS
 up : ∀ x ∈ T, ¬ ltS d x
 all : ∀ x ∈ A, ¬ ltS d x → x ∈ T
theorem Znx {x : List UInt8} (h : x ≠ []) : ltS [] x := by
 cases x with
 | nil => exact absurd rfl h
 | cons a l => show (-1 : Int) < 0; decide
theorem XVf {C : List (List UInt8)} (hne : ∀ x ∈ C, x ≠ []) (d x : List UInt8) : x ∈ Q9V d C ↔ x ∈ C ∧ ltS d x := by
 unfold Q9V
 rw [List.mem_filter, decide_eq_true_eq]
 constructor
 ·rintro ⟨h1, h2⟩
  refine ⟨h1, h2.elim (fun q => ?_) _root_.id⟩
  rw [q]
  exact Znx (hne x h1)
 ·rintro ⟨h1, h2⟩
  exact ⟨h1, .inr h2⟩
theorem Z8h {a b c : List UInt8} (h1 : ¬ ltS b a) (h2 : ltS b c) : ltS a c := by
 rcases YZm.1 h1 with q | q
 ·subst q; exact h2
 ·exact zyr.tr q h2
theorem Told.page {A T C : List (List UInt8)} {d : List UInt8} (t : Told A T d) (hC : C.Pairwise ltS) (hne : ∀ x ∈ C, x ≠ []) (hAC : ∀ x ∈ A, x ∈ C) (n : Nat) :
  (T ++ (Q9V d C).take n).Pairwise ltS ∧ ((Q9V d C).length ≤ n → ∀ x ∈ A, x ∈ T ++ (Q9V d C).take n) ∧
  (∀ m, m < n → m + 1 = n → n ≤ (Q9V d C).length → Told A (T ++ (Q9V d C).take n) (((Q9V d C).take n).getD m [])) := by
 have hk : (Q9V d C).Pairwise ltS := hC.sublist List.filter_sublist
 have hP : ((Q9V d C).take n).Pairwise ltS := hk.sublist (List.take_sublist _ _)
 have hmem := fun x => XVf hne d x
 have hris : (T ++ (Q9V d C).take n).Pairwise ltS := by
  refine List.pairwise_append.2 ⟨t.ris, hP, fun a ha b hb => ?_⟩
  exact Z8h (t.up a ha) ((hmem b).1 (List.mem_of_mem_take hb)).2
 refine ⟨hris, fun hl x hx => ?_, fun m hm hmn hle => ?_⟩
 ·rw [List.take_of_length_le hl, List.mem_append]
  by_cases q : ltS d x
  ·exact .inr ((hmem x).2 ⟨hAC x hx, q⟩)
  ·exact .inl (t.all x hx q)
 ·have hl : ((Q9V d C).take n).length = n := by rw [List.length_take]; omega
  have hget : ∀ i, i < n → ((Q9V d C).take n).getD i [] = (Q9V d C).getD i [] := fun i hi => by
   rw [List.getD_eq_getElem?_getD, List.getD_eq_getElem?_getD, List.getElem?_take_of_lt hi]
  have hin : ((Q9V d C).take n).getD m [] ∈ (Q9V d C).take n := K83 (by omega)
  have hd := ((hmem _).1 (List.mem_of_mem_take hin)).2
  refine ⟨hris, fun x hx => ?_, fun x hx hlt => ?_⟩
  ·rcases List.mem_append.1 hx with q | q
   ·exact fun w => t.up x q (zyr.tr hd w)
   ·obtain ⟨i, hi, rfl⟩ := List.mem_iff_getElem.1 q
    intro w
    have e : ((Q9V d C).take n)[i] = ((Q9V d C).take n).getD i [] := by rw [List.getD_eq_getElem?_getD, List.getElem?_eq_getElem hi]; rfl
    rw [e] at w
    by_cases em : i = m
    ·subst em; exact zyr.irr _ w
    ·exact K3U w (qYV hP (by omega) (by omega))
  ·rw [List.mem_append]
   by_cases q : ltS d x
   ·refine .inr ?_
    have hx2 := (hmem x).2 ⟨hAC x hx, q⟩
    obtain ⟨i, hi, rfl⟩ := List.mem_iff_getElem.1 hx2
    have e : (Q9V d C)[i] = (Q9V d C).getD i [] := by rw [List.getD_eq_getElem?_getD, List.getElem?_eq_getElem hi]; rfl
    by_cases em : i < n
    ·rw [e, ← hget i em]; exact K83 (by omega)
    ·exfalso
     rw [e, hget m hm] at hlt
     exact hlt (qYV hk (by omega) hi)
   ·exact .inl (t.all x hx q)
noncomputable def EnvC : Env := ⟨[⟨5, Xne, fun _ => []⟩, ⟨10, JZx, fun _ => []⟩, ⟨26, Z6m, fun _ => []⟩, ⟨27, QlG, fun _ => []⟩, ⟨12, KjK, fun _ => []⟩, ⟨13, X7U, fun _ => []⟩, ⟨28, ztX, fun _ => []⟩, ⟨29, Zgk, fun _ => []⟩], []⟩
theorem zIM : EnvC.Ok Try.prog := ⟨⟨JtT, Y0D, KOB, XRg, Zc9, KHO, Zs2, zAn, trivial⟩, trivial⟩
def P0 : List Nat := [1, 1, 1, 1, 1, 1, 1, 0, 1, 2, 2, 1]
theorem Ktq {α : Type} {r : Row α} (l : List α) : (∀ id, apS r id l = .ns) ∨ (∀ id, apS r id l = rsl r id l) := by
 by_cases h : l.length = 0
 ·obtain rfl := List.eq_nil_of_length_eq_zero h
  exact .inl fun id => rfl
 ·exact .inr fun id => Kte _ h
theorem ZVm {h : List AB} (hz : h.map AB.freeze = h) (hh : HOk h) {sb : AV} (osb : sb.ok (fun i => decide (i < h.length)) = true) {A T' p : List (List UInt8)} (n : Nat) (more : Bool) (i : Nat) (hn : 1 ≤ n ∧ n ≤ 100) (hA : A.length ≤ 1000) (hT : T'.length ≤ 10000) (hi : i < 100)
  (hr : T'.Pairwise ltS) (h1 : more = false → ∀ x ∈ A, x ∈ T') (h2 : more = true → p.length = n ∧ ∀ x ∈ JB6 (p.getD (n - 1) []) A, x ∈ T') (hpl : p.length ≤ 100) (J : List AV → List AB → Prop) (k : List IT)
  (hJ : more = true → ∀ fr G, Bt Try.prog h.length fr (h ++ G) (tp 1 ++ [sb, .i .i64 n] ++ tp 4 ++ [.b true, apS strR (h.length + 0) A, apS strR (h.length + 1) T', .s (p.getD (n - 1) []), .i .i64 ((i + 1 : Nat) : Int)] ++ tp 95) (h ++ [resB strR true A, resB strR true T']) → J fr (h ++ G)) :
  W ⟨Try.prog, EnvC, false, h.length, Fin Try.prog h.length [RC.t 6] (.b true) h⟩ (.code (CC.at (P0 ++ [0, 2, 1, 1, 1, 1, 0, 1, 2]) w7.body) :: .blk 2 :: .code (CC.at (P0 ++ [0, 2, 1, 1, 1, 1, 1]) w7.body) :: .blk 1 :: .code (CC.at (P0 ++ [1]) w7.body) :: .lpe J :: k)
   (tp 1 ++ [sb, .i .i64 n] ++ tp 4 ++ [.b true, apS strR (h.length + 0) A, apS strR (h.length + 1) T'] ++ tp 1 ++ [.i .i64 i, rsl strR (h.length + 2) p, .b more] ++ tp 1 ++ [.i .i64 1] ++ tp 91) (h ++ [resB strR true A, resB strR true T', resB strR true p]) := by
 have fsb : ∀ c, sb.ok (fun i => decide (i < h.length + c)) = true := fun c => AV.ok_mono (fun i q => by simp only [decide_eq_true_eq] at q ⊢; omega) sb osb
 have frb : ∀ sel, Wk (sb.ren (selN h.length sel)) sb := fun sel => Wk.ren (fun i hi => ZVh hi) osb
 unfold w7 P0
 have l1 : (A.length ≤ maxLen) = True := eq_true (by unfold maxLen; omega)
 have l2 : (T'.length ≤ maxLen) = True := eq_true (by unfold maxLen; omega)
 have l3 : (A.length ≤ 100000) = True := eq_true (by omega)
 simp only [List.cons_append, List.nil_append, at_nil, at_0, at_1, at_b, at_l, tp_0, tp_s]
 refine zIs (S := Nat) (fun k => T'.length + 1 - k) (fun k => tp 1 ++ [sb, .i .i64 n] ++ tp 4 ++ [.b true, apS strR (h.length + 0) A, apS strR (h.length + 1) T'] ++ tp 1 ++ [.i .i64 i, rsl strR (h.length + 2) p, .b more] ++ tp 1 ++ [.i .i64 k] ++ tp 91) (fun _ => h ++ [resB strR true A, resB strR true T', resB strR true p]) (fun k => 1 ≤ k ∧ k ≤ T'.length + 1) 1 ⟨by omega, by omega⟩ (Bt.wk (by simp only [KtL, Kg0, if_true, if_false, reduceIte, Nat.reduceAdd, Nat.reduceSub, Nat.reduceLeDiff, Nat.reduceEqDiff, Nat.reduceMul, Nat.reduceLT, Int.reduceLT, Int.reduceLE, Int.reduceEq])) fun k hk => ?_
 obtain ⟨hk1, hk2⟩ := hk
 by_cases g1 : k < T'.length
 ·have g1' : ((k : Int) < (T'.length : Int)) = True := eq_true (by omega)
  have hT0 : T'.length ≠ 0 := by omega
  have gT : ∀ id, apS strR id T' = rsl strR id T' := fun id => Kte _ hT0
  have k1 : k - 1 < T'.length := by omega
  have ek : IntKind.i64.wrap ((k : Int) - 1) = ((k - 1 : Nat) : Int) := by rw [qfV (by unfold In64; omega)]; omega
  have ek2 : IntKind.i64.wrap ((k : Int) + 1) = ((k + 1 : Nat) : Int) := qfV (by unfold In64; omega)
  have hlt : ltS (T'.getD (k - 1) []) (T'.getD k []) = True := eq_true (qYV hr (by omega) g1)
  have ia := fun (id : Nat) (m : Int) => ZNU (r := strR) (sz := 1) rfl id T' .i64 m
  have ld1 := fun (L : List AB) (j : Nat) e => zlu (r := strR) (h := h) (sz := 1) rfl L j T' (k - 1) 0 e k1 Nat.zero_lt_one
  have ld2 := fun (L : List AB) (j : Nat) e => zlu (r := strR) (h := h) (sz := 1) rfl L j T' k 0 e g1 Nat.zero_lt_one
  have okE := fun (q : Nat → Bool) (id i : Nat) hq => XhQ (r := strR) q id 1 i 0 T' hq
  simp only [gT]
  simp only [QZz, KkX, KtL, KED, Kg0, if_true, if_false, ↓reduceIte, Nat.reduceAdd, Nat.reduceSub, Nat.reduceLeDiff, Nat.reduceEqDiff, Nat.reduceMul, Nat.reduceLT, Int.reduceLT, Int.reduceLE, Int.reduceEq, CO.tmps, Opd.tmps, optT, Nat.reducePow, Nat.reduceDiv, Nat.reduceMod, Xne, JZx, QlG, KjK, Z6m, X7U, Q7B, ztX, Zgk, qhS, ZC1, QSt, XnW, zkT, ZjM, Qyd, X20, q0u, qWD, Nat.zero_lt_one, Int.toNat_natCast, XqR, Ja7 hh, YNX hz, zzR hz, QDS hz, ne_eq, not_false_eq_true, not_true_eq_false, false_implies, forall_const, and_true, true_and, decide_true, decide_false, EnvC, g1', g1, k1, ek, ek2, hlt, ia, ld1, ld2, okE, gT]
  exact ⟨k + 1, ⟨by omega, by omega⟩, by dsimp only; omega, Bt.wk (by simp only [KtL, Kg0, if_true, if_false, reduceIte, Nat.reduceAdd, Nat.reduceSub, Nat.reduceLeDiff, Nat.reduceEqDiff, Nat.reduceMul, Nat.reduceLT, Int.reduceLT, Int.reduceLE, Int.reduceEq])⟩
 ·have g1' : ((k : Int) < (T'.length : Int)) = False := eq_false (by omega)
  cases more with
  | false =>
   have hall := decide_eq_true (h1 rfl)
   simp only [QZz, KkX, KtL, KED, Kg0, if_true, if_false, ↓reduceIte, Nat.reduceAdd, Nat.reduceSub, Nat.reduceLeDiff, Nat.reduceEqDiff, Nat.reduceMul, Nat.reduceLT, Int.reduceLT, Int.reduceLE, Int.reduceEq, CO.tmps, Opd.tmps, optT, Nat.reducePow, Nat.reduceDiv, Nat.reduceMod, Xne, JZx, QlG, KjK, Z6m, X7U, Q7B, ztX, Zgk, qhS, ZC1, QSt, XnW, zkT, ZjM, Qyd, X20, q0u, qWD, Nat.zero_lt_one, Int.toNat_natCast, XqR, Ja7 hh, YNX hz, zzR hz, QDS hz, ne_eq, not_false_eq_true, not_true_eq_false, false_implies, forall_const, and_true, true_and, decide_true, decide_false, EnvC, g1', l1, l2, l3, hall]
   exact Bt.dropB _ hh rfl
  | true =>
   obtain ⟨hp, hup⟩ := h2 rfl
   have hp0 : n - 1 < p.length := by omega
   have en : IntKind.i64.wrap ((p.length : Int) - 1) = ((n - 1 : Nat) : Int) := by rw [qfV (by unfold In64; omega)]; omega
   have ei : IntKind.i64.wrap ((i : Int) + 1) = ((i + 1 : Nat) : Int) := qfV (by unfold In64; omega)
   have ia := fun (id : Nat) (m : Int) => ZNU (r := strR) (sz := 1) rfl id p .i64 m
   have ld := fun (L : List AB) (j : Nat) e => zlu (r := strR) (h := h) (sz := 1) rfl L j p (n - 1) 0 e hp0 Nat.zero_lt_one
   have hall := decide_eq_true hup
   have ul : ((JB6 (p.getD (n - 1) []) A).length ≤ maxLen) = True := eq_true (by have := List.length_filter_le (fun x => decide (¬ ltS (p.getD (n - 1) []) x)) A; unfold JB6 maxLen; omega)
   simp only [QZz, KkX, KtL, KED, Kg0, if_true, if_false, ↓reduceIte, Nat.reduceAdd, Nat.reduceSub, Nat.reduceLeDiff, Nat.reduceEqDiff, Nat.reduceMul, Nat.reduceLT, Int.reduceLT, Int.reduceLE, Int.reduceEq, CO.tmps, Opd.tmps, optT, Nat.reducePow, Nat.reduceDiv, Nat.reduceMod, Xne, JZx, QlG, KjK, Z6m, X7U, Q7B, ztX, Zgk, qhS, ZC1, QSt, XnW, zkT, ZjM, Qyd, X20, q0u, qWD, Nat.zero_lt_one, Int.toNat_natCast, XqR, Ja7 hh, YNX hz, zzR hz, QDS hz, ne_eq, not_false_eq_true, not_true_eq_false, false_implies, forall_const, and_true, true_and, decide_true, decide_false, EnvC, g1', l1, l2, l3, hp0, en, ei, ia, ld, ul, hall, Bool.not_true, Bool.not_false]
   refine hJ rfl _ _ ?_
   rcases Ktq (r := strR) A with eA | eA <;> rcases Ktq (r := strR) T' with eT | eT <;> simp only [eA, eT, tp_0, tp_s, List.cons_append, List.nil_append] <;> exact Bt.sel [0, 1] hh (by decide) (by simp only [JsM, FrSel, BlkSel, AV.ren, renL, AV.ok, okL, Option.some.injEq, exists_eq_left', List.length_cons, List.length_nil, Nat.reduceAdd, Nat.reduceLT, reduceCtorEq, implies_true, exists_eq', fsb, frb]) (by simp only [JsM, FrSel, BlkSel, AV.ren, renL, AV.ok, okL, Option.some.injEq, exists_eq_left', List.length_cons, List.length_nil, Nat.reduceAdd, Nat.reduceLT, reduceCtorEq, implies_true, exists_eq', fsb, frb, X0K])
theorem Xt4 {h : List AB} (hz : h.map AB.freeze = h) {s sb : AV} {l : List (List UInt8)} {ss : List AV} {ls : List (List (List UInt8))} (hs : Rd strR h s l) (hb : Rd avR h sb ss)
  (hin : ∀ j, j < ss.length → Rd strR h (ss.getD j .ns) (ls.getD j []) ∧ (ss.getD j .ns).ok (fun i => decide (i < h.length)) = true) (m : Int) (hm : -9223372036854775808 ≤ m ∧ m ≤ 9223372036854775807) :
  FnAt Try.prog 7 [s, sb, .i .i64 m] h (.b true) h := by
 refine FnAt.run (by kernel_rfl) (T := EnvC) zIM Try.func7 sw7 fun ho hh => ?_
 simp only [Qlf, Bool.and_eq_true] at ho
 have f1 := hs.fx ho.1 (sz := 1) rfl
 have f2 := hb.fx ho.2.1 (sz := 1) rfl
 have osb := ho.2.1
 have fsb : ∀ c, sb.ok (fun i => decide (i < h.length + c)) = true := fun c => AV.ok_mono (fun i q => by simp only [decide_eq_true_eq] at q ⊢; omega) sb osb
 have frb : ∀ sel, Wk (sb.ren (selN h.length sel)) sb := fun sel => Wk.ren (fun i hi => ZVh hi) osb
 unfold w7
 by_cases hL : (30 : Int) < l.length ∨ ∃ x ∈ l, (40 : Int) < (x.length : Int)
 ·have g1 := eq_true hL
  simp only [QZz, KkX, KtL, KED, Kg0, if_true, if_false, ↓reduceIte, Nat.reduceAdd, Nat.reduceSub, Nat.reduceLeDiff, Nat.reduceEqDiff, Nat.reduceMul, Nat.reduceLT, Int.reduceLT, Int.reduceLE, Int.reduceEq, CO.tmps, Opd.tmps, optT, Nat.reducePow, Nat.reduceDiv, Nat.reduceMod, EnvC, f1, f2, JZx, Xne, g1]
  exact Bt.dropB _ hh rfl
 have g1 := eq_false hL
 have hl : l.length ≤ 30 := by
  have := fun q => hL (.inl q)
  omega
 by_cases hL2 : (12 : Int) < (ss.length : Int)
 ·have g2 := eq_true hL2
  simp only [QZz, KkX, KtL, KED, Kg0, if_true, if_false, ↓reduceIte, Nat.reduceAdd, Nat.reduceSub, Nat.reduceLeDiff, Nat.reduceEqDiff, Nat.reduceMul, Nat.reduceLT, Int.reduceLT, Int.reduceLE, Int.reduceEq, CO.tmps, Opd.tmps, optT, Nat.reducePow, Nat.reduceDiv, Nat.reduceMod, EnvC, f1, f2, JZx, Xne, g1, g2]
  exact Bt.dropB _ hh rfl
 have g2 := eq_false hL2
 have l1 : (l.length ≤ 100000) = True := eq_true (by omega)
 have hm' := eq_true hm
 have hk : ((1 : Int) + m % 100) = (((1 + m % 100).toNat : Nat) : Int) := by omega
 obtain ⟨n, hn⟩ : ∃ n : Nat, (1 + m % 100).toNat = n := ⟨_, rfl⟩
 have hn1 : 1 ≤ n ∧ n ≤ 100 := by omega
 have ew : IntKind.i64.wrap (1 + m % 100) = (n : Int) := by rw [qfV (by unfold In64; omega), hk, hn]
 simp only [QZz, KkX, KtL, KED, Kg0, if_true, if_false, ↓reduceIte, Nat.reduceAdd, Nat.reduceSub, Nat.reduceLeDiff, Nat.reduceEqDiff, Nat.reduceMul, Nat.reduceLT, Int.reduceLT, Int.reduceLE, Int.reduceEq, CO.tmps, Opd.tmps, optT, Nat.reducePow, Nat.reduceDiv, Nat.reduceMod, EnvC, f1, f2, JZx, Xne, Z6m, QlG, g1, g2, l1, hm', ew]
 obtain ⟨hr, hmem⟩ := zZR l
 have hne : ∀ x ∈ risL l, x ≠ [] := fun x hx => ((hmem x).1 hx).2
 have hA := qQM l
 generalize risL l = A at *
 have c1' : ((n : Int) < 1 ∨ 100 < (n : Int)) = False := eq_false (by omega)
 have la : (A.length ≤ 1000000) = True := eq_true (by omega)
 have lb : (A.length ≤ maxLen) = True := eq_true (by unfold maxLen; omega)
 have lc : (A.length ≤ 100000) = True := eq_true (by omega)
 refine zIs (S := Nat × List (List UInt8) × List UInt8) (fun σ => ss.length - σ.1) (fun σ => tp 1 ++ [sb, .i .i64 n] ++ tp 4 ++ [.b true, apS strR (h.length + 0) A, apS strR (h.length + 1) σ.2.1, .s σ.2.2, .i .i64 (σ.1 : Nat)] ++ tp 95) (fun σ => h ++ [resB strR true A, resB strR true σ.2.1]) (fun σ => σ.1 ≤ ss.length ∧ Told A σ.2.1 σ.2.2 ∧ σ.2.1.length ≤ 100 * σ.1) (0, [], []) ⟨Nat.zero_le _, ⟨List.Pairwise.nil, fun x hx => by simp at hx, fun x hx q => absurd (Znx (hne x hx)) q⟩, Nat.zero_le _⟩ ?_ fun σ hσ => ?_
 ·show Bt _ _ _ _ _ (h ++ ([resB strR true A] ++ List.replicate 1 .dead))
  rw [← List.append_assoc]
  refine Bt.trans (Bt.wk ?_) (Bt.pad _ _ 1)
  show WkL (tp 1 ++ [sb, .i .i64 n] ++ tp 4 ++ [.b true, apS strR (h.length + 0) A, .ns, .s [], .i .i64 (0 : Nat)] ++ tp 95) _
  simp only [KtL, Kg0, if_true, if_false, reduceIte, Nat.reduceAdd, Nat.reduceSub, Nat.reduceLeDiff, Nat.reduceEqDiff, Nat.reduceMul, Nat.reduceLT, Int.reduceLT, Int.reduceLE, Int.reduceEq]
 obtain ⟨i, T, d⟩ := σ
 obtain ⟨hi, hT, hTl⟩ := hσ
 dsimp only at hi hT hTl ⊢
 by_cases g3 : i < ss.length
 case neg =>
  have g3' : ((i : Int) < (ss.length : Int)) = False := eq_false (by omega)
  simp only [QZz, KkX, KtL, KED, Kg0, if_true, if_false, ↓reduceIte, Nat.reduceAdd, Nat.reduceSub, Nat.reduceLeDiff, Nat.reduceEqDiff, Nat.reduceMul, Nat.reduceLT, Int.reduceLT, Int.reduceLE, Int.reduceEq, CO.tmps, Opd.tmps, optT, Nat.reducePow, Nat.reduceDiv, Nat.reduceMod, EnvC, f1, f2, g3', false_implies, forall_const, and_true, true_and, not_true_eq_false, not_false_eq_true]
  exact Bt.dropB _ hh rfl
 have g3' : ((i : Int) < (ss.length : Int)) = True := eq_true (by omega)
 obtain ⟨hbi, obi⟩ := hin i g3
 generalize ls.getD i [] = bl at hbi
 obtain ⟨b, hbv⟩ : ∃ b, ss.getD i .ns = b := ⟨_, rfl⟩
 rw [hbv] at hbi obi
 have f3 := hbi.fx obi (sz := 1) rfl
 have f4 := fun x => hbi.src (sz := 1) rfl x
 have hl3 := hbi.2
 by_cases g4 : (20 : Int) < bl.length ∨ ∃ x ∈ bl, (40 : Int) < (x.length : Int)
 ·have g4' := eq_true g4
  simp only [QZz, KkX, KtL, KED, Kg0, if_true, if_false, ↓reduceIte, Nat.reduceAdd, Nat.reduceSub, Nat.reduceLeDiff, Nat.reduceEqDiff, Nat.reduceMul, Nat.reduceLT, Int.reduceLT, Int.reduceLE, Int.reduceEq, CO.tmps, Opd.tmps, optT, Nat.reducePow, Nat.reduceDiv, Nat.reduceMod, EnvC, f1, f2, f3, JZx, g3, g3', Qyd, X20, hbv, g4', Nat.zero_lt_one, false_implies, forall_const, and_true, true_and, not_true_eq_false, not_false_eq_true]
  exact Bt.dropB _ hh rfl
 have g4' := eq_false g4
 have hl4 : bl.length ≤ 20 := by
  have := fun q => g4 (.inl q)
  omega
 obtain ⟨hCr, hCm⟩ := zZR (A ++ bl)
 have hCne : ∀ x ∈ risL (A ++ bl), x ≠ [] := fun x hx => ((hCm x).1 hx).2
 have hCl := qQM (A ++ bl)
 rw [List.length_append] at hCl
 have hAC : ∀ x ∈ A, x ∈ risL (A ++ bl) := fun x hx => (hCm x).2 ⟨List.mem_append_left _ hx, hne x hx⟩
 clear hCm
 obtain ⟨C, hCe⟩ : ∃ C, risL (A ++ bl) = C := ⟨_, rfl⟩
 rw [hCe] at hCr hCne hCl hAC
 obtain ⟨p1, p2, p3⟩ := hT.page hCr hCne hAC n
 have c2' : risS C = True := eq_true (QGM hCr)
 have hrk : JIC C d (decide (¬ d = [])) = Q9V d C := Xr4 (QGM hCr) d
 have hkl : (Q9V d C).length ≤ C.length := List.length_filter_le _ _
 have l5 : (C.length ≤ 1000000) = True := eq_true (by omega)
 have l6 : (C.length ≤ maxLen) = True := eq_true (by unfold maxLen; omega)
 obtain ⟨p, hp⟩ : ∃ p, List.take n (Q9V d C) = p := ⟨_, rfl⟩
 have hpn : p.length = min n (Q9V d C).length := by rw [← hp, List.length_take]
 rw [hp] at p1 p2 p3
 have l7 : (p.length ≤ 1000000) = True := eq_true (by omega)
 have tail := fun (more : Bool) h1 h2 J k hJ => ZVm hz hh osb (A := A) (T' := T ++ p) (p := p) n more i hn1 (by omega) (by rw [List.length_append]; omega) (by omega) p1 h1 h2 (by omega) J k hJ
 have hup : n ≤ (Q9V d C).length → ∀ x ∈ JB6 (p.getD (n - 1) []) A, x ∈ T ++ p := fun hle x hx => by
  unfold JB6 at hx
  rw [List.mem_filter, decide_eq_true_eq] at hx
  exact (p3 (n - 1) (by omega) (by omega) hle).all x hx.1 hx.2
 by_cases hA0 : A = []
 ·subst hA0
  have gn : ∀ x : List AB, getS strR x .ns = some [] := fun x => (show Rd strR x .ns [] from ⟨rfl, Nat.zero_le _⟩).get
  have z0 : (0 : Nat) ≤ 1000000 := by decide
  have z1 : (0 : Nat) ≤ 100000 := by decide
  by_cases hb0 : bl = []
  ·subst hb0
   have hCe' : risL [] = C := hCe
   have gx : (∃ x, x ∈ ([] : List (List UInt8)) ∧ (40 : Int) < (x.length : Int)) = False := eq_false fun ⟨x, q, _⟩ => by simp at q
   have f4 : ∀ x, srcV (h ++ x) 1 b = some (0, []) := fun x => hbi.src (sz := 1) rfl x
   have ge : ∀ (x : List AB) id, getS strR x (.sl id 0 0 0 none) = some [] := fun x id => (Rd.mk0 (r := strR) (l := []) (h := x) rfl).get
   have sr := fun (L : List AB) k => qm2 (r := strR) (h := h) (sz := 1) rfl L k p
   obtain ⟨tv, G, hap, hcs⟩ := Yzz (h := h) (L := [resB strR true [], resB strR true T, .blk true true [], resB strR true C, resB strR true p]) (T := T) (p := p) 1 (by simp only [QnC, QwC]) (by omega)
   by_cases gm : n < (Q9V d C).length
   ·have gm' := eq_true gm
    have p0 : (p.length = 0) = False := eq_false (by omega)
    have p0i : ((p.length : Int) = 0) = False := eq_false (by omega)
    simp only [QZz, KkX, KtL, KED, Kg0, if_true, if_false, ↓reduceIte, Nat.reduceAdd, Nat.reduceSub, Nat.reduceLeDiff, Nat.reduceEqDiff, Nat.reduceMul, Nat.reduceLT, Int.reduceLT, Int.reduceLE, Int.reduceEq, CO.tmps, Opd.tmps, optT, Nat.reducePow, Nat.reduceDiv, Nat.reduceMod, Xne, JZx, QlG, KjK, Z6m, X7U, Q7B, ztX, Zgk, qhS, ZC1, QSt, XnW, zkT, ZjM, Qyd, X20, q0u, qWD, Nat.zero_lt_one, Int.toNat_natCast, XqR, Ja7 hh, YNX hz, zzR hz, QDS hz, ne_eq, not_false_eq_true, not_true_eq_false, false_implies, forall_const, and_true, true_and, decide_true, decide_false, EnvC, f1, f2, f3, f4, g3, g3', hbv, g4', c1', c2', hrk, la, lb, lc, l5, l6, l7, hCe, hp, XAf, gn, YtJ, List.length_nil, Nat.zero_le, ge, zqn, Kht, hCe', gx, z0, z1, eq_self, gm', p0, p0i, sr, hap]
    refine ZMO ?_ (tail true (fun q => by cases q) (fun _ => ⟨by omega, hup (by omega)⟩) _ _ fun q fr G hb => ⟨(i + 1, T ++ p, p.getD (n - 1) []), ⟨g3, p3 (n - 1) (by omega) (by omega) (by omega), by rw [List.length_append]; omega⟩, by dsimp only; omega, by simp only [tp_0, tp_s, List.cons_append, List.nil_append, YtJ] at hb; exact hb⟩)
    rcases hcs with ⟨q1, q2, q3⟩ | ⟨q0, q1, q2, q3⟩ | ⟨q0, q1, q2, q3⟩
    ·rw [q2, q3, show T ++ p = T by rw [q1, List.append_nil]]
     rcases Ktq (r := strR) T with eT | eT <;> simp only [eT, tp_0, tp_s, List.cons_append, List.nil_append, YzP, X21, YtJ] <;> exact Bt.sel [0, 1, 4] hh (by decide) (by simp only [JsM, FrSel, BlkSel, AV.ren, renL, AV.ok, okL, Option.some.injEq, exists_eq_left', List.length_cons, List.length_nil, Nat.reduceAdd, Nat.reduceLT, reduceCtorEq, implies_true, exists_eq', fsb, frb]) (by simp only [JsM, FrSel, BlkSel, AV.ren, renL, AV.ok, okL, Option.some.injEq, exists_eq_left', List.length_cons, List.length_nil, Nat.reduceAdd, Nat.reduceLT, reduceCtorEq, implies_true, exists_eq', fsb, frb, X0K, YtJ])
    ·have lp0 : p.length ≠ 0 := fun q => q0 (List.eq_nil_of_length_eq_zero q)
     have e1 : apS strR (h.length + 1) (T ++ p) = .sl (h.length + 1) 0 p.length p.length (some 1) := by
      rw [q1, List.nil_append]
      unfold apS
      rw [if_neg lp0]
      rfl
     have e2 : resB strR true (T ++ p) = .blk true true (strR.cells p) := by
      rw [q1, List.nil_append]
      unfold resB
      rw [if_neg lp0]
     rw [q2, q3, e1, e2]
     simp only [List.length_cons, List.length_nil, tp_0, tp_s, List.cons_append, List.nil_append, YzP, X21, YtJ]
     exact Bt.sel [0, 5, 4] hh (by decide) (by simp only [JsM, FrSel, BlkSel, AV.ren, renL, AV.ok, okL, Option.some.injEq, exists_eq_left', List.length_cons, List.length_nil, Nat.reduceAdd, Nat.reduceLT, reduceCtorEq, implies_true, exists_eq', fsb, frb]) (by simp only [JsM, FrSel, BlkSel, AV.ren, renL, AV.ok, okL, Option.some.injEq, exists_eq_left', List.length_cons, List.length_nil, Nat.reduceAdd, Nat.reduceLT, reduceCtorEq, implies_true, exists_eq', fsb, frb, X0K, YtJ])
    ·have lp0 : T.length + p.length ≠ 0 := fun q => q0 (List.eq_nil_of_length_eq_zero (by omega))
     have e1 : apS strR (h.length + 1) (T ++ p) = .sl (h.length + 1) 0 (T.length + p.length) (T.length + p.length) (some 1) := by
      unfold apS
      rw [List.length_append, if_neg lp0]
      rfl
     have e2 : resB strR true (T ++ p) = .blk true true (strR.cells T ++ strR.cells p) := by
      unfold resB
      rw [List.length_append, if_neg lp0, Qz3, Qz3, Qz3, List.map_append]
     rw [q2, q3, e1, e2]
     simp only [List.length_cons, List.length_nil, tp_0, tp_s, List.cons_append, List.nil_append, YzP, X21, YtJ]
     exact Bt.sel [0, 5, 4] hh (by decide) (by simp only [JsM, FrSel, BlkSel, AV.ren, renL, AV.ok, okL, Option.some.injEq, exists_eq_left', List.length_cons, List.length_nil, Nat.reduceAdd, Nat.reduceLT, reduceCtorEq, implies_true, exists_eq', fsb, frb]) (by simp only [JsM, FrSel, BlkSel, AV.ren, renL, AV.ok, okL, Option.some.injEq, exists_eq_left', List.length_cons, List.length_nil, Nat.reduceAdd, Nat.reduceLT, reduceCtorEq, implies_true, exists_eq', fsb, frb, X0K, YtJ])
   ·have gm' := eq_false gm
    simp only [QZz, KkX, KtL, KED, Kg0, if_true, if_false, ↓reduceIte, Nat.reduceAdd, Nat.reduceSub, Nat.reduceLeDiff, Nat.reduceEqDiff, Nat.reduceMul, Nat.reduceLT, Int.reduceLT, Int.reduceLE, Int.reduceEq, CO.tmps, Opd.tmps, optT, Nat.reducePow, Nat.reduceDiv, Nat.reduceMod, Xne, JZx, QlG, KjK, Z6m, X7U, Q7B, ztX, Zgk, qhS, ZC1, QSt, XnW, zkT, ZjM, Qyd, X20, q0u, qWD, Nat.zero_lt_one, Int.toNat_natCast, XqR, Ja7 hh, YNX hz, zzR hz, QDS hz, ne_eq, not_false_eq_true, not_true_eq_false, false_implies, forall_const, and_true, true_and, decide_true, decide_false, EnvC, f1, f2, f3, f4, g3, g3', hbv, g4', c1', c2', hrk, la, lb, lc, l5, l6, l7, hCe, hp, XAf, gn, YtJ, List.length_nil, Nat.zero_le, ge, zqn, Kht, hCe', gx, z0, z1, eq_self, gm', sr, hap]
    refine ZMO ?_ (tail false (fun _ => p2 (by omega)) (fun q => by cases q) _ _ fun q fr G hb => by cases q)
    rcases hcs with ⟨q1, q2, q3⟩ | ⟨q0, q1, q2, q3⟩ | ⟨q0, q1, q2, q3⟩
    ·rw [q2, q3, show T ++ p = T by rw [q1, List.append_nil]]
     rcases Ktq (r := strR) T with eT | eT <;> simp only [eT, tp_0, tp_s, List.cons_append, List.nil_append, YzP, X21, YtJ] <;> exact Bt.sel [0, 1, 4] hh (by decide) (by simp only [JsM, FrSel, BlkSel, AV.ren, renL, AV.ok, okL, Option.some.injEq, exists_eq_left', List.length_cons, List.length_nil, Nat.reduceAdd, Nat.reduceLT, reduceCtorEq, implies_true, exists_eq', fsb, frb]) (by simp only [JsM, FrSel, BlkSel, AV.ren, renL, AV.ok, okL, Option.some.injEq, exists_eq_left', List.length_cons, List.length_nil, Nat.reduceAdd, Nat.reduceLT, reduceCtorEq, implies_true, exists_eq', fsb, frb, X0K, YtJ])
    ·have lp0 : p.length ≠ 0 := fun q => q0 (List.eq_nil_of_length_eq_zero q)
     have e1 : apS strR (h.length + 1) (T ++ p) = .sl (h.length + 1) 0 p.length p.length (some 1) := by
      rw [q1, List.nil_append]
      unfold apS
      rw [if_neg lp0]
      rfl
     have e2 : resB strR true (T ++ p) = .blk true true (strR.cells p) := by
      rw [q1, List.nil_append]
      unfold resB
      rw [if_neg lp0]
     rw [q2, q3, e1, e2]
     simp only [List.length_cons, List.length_nil, tp_0, tp_s, List.cons_append, List.nil_append, YzP, X21, YtJ]
     exact Bt.sel [0, 5, 4] hh (by decide) (by simp only [JsM, FrSel, BlkSel, AV.ren, renL, AV.ok, okL, Option.some.injEq, exists_eq_left', List.length_cons, List.length_nil, Nat.reduceAdd, Nat.reduceLT, reduceCtorEq, implies_true, exists_eq', fsb, frb]) (by simp only [JsM, FrSel, BlkSel, AV.ren, renL, AV.ok, okL, Option.some.injEq, exists_eq_left', List.length_cons, List.length_nil, Nat.reduceAdd, Nat.reduceLT, reduceCtorEq, implies_true, exists_eq', fsb, frb, X0K, YtJ])
    ·have lp0 : T.length + p.length ≠ 0 := fun q => q0 (List.eq_nil_of_length_eq_zero (by omega))
     have e1 : apS strR (h.length + 1) (T ++ p) = .sl (h.length + 1) 0 (T.length + p.length) (T.length + p.length) (some 1) := by
      unfold apS
      rw [List.length_append, if_neg lp0]
      rfl
     have e2 : resB strR true (T ++ p) = .blk true true (strR.cells T ++ strR.cells p) := by
      unfold resB
      rw [List.length_append, if_neg lp0, Qz3, Qz3, Qz3, List.map_append]
     rw [q2, q3, e1, e2]
     simp only [List.length_cons, List.length_nil, tp_0, tp_s, List.cons_append, List.nil_append, YzP, X21, YtJ]
     exact Bt.sel [0, 5, 4] hh (by decide) (by simp only [JsM, FrSel, BlkSel, AV.ren, renL, AV.ok, okL, Option.some.injEq, exists_eq_left', List.length_cons, List.length_nil, Nat.reduceAdd, Nat.reduceLT, reduceCtorEq, implies_true, exists_eq', fsb, frb]) (by simp only [JsM, FrSel, BlkSel, AV.ren, renL, AV.ok, okL, Option.some.injEq, exists_eq_left', List.length_cons, List.length_nil, Nat.reduceAdd, Nat.reduceLT, reduceCtorEq, implies_true, exists_eq', fsb, frb, X0K, YtJ])
  ·have hlb : bl.length ≠ 0 := fun q => hb0 (List.eq_nil_of_length_eq_zero q)
   have hCe' : risL bl = C := hCe
   have zb : (bl.length * 16 ≤ 140737488355328) = True := eq_true (by omega)
   have fa := fun (L : List AB) k hb hx => z6n (h := h) L k 0 1 16 bl.length (strR.cells bl) hb hx (by omega) (by omega) (by unfold maxLen; omega)
   have gs : ∀ id, AV.sl id 0 bl.length bl.length (some 1) = rsl strR id bl := fun id => by unfold rsl; rw [if_neg hlb]; rfl
   have gb : AB.blk true true (strR.cells bl) = resB strR true bl := by unfold resB; rw [if_neg hlb]
   have lab : (bl.length ≤ 100000) = True := eq_true (by omega)
   have lab2 : (bl.length ≤ maxLen) = True := eq_true (by unfold maxLen; omega)
   have hnz : (bl.length = 0) = False := eq_false hlb
   have sr := fun (L : List AB) k => qm2 (r := strR) (h := h) (sz := 1) rfl L k p
   obtain ⟨tv, G, hap, hcs⟩ := Yzz (h := h) (L := [resB strR true [], resB strR true T, .blk true true [], resB strR true bl, resB strR true C, resB strR true p]) (T := T) (p := p) 1 (by simp only [QnC, QwC]) (by omega)
   by_cases gm : n < (Q9V d C).length
   ·have gm' := eq_true gm
    have p0 : (p.length = 0) = False := eq_false (by omega)
    have p0i : ((p.length : Int) = 0) = False := eq_false (by omega)
    simp only [QZz, KkX, KtL, KED, Kg0, if_true, if_false, ↓reduceIte, Nat.reduceAdd, Nat.reduceSub, Nat.reduceLeDiff, Nat.reduceEqDiff, Nat.reduceMul, Nat.reduceLT, Int.reduceLT, Int.reduceLE, Int.reduceEq, CO.tmps, Opd.tmps, optT, Nat.reducePow, Nat.reduceDiv, Nat.reduceMod, Xne, JZx, QlG, KjK, Z6m, X7U, Q7B, ztX, Zgk, qhS, ZC1, QSt, XnW, zkT, ZjM, Qyd, X20, q0u, qWD, Nat.zero_lt_one, Int.toNat_natCast, XqR, Ja7 hh, YNX hz, zzR hz, QDS hz, ne_eq, not_false_eq_true, not_true_eq_false, false_implies, forall_const, and_true, true_and, decide_true, decide_false, EnvC, f1, f2, f3, f4, g3, g3', hbv, g4', c1', c2', hrk, la, lb, lc, l5, l6, l7, hCe, hp, XAf, gn, YtJ, List.length_nil, Nat.zero_le, fa, gs, gb, zb, lab, lab2, hnz, Nat.zero_add, List.nil_append, hCe', z0, z1, eq_self, KzV, X5K, QCT, XoX, Nat.zero_mul, gm', p0, p0i, sr, hap]
    refine ZMO ?_ (tail true (fun q => by cases q) (fun _ => ⟨by omega, hup (by omega)⟩) _ _ fun q fr G hb => ⟨(i + 1, T ++ p, p.getD (n - 1) []), ⟨g3, p3 (n - 1) (by omega) (by omega) (by omega), by rw [List.length_append]; omega⟩, by dsimp only; omega, by simp only [tp_0, tp_s, List.cons_append, List.nil_append, YtJ] at hb; exact hb⟩)
    rcases hcs with ⟨q1, q2, q3⟩ | ⟨q0, q1, q2, q3⟩ | ⟨q0, q1, q2, q3⟩
    ·rw [q2, q3, show T ++ p = T by rw [q1, List.append_nil]]
     rcases Ktq (r := strR) T with eT | eT <;> simp only [eT, tp_0, tp_s, List.cons_append, List.nil_append, YzP, X21, YtJ] <;> exact Bt.sel [0, 1, 5] hh (by decide) (by simp only [JsM, FrSel, BlkSel, AV.ren, renL, AV.ok, okL, Option.some.injEq, exists_eq_left', List.length_cons, List.length_nil, Nat.reduceAdd, Nat.reduceLT, reduceCtorEq, implies_true, exists_eq', fsb, frb]) (by simp only [JsM, FrSel, BlkSel, AV.ren, renL, AV.ok, okL, Option.some.injEq, exists_eq_left', List.length_cons, List.length_nil, Nat.reduceAdd, Nat.reduceLT, reduceCtorEq, implies_true, exists_eq', fsb, frb, X0K, YtJ])
    ·have lp0 : p.length ≠ 0 := fun q => q0 (List.eq_nil_of_length_eq_zero q)
     have e1 : apS strR (h.length + 1) (T ++ p) = .sl (h.length + 1) 0 p.length p.length (some 1) := by
      rw [q1, List.nil_append]
      unfold apS
      rw [if_neg lp0]
      rfl
     have e2 : resB strR true (T ++ p) = .blk true true (strR.cells p) := by
      rw [q1, List.nil_append]
      unfold resB
      rw [if_neg lp0]
     rw [q2, q3, e1, e2]
     simp only [List.length_cons, List.length_nil, tp_0, tp_s, List.cons_append, List.nil_append, YzP, X21, YtJ]
     exact Bt.sel [0, 6, 5] hh (by decide) (by simp only [JsM, FrSel, BlkSel, AV.ren, renL, AV.ok, okL, Option.some.injEq, exists_eq_left', List.length_cons, List.length_nil, Nat.reduceAdd, Nat.reduceLT, reduceCtorEq, implies_true, exists_eq', fsb, frb]) (by simp only [JsM, FrSel, BlkSel, AV.ren, renL, AV.ok, okL, Option.some.injEq, exists_eq_left', List.length_cons, List.length_nil, Nat.reduceAdd, Nat.reduceLT, reduceCtorEq, implies_true, exists_eq', fsb, frb, X0K, YtJ])
    ·have lp0 : T.length + p.length ≠ 0 := fun q => q0 (List.eq_nil_of_length_eq_zero (by omega))
     have e1 : apS strR (h.length + 1) (T ++ p) = .sl (h.length + 1) 0 (T.length + p.length) (T.length + p.length) (some 1) := by
      unfold apS
      rw [List.length_append, if_neg lp0]
      rfl
     have e2 : resB strR true (T ++ p) = .blk true true (strR.cells T ++ strR.cells p) := by
      unfold resB
      rw [List.length_append, if_neg lp0, Qz3, Qz3, Qz3, List.map_append]
     rw [q2, q3, e1, e2]
     simp only [List.length_cons, List.length_nil, tp_0, tp_s, List.cons_append, List.nil_append, YzP, X21, YtJ]
     exact Bt.sel [0, 6, 5] hh (by decide) (by simp only [JsM, FrSel, BlkSel, AV.ren, renL, AV.ok, okL, Option.some.injEq, exists_eq_left', List.length_cons, List.length_nil, Nat.reduceAdd, Nat.reduceLT, reduceCtorEq, implies_true, exists_eq', fsb, frb]) (by simp only [JsM, FrSel, BlkSel, AV.ren, renL, AV.ok, okL, Option.some.injEq, exists_eq_left', List.length_cons, List.length_nil, Nat.reduceAdd, Nat.reduceLT, reduceCtorEq, implies_true, exists_eq', fsb, frb, X0K, YtJ])
   ·have gm' := eq_false gm
    simp only [QZz, KkX, KtL, KED, Kg0, if_true, if_false, ↓reduceIte, Nat.reduceAdd, Nat.reduceSub, Nat.reduceLeDiff, Nat.reduceEqDiff, Nat.reduceMul, Nat.reduceLT, Int.reduceLT, Int.reduceLE, Int.reduceEq, CO.tmps, Opd.tmps, optT, Nat.reducePow, Nat.reduceDiv, Nat.reduceMod, Xne, JZx, QlG, KjK, Z6m, X7U, Q7B, ztX, Zgk, qhS, ZC1, QSt, XnW, zkT, ZjM, Qyd, X20, q0u, qWD, Nat.zero_lt_one, Int.toNat_natCast, XqR, Ja7 hh, YNX hz, zzR hz, QDS hz, ne_eq, not_false_eq_true, not_true_eq_false, false_implies, forall_const, and_true, true_and, decide_true, decide_false, EnvC, f1, f2, f3, f4, g3, g3', hbv, g4', c1', c2', hrk, la, lb, lc, l5, l6, l7, hCe, hp, XAf, gn, YtJ, List.length_nil, Nat.zero_le, fa, gs, gb, zb, lab, lab2, hnz, Nat.zero_add, List.nil_append, hCe', z0, z1, eq_self, KzV, X5K, QCT, XoX, Nat.zero_mul, gm', sr, hap]
    refine ZMO ?_ (tail false (fun _ => p2 (by omega)) (fun q => by cases q) _ _ fun q fr G hb => by cases q)
    rcases hcs with ⟨q1, q2, q3⟩ | ⟨q0, q1, q2, q3⟩ | ⟨q0, q1, q2, q3⟩
    ·rw [q2, q3, show T ++ p = T by rw [q1, List.append_nil]]
     rcases Ktq (r := strR) T with eT | eT <;> simp only [eT, tp_0, tp_s, List.cons_append, List.nil_append, YzP, X21, YtJ] <;> exact Bt.sel [0, 1, 5] hh (by decide) (by simp only [JsM, FrSel, BlkSel, AV.ren, renL, AV.ok, okL, Option.some.injEq, exists_eq_left', List.length_cons, List.length_nil, Nat.reduceAdd, Nat.reduceLT, reduceCtorEq, implies_true, exists_eq', fsb, frb]) (by simp only [JsM, FrSel, BlkSel, AV.ren, renL, AV.ok, okL, Option.some.injEq, exists_eq_left', List.length_cons, List.length_nil, Nat.reduceAdd, Nat.reduceLT, reduceCtorEq, implies_true, exists_eq', fsb, frb, X0K, YtJ])
    ·have lp0 : p.length ≠ 0 := fun q => q0 (List.eq_nil_of_length_eq_zero q)
     have e1 : apS strR (h.length + 1) (T ++ p) = .sl (h.length + 1) 0 p.length p.length (some 1) := by
      rw [q1, List.nil_append]
      unfold apS
      rw [if_neg lp0]
      rfl
     have e2 : resB strR true (T ++ p) = .blk true true (strR.cells p) := by
      rw [q1, List.nil_append]
      unfold resB
      rw [if_neg lp0]
     rw [q2, q3, e1, e2]
     simp only [List.length_cons, List.length_nil, tp_0, tp_s, List.cons_append, List.nil_append, YzP, X21, YtJ]
     exact Bt.sel [0, 6, 5] hh (by decide) (by simp only [JsM, FrSel, BlkSel, AV.ren, renL, AV.ok, okL, Option.some.injEq, exists_eq_left', List.length_cons, List.length_nil, Nat.reduceAdd, Nat.reduceLT, reduceCtorEq, implies_true, exists_eq', fsb, frb]) (by simp only [JsM, FrSel, BlkSel, AV.ren, renL, AV.ok, okL, Option.some.injEq, exists_eq_left', List.length_cons, List.length_nil, Nat.reduceAdd, Nat.reduceLT, reduceCtorEq, implies_true, exists_eq', fsb, frb, X0K, YtJ])
    ·have lp0 : T.length + p.length ≠ 0 := fun q => q0 (List.eq_nil_of_length_eq_zero (by omega))
     have e1 : apS strR (h.length + 1) (T ++ p) = .sl (h.length + 1) 0 (T.length + p.length) (T.length + p.length) (some 1) := by
      unfold apS
      rw [List.length_append, if_neg lp0]
      rfl
     have e2 : resB strR true (T ++ p) = .blk true true (strR.cells T ++ strR.cells p) := by
      unfold resB
      rw [List.length_append, if_neg lp0, Qz3, Qz3, Qz3, List.map_append]
     rw [q2, q3, e1, e2]
     simp only [List.length_cons, List.length_nil, tp_0, tp_s, List.cons_append, List.nil_append, YzP, X21, YtJ]
     exact Bt.sel [0, 6, 5] hh (by decide) (by simp only [JsM, FrSel, BlkSel, AV.ren, renL, AV.ok, okL, Option.some.injEq, exists_eq_left', List.length_cons, List.length_nil, Nat.reduceAdd, Nat.reduceLT, reduceCtorEq, implies_true, exists_eq', fsb, frb]) (by simp only [JsM, FrSel, BlkSel, AV.ren, renL, AV.ok, okL, Option.some.injEq, exists_eq_left', List.length_cons, List.length_nil, Nat.reduceAdd, Nat.reduceLT, reduceCtorEq, implies_true, exists_eq', fsb, frb, X0K, YtJ])
 ·have hlA : A.length ≠ 0 := fun q => hA0 (List.eq_nil_of_length_eq_zero q)
  have gA : ∀ id, apS strR id A = rsl strR id A := fun id => Kte _ hlA
  have hA0' := eq_false hA0
  by_cases hb0 : bl = []
  ·subst hb0
   have hCe' : risL A = C := by rw [← hCe, List.append_nil]
   have f4 : ∀ x, srcV (h ++ x) 1 b = some (0, []) := fun x => hbi.src (sz := 1) rfl x
   have fm : ∀ H id, appW H true 1 16 (rsl strR id A) 0 [] = some (rsl strR id A, H) := fun H id => by
    unfold rsl
    rw [if_neg hlA]
    exact zqn _ _ _ _ _ _ _ _ _ _
   have sr := fun (L : List AB) k => qm2 (r := strR) (h := h) (sz := 1) rfl L k p
   obtain ⟨tv, G, hap, hcs⟩ := Yzz (h := h) (L := [resB strR true A, resB strR true T, resB strR true A, resB strR true C, resB strR true p]) (T := T) (p := p) 1 (by simp only [QnC, QwC]) (by omega)
   by_cases gm : n < (Q9V d C).length
   ·have gm' := eq_true gm
    have p0 : (p.length = 0) = False := eq_false (by omega)
    have p0i : ((p.length : Int) = 0) = False := eq_false (by omega)
    simp only [QZz, KkX, KtL, KED, Kg0, if_true, if_false, ↓reduceIte, Nat.reduceAdd, Nat.reduceSub, Nat.reduceLeDiff, Nat.reduceEqDiff, Nat.reduceMul, Nat.reduceLT, Int.reduceLT, Int.reduceLE, Int.reduceEq, CO.tmps, Opd.tmps, optT, Nat.reducePow, Nat.reduceDiv, Nat.reduceMod, Xne, JZx, QlG, KjK, Z6m, X7U, Q7B, ztX, Zgk, qhS, ZC1, QSt, XnW, zkT, ZjM, Qyd, X20, q0u, qWD, Nat.zero_lt_one, Int.toNat_natCast, XqR, Ja7 hh, YNX hz, zzR hz, QDS hz, ne_eq, not_false_eq_true, not_true_eq_false, false_implies, forall_const, and_true, true_and, decide_true, decide_false, EnvC, f1, f2, f3, f4, g3, g3', hbv, g4', c1', c2', hrk, la, lb, lc, l5, l6, l7, hCe, hp, XAf, gA, hA0', fm, Kht, hCe', gm', p0, p0i, sr, hap]
    refine ZMO ?_ (tail true (fun q => by cases q) (fun _ => ⟨by omega, hup (by omega)⟩) _ _ fun q fr G hb => ⟨(i + 1, T ++ p, p.getD (n - 1) []), ⟨g3, p3 (n - 1) (by omega) (by omega) (by omega), by rw [List.length_append]; omega⟩, by dsimp only; omega, by simp only [tp_0, tp_s, List.cons_append, List.nil_append, gA] at hb; exact hb⟩)
    rcases hcs with ⟨q1, q2, q3⟩ | ⟨q0, q1, q2, q3⟩ | ⟨q0, q1, q2, q3⟩
    ·rw [q2, q3, show T ++ p = T by rw [q1, List.append_nil]]
     rcases Ktq (r := strR) T with eT | eT <;> simp only [eT, tp_0, tp_s, List.cons_append, List.nil_append, YzP, X21, gA] <;> exact Bt.sel [0, 1, 4] hh (by decide) (by simp only [JsM, FrSel, BlkSel, AV.ren, renL, AV.ok, okL, Option.some.injEq, exists_eq_left', List.length_cons, List.length_nil, Nat.reduceAdd, Nat.reduceLT, reduceCtorEq, implies_true, exists_eq', fsb, frb]) (by simp only [JsM, FrSel, BlkSel, AV.ren, renL, AV.ok, okL, Option.some.injEq, exists_eq_left', List.length_cons, List.length_nil, Nat.reduceAdd, Nat.reduceLT, reduceCtorEq, implies_true, exists_eq', fsb, frb, X0K, gA])
    ·have lp0 : p.length ≠ 0 := fun q => q0 (List.eq_nil_of_length_eq_zero q)
     have e1 : apS strR (h.length + 1) (T ++ p) = .sl (h.length + 1) 0 p.length p.length (some 1) := by
      rw [q1, List.nil_append]
      unfold apS
      rw [if_neg lp0]
      rfl
     have e2 : resB strR true (T ++ p) = .blk true true (strR.cells p) := by
      rw [q1, List.nil_append]
      unfold resB
      rw [if_neg lp0]
     rw [q2, q3, e1, e2]
     simp only [List.length_cons, List.length_nil, tp_0, tp_s, List.cons_append, List.nil_append, YzP, X21, gA]
     exact Bt.sel [0, 5, 4] hh (by decide) (by simp only [JsM, FrSel, BlkSel, AV.ren, renL, AV.ok, okL, Option.some.injEq, exists_eq_left', List.length_cons, List.length_nil, Nat.reduceAdd, Nat.reduceLT, reduceCtorEq, implies_true, exists_eq', fsb, frb]) (by simp only [JsM, FrSel, BlkSel, AV.ren, renL, AV.ok, okL, Option.some.injEq, exists_eq_left', List.length_cons, List.length_nil, Nat.reduceAdd, Nat.reduceLT, reduceCtorEq, implies_true, exists_eq', fsb, frb, X0K, gA])
    ·have lp0 : T.length + p.length ≠ 0 := fun q => q0 (List.eq_nil_of_length_eq_zero (by omega))
     have e1 : apS strR (h.length + 1) (T ++ p) = .sl (h.length + 1) 0 (T.length + p.length) (T.length + p.length) (some 1) := by
      unfold apS
      rw [List.length_append, if_neg lp0]
      rfl
     have e2 : resB strR true (T ++ p) = .blk true true (strR.cells T ++ strR.cells p) := by
      unfold resB
      rw [List.length_append, if_neg lp0, Qz3, Qz3, Qz3, List.map_append]
     rw [q2, q3, e1, e2]
     simp only [List.length_cons, List.length_nil, tp_0, tp_s, List.cons_append, List.nil_append, YzP, X21, gA]
     exact Bt.sel [0, 5, 4] hh (by decide) (by simp only [JsM, FrSel, BlkSel, AV.ren, renL, AV.ok, okL, Option.some.injEq, exists_eq_left', List.length_cons, List.length_nil, Nat.reduceAdd, Nat.reduceLT, reduceCtorEq, implies_true, exists_eq', fsb, frb]) (by simp only [JsM, FrSel, BlkSel, AV.ren, renL, AV.ok, okL, Option.some.injEq, exists_eq_left', List.length_cons, List.length_nil, Nat.reduceAdd, Nat.reduceLT, reduceCtorEq, implies_true, exists_eq', fsb, frb, X0K, gA])
   ·have gm' := eq_false gm
    simp only [QZz, KkX, KtL, KED, Kg0, if_true, if_false, ↓reduceIte, Nat.reduceAdd, Nat.reduceSub, Nat.reduceLeDiff, Nat.reduceEqDiff, Nat.reduceMul, Nat.reduceLT, Int.reduceLT, Int.reduceLE, Int.reduceEq, CO.tmps, Opd.tmps, optT, Nat.reducePow, Nat.reduceDiv, Nat.reduceMod, Xne, JZx, QlG, KjK, Z6m, X7U, Q7B, ztX, Zgk, qhS, ZC1, QSt, XnW, zkT, ZjM, Qyd, X20, q0u, qWD, Nat.zero_lt_one, Int.toNat_natCast, XqR, Ja7 hh, YNX hz, zzR hz, QDS hz, ne_eq, not_false_eq_true, not_true_eq_false, false_implies, forall_const, and_true, true_and, decide_true, decide_false, EnvC, f1, f2, f3, f4, g3, g3', hbv, g4', c1', c2', hrk, la, lb, lc, l5, l6, l7, hCe, hp, XAf, gA, hA0', fm, Kht, hCe', gm', sr, hap]
    refine ZMO ?_ (tail false (fun _ => p2 (by omega)) (fun q => by cases q) _ _ fun q fr G hb => by cases q)
    rcases hcs with ⟨q1, q2, q3⟩ | ⟨q0, q1, q2, q3⟩ | ⟨q0, q1, q2, q3⟩
    ·rw [q2, q3, show T ++ p = T by rw [q1, List.append_nil]]
     rcases Ktq (r := strR) T with eT | eT <;> simp only [eT, tp_0, tp_s, List.cons_append, List.nil_append, YzP, X21, gA] <;> exact Bt.sel [0, 1, 4] hh (by decide) (by simp only [JsM, FrSel, BlkSel, AV.ren, renL, AV.ok, okL, Option.some.injEq, exists_eq_left', List.length_cons, List.length_nil, Nat.reduceAdd, Nat.reduceLT, reduceCtorEq, implies_true, exists_eq', fsb, frb]) (by simp only [JsM, FrSel, BlkSel, AV.ren, renL, AV.ok, okL, Option.some.injEq, exists_eq_left', List.length_cons, List.length_nil, Nat.reduceAdd, Nat.reduceLT, reduceCtorEq, implies_true, exists_eq', fsb, frb, X0K, gA])
    ·have lp0 : p.length ≠ 0 := fun q => q0 (List.eq_nil_of_length_eq_zero q)
     have e1 : apS strR (h.length + 1) (T ++ p) = .sl (h.length + 1) 0 p.length p.length (some 1) := by
      rw [q1, List.nil_append]
      unfold apS
      rw [if_neg lp0]
      rfl
     have e2 : resB strR true (T ++ p) = .blk true true (strR.cells p) := by
      rw [q1, List.nil_append]
      unfold resB
      rw [if_neg lp0]
     rw [q2, q3, e1, e2]
     simp only [List.length_cons, List.length_nil, tp_0, tp_s, List.cons_append, List.nil_append, YzP, X21, gA]
     exact Bt.sel [0, 5, 4] hh (by decide) (by simp only [JsM, FrSel, BlkSel, AV.ren, renL, AV.ok, okL, Option.some.injEq, exists_eq_left', List.length_cons, List.length_nil, Nat.reduceAdd, Nat.reduceLT, reduceCtorEq, implies_true, exists_eq', fsb, frb]) (by simp only [JsM, FrSel, BlkSel, AV.ren, renL, AV.ok, okL, Option.some.injEq, exists_eq_left', List.length_cons, List.length_nil, Nat.reduceAdd, Nat.reduceLT, reduceCtorEq, implies_true, exists_eq', fsb, frb, X0K, gA])
    ·have lp0 : T.length + p.length ≠ 0 := fun q => q0 (List.eq_nil_of_length_eq_zero (by omega))
     have e1 : apS strR (h.length + 1) (T ++ p) = .sl (h.length + 1) 0 (T.length + p.length) (T.length + p.length) (some 1) := by
      unfold apS
      rw [List.length_append, if_neg lp0]
      rfl
     have e2 : resB strR true (T ++ p) = .blk true true (strR.cells T ++ strR.cells p) := by
      unfold resB
      rw [List.length_append, if_neg lp0, Qz3, Qz3, Qz3, List.map_append]
     rw [q2, q3, e1, e2]
     simp only [List.length_cons, List.length_nil, tp_0, tp_s, List.cons_append, List.nil_append, YzP, X21, gA]
     exact Bt.sel [0, 5, 4] hh (by decide) (by simp only [JsM, FrSel, BlkSel, AV.ren, renL, AV.ok, okL, Option.some.injEq, exists_eq_left', List.length_cons, List.length_nil, Nat.reduceAdd, Nat.reduceLT, reduceCtorEq, implies_true, exists_eq', fsb, frb]) (by simp only [JsM, FrSel, BlkSel, AV.ren, renL, AV.ok, okL, Option.some.injEq, exists_eq_left', List.length_cons, List.length_nil, Nat.reduceAdd, Nat.reduceLT, reduceCtorEq, implies_true, exists_eq', fsb, frb, X0K, gA])
  ·have hlb : bl.length ≠ 0 := fun q => hb0 (List.eq_nil_of_length_eq_zero q)
   have fa := fun L k ys hb => zWD (h := h) (p := h.length) rfl (r := strR) (sz := 1) rfl L k A 16 bl.length ys hlA hb hlb (by omega) (by unfold maxLen; omega)
   have eC : strR.cells A ++ strR.cells bl = strR.cells (A ++ bl) := by rw [Qz3, Qz3, Qz3, ← List.map_append]
   have gs : ∀ id, AV.sl id 0 (A.length + bl.length) (A.length + bl.length) (some 1) = rsl strR id (A ++ bl) := fun id => by unfold rsl; rw [List.length_append, if_neg (by omega)]; rfl
   have gb : AB.blk true true (strR.cells (A ++ bl)) = resB strR true (A ++ bl) := by unfold resB; rw [List.length_append, if_neg (by omega)]
   have lab : ((A ++ bl).length ≤ 100000) = True := eq_true (by rw [List.length_append]; omega)
   have lab2 : ((A ++ bl).length ≤ maxLen) = True := eq_true (by rw [List.length_append]; unfold maxLen; omega)
   have hnz : (bl.length = 0) = False := eq_false hlb
   have sr := fun (L : List AB) k => qm2 (r := strR) (h := h) (sz := 1) rfl L k p
   obtain ⟨tv, G, hap, hcs⟩ := Yzz (h := h) (L := [resB strR true A, resB strR true T, .dead, resB strR true (A ++ bl), resB strR true C, resB strR true p]) (T := T) (p := p) 1 (by simp only [QnC, QwC]) (by omega)
   by_cases gm : n < (Q9V d C).length
   ·have gm' := eq_true gm
    have p0 : (p.length = 0) = False := eq_false (by omega)
    have p0i : ((p.length : Int) = 0) = False := eq_false (by omega)
    simp only [QZz, KkX, KtL, KED, Kg0, if_true, if_false, ↓reduceIte, Nat.reduceAdd, Nat.reduceSub, Nat.reduceLeDiff, Nat.reduceEqDiff, Nat.reduceMul, Nat.reduceLT, Int.reduceLT, Int.reduceLE, Int.reduceEq, CO.tmps, Opd.tmps, optT, Nat.reducePow, Nat.reduceDiv, Nat.reduceMod, Xne, JZx, QlG, KjK, Z6m, X7U, Q7B, ztX, Zgk, qhS, ZC1, QSt, XnW, zkT, ZjM, Qyd, X20, q0u, qWD, Nat.zero_lt_one, Int.toNat_natCast, XqR, Ja7 hh, YNX hz, zzR hz, QDS hz, ne_eq, not_false_eq_true, not_true_eq_false, false_implies, forall_const, and_true, true_and, decide_true, decide_false, EnvC, f1, f2, f3, f4, g3, g3', hbv, g4', c1', c2', hrk, la, lb, lc, l5, l6, l7, hCe, hp, XAf, gA, hA0', fa, eC, gs, gb, lab, lab2, hnz, gm', p0, p0i, sr, hap]
    refine ZMO ?_ (tail true (fun q => by cases q) (fun _ => ⟨by omega, hup (by omega)⟩) _ _ fun q fr G hb => ⟨(i + 1, T ++ p, p.getD (n - 1) []), ⟨g3, p3 (n - 1) (by omega) (by omega) (by omega), by rw [List.length_append]; omega⟩, by dsimp only; omega, by simp only [tp_0, tp_s, List.cons_append, List.nil_append, gA] at hb; exact hb⟩)
    rcases hcs with ⟨q1, q2, q3⟩ | ⟨q0, q1, q2, q3⟩ | ⟨q0, q1, q2, q3⟩
    ·rw [q2, q3, show T ++ p = T by rw [q1, List.append_nil]]
     rcases Ktq (r := strR) T with eT | eT <;> simp only [eT, tp_0, tp_s, List.cons_append, List.nil_append, YzP, X21, gA] <;> exact Bt.sel [0, 1, 5] hh (by decide) (by simp only [JsM, FrSel, BlkSel, AV.ren, renL, AV.ok, okL, Option.some.injEq, exists_eq_left', List.length_cons, List.length_nil, Nat.reduceAdd, Nat.reduceLT, reduceCtorEq, implies_true, exists_eq', fsb, frb]) (by simp only [JsM, FrSel, BlkSel, AV.ren, renL, AV.ok, okL, Option.some.injEq, exists_eq_left', List.length_cons, List.length_nil, Nat.reduceAdd, Nat.reduceLT, reduceCtorEq, implies_true, exists_eq', fsb, frb, X0K, gA])
    ·have lp0 : p.length ≠ 0 := fun q => q0 (List.eq_nil_of_length_eq_zero q)
     have e1 : apS strR (h.length + 1) (T ++ p) = .sl (h.length + 1) 0 p.length p.length (some 1) := by
      rw [q1, List.nil_append]
      unfold apS
      rw [if_neg lp0]
      rfl
     have e2 : resB strR true (T ++ p) = .blk true true (strR.cells p) := by
      rw [q1, List.nil_append]
      unfold resB
      rw [if_neg lp0]
     rw [q2, q3, e1, e2]
     simp only [List.length_cons, List.length_nil, tp_0, tp_s, List.cons_append, List.nil_append, YzP, X21, gA]
     exact Bt.sel [0, 6, 5] hh (by decide) (by simp only [JsM, FrSel, BlkSel, AV.ren, renL, AV.ok, okL, Option.some.injEq, exists_eq_left', List.length_cons, List.length_nil, Nat.reduceAdd, Nat.reduceLT, reduceCtorEq, implies_true, exists_eq', fsb, frb]) (by simp only [JsM, FrSel, BlkSel, AV.ren, renL, AV.ok, okL, Option.some.injEq, exists_eq_left', List.length_cons, List.length_nil, Nat.reduceAdd, Nat.reduceLT, reduceCtorEq, implies_true, exists_eq', fsb, frb, X0K, gA])
    ·have lp0 : T.length + p.length ≠ 0 := fun q => q0 (List.eq_nil_of_length_eq_zero (by omega))
     have e1 : apS strR (h.length + 1) (T ++ p) = .sl (h.length + 1) 0 (T.length + p.length) (T.length + p.length) (some 1) := by
      unfold apS
      rw [List.length_append, if_neg lp0]
      rfl
     have e2 : resB strR true (T ++ p) = .blk true true (strR.cells T ++ strR.cells p) := by
      unfold resB
      rw [List.length_append, if_neg lp0, Qz3, Qz3, Qz3, List.map_append]
     rw [q2, q3, e1, e2]
     simp only [List.length_cons, List.length_nil, tp_0, tp_s, List.cons_append, List.nil_append, YzP, X21, gA]
     exact Bt.sel [0, 6, 5] hh (by decide) (by simp only [JsM, FrSel, BlkSel, AV.ren, renL, AV.ok, okL, Option.some.injEq, exists_eq_left', List.length_cons, List.length_nil, Nat.reduceAdd, Nat.reduceLT, reduceCtorEq, implies_true, exists_eq', fsb, frb]) (by simp only [JsM, FrSel, BlkSel, AV.ren, renL, AV.ok, okL, Option.some.injEq, exists_eq_left', List.length_cons, List.length_nil, Nat.reduceAdd, Nat.reduceLT, reduceCtorEq, implies_true, exists_eq', fsb, frb, X0K, gA])
   ·have gm' := eq_false gm
    simp only [QZz, KkX, KtL, KED, Kg0, if_true, if_false, ↓reduceIte, Nat.reduceAdd, Nat.reduceSub, Nat.reduceLeDiff, Nat.reduceEqDiff, Nat.reduceMul, Nat.reduceLT, Int.reduceLT, Int.reduceLE, Int.reduceEq, CO.tmps, Opd.tmps, optT, Nat.reducePow, Nat.reduceDiv, Nat.reduceMod, Xne, JZx, QlG, KjK, Z6m, X7U, Q7B, ztX, Zgk, qhS, ZC1, QSt, XnW, zkT, ZjM, Qyd, X20, q0u, qWD, Nat.zero_lt_one, Int.toNat_natCast, XqR, Ja7 hh, YNX hz, zzR hz, QDS hz, ne_eq, not_false_eq_true, not_true_eq_false, false_implies, forall_const, and_true, true_and, decide_true, decide_false, EnvC, f1, f2, f3, f4, g3, g3', hbv, g4', c1', c2', hrk, la, lb, lc, l5, l6, l7, hCe, hp, XAf, gA, hA0', fa, eC, gs, gb, lab, lab2, hnz, gm', sr, hap]
    refine ZMO ?_ (tail false (fun _ => p2 (by omega)) (fun q => by cases q) _ _ fun q fr G hb => by cases q)
    rcases hcs with ⟨q1, q2, q3⟩ | ⟨q0, q1, q2, q3⟩ | ⟨q0, q1, q2, q3⟩
    ·rw [q2, q3, show T ++ p = T by rw [q1, List.append_nil]]
     rcases Ktq (r := strR) T with eT | eT <;> simp only [eT, tp_0, tp_s, List.cons_append, List.nil_append, YzP, X21, gA] <;> exact Bt.sel [0, 1, 5] hh (by decide) (by simp only [JsM, FrSel, BlkSel, AV.ren, renL, AV.ok, okL, Option.some.injEq, exists_eq_left', List.length_cons, List.length_nil, Nat.reduceAdd, Nat.reduceLT, reduceCtorEq, implies_true, exists_eq', fsb, frb]) (by simp only [JsM, FrSel, BlkSel, AV.ren, renL, AV.ok, okL, Option.some.injEq, exists_eq_left', List.length_cons, List.length_nil, Nat.reduceAdd, Nat.reduceLT, reduceCtorEq, implies_true, exists_eq', fsb, frb, X0K, gA])
    ·have lp0 : p.length ≠ 0 := fun q => q0 (List.eq_nil_of_length_eq_zero q)
     have e1 : apS strR (h.length + 1) (T ++ p) = .sl (h.length + 1) 0 p.length p.length (some 1) := by
      rw [q1, List.nil_append]
      unfold apS
      rw [if_neg lp0]
      rfl
     have e2 : resB strR true (T ++ p) = .blk true true (strR.cells p) := by
      rw [q1, List.nil_append]
      unfold resB
      rw [if_neg lp0]
     rw [q2, q3, e1, e2]
     simp only [List.length_cons, List.length_nil, tp_0, tp_s, List.cons_append, List.nil_append, YzP, X21, gA]
     exact Bt.sel [0, 6, 5] hh (by decide) (by simp only [JsM, FrSel, BlkSel, AV.ren, renL, AV.ok, okL, Option.some.injEq, exists_eq_left', List.length_cons, List.length_nil, Nat.reduceAdd, Nat.reduceLT, reduceCtorEq, implies_true, exists_eq', fsb, frb]) (by simp only [JsM, FrSel, BlkSel, AV.ren, renL, AV.ok, okL, Option.some.injEq, exists_eq_left', List.length_cons, List.length_nil, Nat.reduceAdd, Nat.reduceLT, reduceCtorEq, implies_true, exists_eq', fsb, frb, X0K, gA])
    ·have lp0 : T.length + p.length ≠ 0 := fun q => q0 (List.eq_nil_of_length_eq_zero (by omega))
     have e1 : apS strR (h.length + 1) (T ++ p) = .sl (h.length + 1) 0 (T.length + p.length) (T.length + p.length) (some 1) := by
      unfold apS
      rw [List.length_append, if_neg lp0]
      rfl
     have e2 : resB strR true (T ++ p) = .blk true true (strR.cells T ++ strR.cells p) := by
      unfold resB
      rw [List.length_append, if_neg lp0, Qz3, Qz3, Qz3, List.map_append]
     rw [q2, q3, e1, e2]
     simp only [List.length_cons, List.length_nil, tp_0, tp_s, List.cons_append, List.nil_append, YzP, X21, gA]
     exact Bt.sel [0, 6, 5] hh (by decide) (by simp only [JsM, FrSel, BlkSel, AV.ren, renL, AV.ok, okL, Option.some.injEq, exists_eq_left', List.length_cons, List.length_nil, Nat.reduceAdd, Nat.reduceLT, reduceCtorEq, implies_true, exists_eq', fsb, frb]) (by simp only [JsM, FrSel, BlkSel, AV.ren, renL, AV.ok, okL, Option.some.injEq, exists_eq_left', List.length_cons, List.length_nil, Nat.reduceAdd, Nat.reduceLT, reduceCtorEq, implies_true, exists_eq', fsb, frb, X0K, gA])
end Go.Proofs.Ytbcpcjofkfgjoaa
end
