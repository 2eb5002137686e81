/- Part 26 of what the laws' proofs rest on. No condition. -/
import Derived.Test.YtnnkfhlmkaobfaaCm25
set_option linter.all false
section
namespace Go.Proofs.Ytnnkfhlmkaobfaa
set_option maxRecDepth 100000
set_option maxHeartbeats 4000000
set_option linter.unusedSimpArgs false
section
variable {α : Type} {r : Row α}
theorem apS_snoc2 (id : Nat) (l : List α) (x y : α) : apS r id (l ++ [x, y]) = .sl id 0 (l.length + 2) (l.length + 2) (some r.sz) := by
  unfold apS
  rw [if_neg (by simp), List.length_append]
  rfl
theorem resB_snoc2 (m : Bool) (l : List α) (x y : α) : resB r m (l ++ [x, y]) = .blk true m (r.cells l ++ (r.f x ++ r.f y)) := by
  unfold resB
  rw [if_neg (by simp)]
  simp [Row.cells]
theorem apS_two (id : Nat) (x y : α) : apS r id [x, y] = .sl id 0 2 2 (some r.sz) := _root_.id rfl
theorem resB_two (m : Bool) (x y : α) : resB r m [x, y] = .blk true m (r.f x ++ r.f y) := by
  unfold resB
  rw [if_neg (by simp)]
  simp [Row.cells]
end
noncomputable def T_CopyDotsE : List AV → List AB → Option (AV × List AB)
  | [a], h => (getS dotR h a).bind fun xs => if xs.length = 0 then some (.sl h.length 0 0 0 none, h ++ [.blk true true []]) else none
  | _, _ => none
theorem CopyDotsE_spec : Spec Try.prog 18 T_CopyDotsE := by
  intro args h v h' e
  unfold T_CopyDotsE at e
  split at e
  · rename_i a
    obtain ⟨xs, hs, e⟩ := getS_bind e
    split at e
    · rename_i h0
      cases e
      refine FnAt.c (FnAt.run (by kernel_rfl) (T := ⟨[], []⟩) ⟨trivial, trivial⟩ Try.func18 sw18 fun ho hh => ?_)
      simp only [okL_cons, Bool.and_eq_true] at ho
      have f1 := hs.fx ho.1 (sz := 2) rfl
      have u1 := hs.src (sz := 2) rfl
      have hx : xs = [] := List.eq_nil_of_length_eq_zero h0
      subst hx
      unfold w18
      simp only [rep_0, rep_s, walkW, ld_own, lda_own, st_own, sta_own, len_app, if_true, if_false, reduceIte, Nat.reduceAdd, Nat.reduceSub, Nat.reduceLeDiff, Nat.reduceEqDiff, Nat.reduceMul, Nat.reduceLT, Int.reduceLT, Int.reduceLE, Int.reduceEq, rsl_get, srcV_own, f1, u1, rcells_nil, List.length_nil]
      exact Bt.eq rfl rfl
    · cases e
  · cases e
/-- A list backwards, each twice, from place m on. -/
def backD (ds : Dots) (m : Nat) : Dots := ((ds.drop m).reverse).flatMap fun d => [d, d]
theorem backD_step (ds : Dots) {m : Nat} (h : m < ds.length) : backD ds m = backD ds (m + 1) ++ [ds.getD m dotR.d, ds.getD m dotR.d] := by
  unfold backD
  rw [List.drop_eq_getElem_cons h, List.reverse_cons, List.flatMap_append, List.getD_eq_getElem?_getD, List.getElem?_eq_getElem h]
  simp
theorem backD_end (ds : Dots) : backD ds ds.length = [] := by simp [backD]
theorem dup_len : ∀ l : Dots, (l.flatMap fun d => [d, d]).length = 2 * l.length
  | [] => rfl
  | d :: l => by
    rw [List.flatMap_cons, List.length_append, dup_len l]
    simp only [List.length_cons, List.length_nil]
    omega
theorem backD_len (ds : Dots) (m : Nat) : (backD ds m).length = 2 * (ds.length - m) := by
  unfold backD
  rw [dup_len, List.length_reverse, List.length_drop]
theorem backD_mem (ds : Dots) (d : Int × Int) : d ∈ backD ds 0 ↔ d ∈ ds := by
  simp [backD]
/-- What of a chain of code stands behind its first parts. -/
theorem Rd.idEl {α : Type} {r : Row α} {h : List AB} {s : AV} {l : List α} (e : Rd r h s l) (h0 : l.length ≠ 0) (sz n j k : Nat) : memN (h.length + k) (idOf (elP sz s n j)) = false := by
  have e1 := e.1
  cases s <;> first | rfl | skip
  rename_i id off len cap kk
  unfold rdS at e1
  simp only at e1
  split at e1
  · simp only [Option.some.injEq, Prod.mk.injEq] at e1
    omega
  · cases hb : rdBlk h id with
    | none => rw [hb] at e1; cases e1
    | some xs =>
      have hid : id < h.length := by
        unfold rdBlk at hb
        rcases Nat.lt_or_ge id h.length with q | q
        · exact q
        · rw [List.getElem?_eq_none q] at hb
          cases hb
      simp only [elP, idOf, memN_cons, memN_nil, Bool.or_false, decide_eq_false_iff_not]
      omega
def CC.rest : Nat → CC → CC
  | 0, c => c
  | n + 1, .seq _ b => CC.rest n b
  | _ + 1, c => c
theorem rest_0 (c : CC) : CC.rest 0 c = c := _root_.id rfl
theorem rest_s (n : Nat) (a b : CC) : CC.rest (n + 1) (.seq a b) = CC.rest n b := _root_.id rfl
noncomputable def TD (cp : List AV → List AB → Option (AV × List AB)) : Env := ⟨[⟨5, T_known, fun _ => []⟩, ⟨8, T_Long, fun _ => []⟩, ⟨23, T_chk checkR, fun _ => []⟩, ⟨11, T_cJoin, fun _ => []⟩, ⟨25, T_rHas, fun _ => []⟩, ⟨33, T_makes, fun _ => []⟩, ⟨35, T_Pick, fun _ => []⟩, ⟨21, T_rNext, fun _ => []⟩, ⟨32, T_dot, fun _ => []⟩, ⟨18, cp, fun _ => []⟩, ⟨19, T_cMake, fun _ => []⟩, ⟨27, T_rCount, fun _ => []⟩], []⟩
theorem TD_ok {cp : List AV → List AB → Option (AV × List AB)} (hcp : Spec Try.prog 18 cp) : (TD cp).Ok Try.prog := ⟨⟨CloudKnown_spec, Long_spec, cCheck_spec, cJoin_spec, Has_spec, makes_spec, Pick_spec, Next_spec, dot_spec, hcp, Make_spec, Count_spec, trivial⟩, trivial⟩
theorem dots_rest {h : List AB} (hz : h.map AB.freeze = h) (hh : HOk h) {s1 t1 : AV} {va : List Int} {da : Dots} (hs1 : Rd intR h s1 va) (ht1 : Rd dotR h t1 da) (os : s1.ok (fun i => decide (i < h.length)) = true) (ot : t1.ok (fun i => decide (i < h.length)) = true) (r : Int) (hr : -9223372036854775808 ≤ r ∧ r ≤ 9223372036854775807) (cp : List AV → List AB → Option (AV × List AB)) (hcp : (da.length = 0 ∧ cp = T_CopyDotsE) ∨ (da.length ≠ 0 ∧ cp = T_CopyDots))
    (na : NF va da) (hl : da.length ≤ 30) (ca : checkR va da = 0) (B1 B2 B3 B4 B5 : AB) (a0 a1 a2 a5 a6 a7 a8 a10 a11 a12 a13 a14 a15 a16 a17 a18 a19 a20 a21 a22 a23 a24 a25 a26 a27 a28 a29 a30 a31 a32 a33 a34 a35 a36 a37 a38 a39 a40 a41 a42 a43 a44 a45 a46 a47 a48 a49 a50 a51 a52 a53 a54 a55 a56 a57 a58 a59 a60 a61 a62 a63 a64 a65 a66 a67 a68 a69 a70 a71 a72 a73 a74 a75 a76 a77 a78 a79 a80 a81 a82 a83 a84 a85 a86 a87 a88 a89 a90 a91 a92 a93 a94 a95 a96 a97 a98 a99 a100 a101 a102 a103 a104 a105 a106 a107 a108 a109 a110 a111 a112 a113 a114 a115 a116 a117 a118 a119 a120 a121 a122 a123 a124 a125 a126 a127 a128 a129 a130 a131 a132 a133 a134 a135 a136 a137 a138 a139 a140 a141 a142 a143 a144 a145 a146 a147 a148 a149 a150 a151 a152 a153 a154 a155 a156 a157 a158 a159 a160 a161 a162 : AV) :
    W ⟨Try.prog, TD cp, false, h.length, Fin Try.prog h.length [RC.t 8] (.b true) h⟩ [.code (CC.rest 5 w7.body)] [a0, a1, a2, .i .i64 r, .p (h.length + 0) 0, a5, a6, a7, a8, .b true, a10, a11, a12, a13, a14, a15, a16, a17, a18, a19, a20, a21, a22, a23, a24, a25, a26, a27, a28, a29, a30, a31, a32, a33, a34, a35, a36, a37, a38, a39, a40, a41, a42, a43, a44, a45, a46, a47, a48, a49, a50, a51, a52, a53, a54, a55, a56, a57, a58, a59, a60, a61, a62, a63, a64, a65, a66, a67, a68, a69, a70, a71, a72, a73, a74, a75, a76, a77, a78, a79, a80, a81, a82, a83, a84, a85, a86, a87, a88, a89, a90, a91, a92, a93, a94, a95, a96, a97, a98, a99, a100, a101, a102, a103, a104, a105, a106, a107, a108, a109, a110, a111, a112, a113, a114, a115, a116, a117, a118, a119, a120, a121, a122, a123, a124, a125, a126, a127, a128, a129, a130, a131, a132, a133, a134, a135, a136, a137, a138, a139, a140, a141, a142, a143, a144, a145, a146, a147, a148, a149, a150, a151, a152, a153, a154, a155, a156, a157, a158, a159, a160, a161, a162] (h ++ [.blk false true [s1, t1], B1, B2, B3, B4, B5]) := by
  have f1 := hs1.fx os (sz := 1) rfl
  have f2 := ht1.fx ot (sz := 2) rfl
  have q6 : (da.length ≤ 1000000) = True := eq_true (by omega)
  have w0 : IntKind.i64.wrap ((da.length : Int) - 1) = (da.length : Int) - 1 := wrap_in (by unfold In64; omega)
  have fo : ∀ c, s1.ok (fun i => decide (i < h.length + c)) = true ∧ t1.ok (fun i => decide (i < h.length + c)) = true := fun c => by
    have mm : ∀ v : AV, v.ok (fun i => decide (i < h.length)) = true → v.ok (fun i => decide (i < h.length + c)) = true := fun v => AV.ok_mono (fun i q => by simp only [decide_eq_true_eq] at q ⊢; omega) v
    exact ⟨mm _ os, mm _ ot⟩
  have fr : ∀ sel, Wk (s1.ren (selN h.length sel)) s1 ∧ Wk (t1.ren (selN h.length sel)) t1 := fun sel => ⟨Wk.ren (fun i hi => selN_old hi) os, Wk.ren (fun i hi => selN_old hi) ot⟩
  unfold w7
  simp only [rep_0, rep_s, walkW, walkQ, ld_own, lda_own, st_own, sta_own, len_app, if_true, if_false, ↓reduceIte, Nat.reduceAdd, Nat.reduceSub, Nat.reduceLeDiff, Nat.reduceEqDiff, Nat.reduceMul, Nat.reduceLT, Int.reduceLT, Int.reduceLE, Int.reduceEq, rsl_get, srcV_own, merge_own, drop_own, getD_own, CO.tmps, Opd.tmps, optT, Nat.reducePow, Nat.reduceDiv, Nat.reduceMod, f1, f2, T_Long, T_known, T_chk, T_cJoin, T_rHas, T_makes, T_Pick, T_rNext, T_dot, T_cMake, T_rCount, HOk_own hh, mask_ownC hz, mask_ownQ hz, mask_ownQ0 hz, ne_eq, rsl_capOk, beq_self_eq_true, eq_self, TD, rest_0, rest_s, q6, w0]
  refine W_loopS (S := Nat) (fun m => m) (fun m => tp 3 ++ [.i .i64 r, .p (h.length + 0) 0] ++ tp 4 ++ [.b true] ++ tp 2 ++ [apS dotR (h.length + 6) (backD da m), .i .i64 ((m : Int) - 1)] ++ tp 149) (fun m => h ++ [.blk false true [s1, t1], .dead, .dead, .dead, .dead, .dead, resB dotR true (backD da m)]) (fun m => m ≤ da.length) da.length (Nat.le_refl _) ?_ fun m hm => ?_
  · rw [backD_end, apS_nil]
    show Bt _ _ _ _ _ (h ++ ([.blk false true [s1, t1], .dead, .dead, .dead, .dead, .dead] ++ List.replicate 1 .dead))
    rw [← List.append_assoc]
    refine Bt.trans (Bt.sel [0, 1, 2, 3, 4, 5] hh (by decide) (by simp only [walkS, FrSel, BlkSel, AV.ren, renL, AV.ok, okL, Option.some.injEq, exists_eq_left', List.length_cons, List.length_nil, Nat.reduceAdd, Nat.reduceLT, reduceCtorEq, implies_true, exists_eq', fo, fr]) ?_) (Bt.pad _ _ 1)
    simp only [walkS, FrSel, BlkSel, AV.ren, renL, AV.ok, okL, Option.some.injEq, exists_eq_left', List.length_cons, List.length_nil, Nat.reduceAdd, Nat.reduceLT, reduceCtorEq, implies_true, exists_eq', tp_0, tp_s, apL_cons, apL_nil, app_app, cons_app, nil_app]
  · have bl := backD_len da
    by_cases hm0 : m = 0
    · subst hm0
      have z0 : ((0 : Int) ≤ 0 - 1) = False := eq_false (by omega)
      obtain ⟨r', hr'⟩ : ∃ r', r' = 1 + r % 16 := ⟨_, rfl⟩
      have r1 : 1 ≤ r' ∧ r' ≤ 16 := by omega
      have ew : IntKind.i64.wrap (1 + r % 16) = r' := by rw [← hr']; exact wrap_in (by unfold In64; omega)
      have hp : ((-9223372036854775808 ≤ r ∧ r ≤ 9223372036854775807) ∧ -9223372036854775808 ≤ (16 : Int) ∧ (16 : Int) ≤ 9223372036854775807) = True := eq_true ⟨hr, by decide⟩
      have hbl := bl 0
      have g1 : ((backD da 0).length ≤ 100000) = True := eq_true (by omega)
      have g2 : ((backD da 0).length ≤ 1000000) = True := eq_true (by omega)
      have rgB : rangedP va (backD da 0) := ⟨na.rg.1, na.rg.2.1, fun d hd => na.rg.2.2 d ((backD_mem da d).1 hd)⟩
      have mk : makesP va da va (backD da 0) = True := eq_true (by
        have e := fmO_ext rgB na.rg fun d => by unfold inC; rw [backD_mem]
        rw [na.fix] at e
        exact ⟨rgB, by rw [e]; show da.length ≤ 4096; omega, e⟩)
      have bd := maxR_bd va da na.rg r' da.length (Nat.le_refl _)
      obtain ⟨t1', t2', t3'⟩ := maxR_top na.rg r' da.length (Nat.le_refl _)
      rw [List.take_length] at t2'
      have hnx : nextR va da r' = if maxR va da r' da.length = 1048576 then ((0, 0), 10) else ((r', maxR va da r' da.length + 1), 0) := by
        unfold nextR
        rw [if_neg (not_not_intro ca), if_neg (by omega)]
      have hmx : 1 ≤ maxR va da r' da.length → rhasP va da (r', maxR va da r' da.length) := fun q => (rhas_in na.rg _).2 ⟨⟨r1.1, r1.2, q, bd.2⟩, t3'.elim (fun z => .inl (by simp only; omega)) .inr⟩
      generalize maxR va da r' da.length = N at *
      by_cases hf : N = 1048576
      · subst hf
        rw [if_pos rfl] at hnx
        have hh1 := eq_true (hmx (by decide))
        simp only [rep_0, rep_s, walkW, walkQ, ld_own, lda_own, st_own, sta_own, len_app, if_true, if_false, ↓reduceIte, Nat.reduceAdd, Nat.reduceSub, Nat.reduceLeDiff, Nat.reduceEqDiff, Nat.reduceMul, Nat.reduceLT, Int.reduceLT, Int.reduceLE, Int.reduceEq, rsl_get, srcV_own, merge_own, drop_own, getD_own, CO.tmps, Opd.tmps, optT, Nat.reducePow, Nat.reduceDiv, Nat.reduceMod, f1, f2, T_Long, T_known, T_chk, T_cJoin, T_rHas, T_makes, T_Pick, T_rNext, T_dot, T_cMake, T_rCount, HOk_own hh, mask_ownC hz, mask_ownQ hz, mask_ownQ0 hz, ne_eq, rsl_capOk, beq_self_eq_true, eq_self, TD, z0, ew, hp, g1, g2, mk, hnx, apS_getP, ca, f1, f2, T_Pick, hh1]
        exact ⟨hr, Bt.dropB _ hh rfl⟩
      · rw [if_neg hf] at hnx
        have hd : dottedP (r', N + 1) := ⟨r1.1, r1.2, by simp only; omega, by simp only; omega⟩
        have hn : ¬ inC va da (r', N + 1) := fun q => q.2.elim (fun z => by simp only at z; omega) (fun z => by have := t2' _ z rfl; simp only at this; omega)
        have hn' : rhasP va da (r', N + 1) = False := eq_false fun q => hn ((rhas_in na.rg _).1 q)
        obtain ⟨c1, c2, c3, c4⟩ := count_more na (by omega) hd hn
        have c5 := fmO_len2 c1
        rw [List.length_append, List.length_singleton] at c5
        have c6 := fmO_len va (da ++ [(r', N + 1)])
        have c7 := (c4 (r', N + 1)).2 (.inr rfl)
        have c8 : rhasP (fmO va (da ++ [(r', N + 1)])).1 (fmO va (da ++ [(r', N + 1)])).2 (r', N + 1) = True := eq_true ((rhas_in (nf_check c2).rg _).2 c7)
        have cb : 0 ≤ countR va da ∧ countR va da ≤ 20000000 := by
          unfold countR
          rw [if_pos ca]
          have := sumI_bd va na.rg.2.1 va.length
          have := na.rg.1
          omega
        have w1 : IntKind.i64.wrap (countR va da + 1) = countR va da + 1 := wrap_in (by unfold In64; omega)
        have w2 : IntKind.i64.wrap (N + 1 - 1) = N := by rw [Int.add_sub_cancel]; exact wrap_in (by unfold In64; omega)
        have hz1 : (N + 1 = 1) = (N = 0) := propext (by omega)
        have hD : ∃ D, da ++ [(r', N + 1)] = D := ⟨_, rfl⟩
        obtain ⟨D, hD⟩ := hD
        have hDl : D.length = da.length + 1 := by rw [← hD]; simp
        rw [hD] at c1 c2 c3 c5 c6 c8
        generalize hM : fmO va D = M at *
        have g3 : (D.length ≤ 100000) = True := eq_true (by omega)
        have g4 : (M.2.length ≤ 4096) = True := eq_true (by omega)
        have g5 : (M.2.length ≤ 1000000) = True := eq_true (by omega)
        have g6 : (M.1.length ≤ 1000000) = True := eq_true (by omega)
        have c1' := eq_true c1
        rcases hcp with ⟨h0, rfl⟩ | ⟨h0, rfl⟩
        · have hda : da = [] := List.eq_nil_of_length_eq_zero h0
          have rd : ∀ (L : List AB) (k : Nat) (kk : Option Nat), ownC L k = some [.i .i64 r', .i .i64 (N + 1)] → getS dotR (h ++ L) (.sl (h.length + k) 0 1 1 kk) = some D := fun L k kk hL => by
            have e : D = [(r', N + 1)] := by rw [← hD, hda]; rfl
            have := (Rd_own (r := dotR) (h := h) (L := L) (k := k) (c := 1) (kk := kk) (l := D) (by rw [hL, e]; rfl) (by unfold maxLen; omega)).get
            rw [e] at this ⊢
            exact this
          have z3 : (1 * 16 ≤ 140737488355328 ∧ 1 ≤ maxLen) = True := eq_true ⟨by decide, by unfold maxLen; omega⟩
          by_cases hN : N = 0
          · have hN' := eq_true hN
            simp only [rep_0, rep_s, walkW, walkQ, ld_own, lda_own, st_own, sta_own, len_app, if_true, if_false, ↓reduceIte, Nat.reduceAdd, Nat.reduceSub, Nat.reduceLeDiff, Nat.reduceEqDiff, Nat.reduceMul, Nat.reduceLT, Int.reduceLT, Int.reduceLE, Int.reduceEq, rsl_get, srcV_own, merge_own, drop_own, getD_own, CO.tmps, Opd.tmps, optT, Nat.reducePow, Nat.reduceDiv, Nat.reduceMod, f1, f2, T_Long, T_known, T_chk, T_cJoin, T_rHas, T_makes, T_Pick, T_rNext, T_dot, T_cMake, T_rCount, HOk_own hh, mask_ownC hz, mask_ownQ hz, mask_ownQ0 hz, ne_eq, rsl_capOk, beq_self_eq_true, eq_self, TD, z0, ew, hp, g1, g2, mk, hnx, apS_getP, ca, f1, f2, T_Pick, hn', c1', c2, c3, c8, w1, w2, hz1, g3, g4, g5, g6, rd, hN', hM, z3, h0, T_CopyDotsE]
            exact ⟨hr, Bt.dropB _ hh rfl⟩
          · have hN' := eq_false hN
            have hh1 := eq_true (hmx (by omega))
            simp only [rep_0, rep_s, walkW, walkQ, ld_own, lda_own, st_own, sta_own, len_app, if_true, if_false, ↓reduceIte, Nat.reduceAdd, Nat.reduceSub, Nat.reduceLeDiff, Nat.reduceEqDiff, Nat.reduceMul, Nat.reduceLT, Int.reduceLT, Int.reduceLE, Int.reduceEq, rsl_get, srcV_own, merge_own, drop_own, getD_own, CO.tmps, Opd.tmps, optT, Nat.reducePow, Nat.reduceDiv, Nat.reduceMod, f1, f2, T_Long, T_known, T_chk, T_cJoin, T_rHas, T_makes, T_Pick, T_rNext, T_dot, T_cMake, T_rCount, HOk_own hh, mask_ownC hz, mask_ownQ hz, mask_ownQ0 hz, ne_eq, rsl_capOk, beq_self_eq_true, eq_self, TD, z0, ew, hp, g1, g2, mk, hnx, apS_getP, ca, f1, f2, T_Pick, hn', c1', c2, c3, c8, w1, w2, hz1, g3, g4, g5, g6, rd, hN', hM, z3, h0, T_CopyDotsE, hh1]
            exact ⟨hr, Bt.dropB _ hh rfl⟩
        · have h0' := eq_false h0
          have rd : ∀ (L : List AB) (k : Nat) (kk : Option Nat), ownC L k = some (dotR.cells da ++ [.i .i64 r', .i .i64 (N + 1)]) → getS dotR (h ++ L) (.sl (h.length + k) 0 (da.length + 1) (da.length + 1) kk) = some D := fun L k kk hL => by
            have e : D.length = da.length + 1 := hDl
            have := (Rd_own (r := dotR) (h := h) (L := L) (k := k) (c := D.length) (kk := kk) (l := D) (by rw [hL, ← hD]; simp [Row.cells, dotR_f]) (by unfold maxLen; omega)).get
            rw [e] at this
            exact this
          have fa := fun L k ys hb => appW_rslP (h := h) (p := h.length) rfl (r := dotR) (sz := 2) rfl L k da 16 1 ys h0 hb (by decide) (by omega) (by unfold maxLen; omega)
          by_cases hN : N = 0
          · have hN' := eq_true hN
            simp only [rep_0, rep_s, walkW, walkQ, ld_own, lda_own, st_own, sta_own, len_app, if_true, if_false, ↓reduceIte, Nat.reduceAdd, Nat.reduceSub, Nat.reduceLeDiff, Nat.reduceEqDiff, Nat.reduceMul, Nat.reduceLT, Int.reduceLT, Int.reduceLE, Int.reduceEq, rsl_get, srcV_own, merge_own, drop_own, getD_own, CO.tmps, Opd.tmps, optT, Nat.reducePow, Nat.reduceDiv, Nat.reduceMod, f1, f2, T_Long, T_known, T_chk, T_cJoin, T_rHas, T_makes, T_Pick, T_rNext, T_dot, T_cMake, T_rCount, HOk_own hh, mask_ownC hz, mask_ownQ hz, mask_ownQ0 hz, ne_eq, rsl_capOk, beq_self_eq_true, eq_self, TD, z0, ew, hp, g1, g2, mk, hnx, apS_getP, ca, f1, f2, T_Pick, hn', c1', c2, c3, c8, w1, w2, hz1, g3, g4, g5, g6, rd, hN', hM, fa, T_CopyDots, q6, dotR_f]
            exact ⟨hr, Bt.dropB _ hh rfl⟩
          · have hN' := eq_false hN
            have hh1 := eq_true (hmx (by omega))
            simp only [rep_0, rep_s, walkW, walkQ, ld_own, lda_own, st_own, sta_own, len_app, if_true, if_false, ↓reduceIte, Nat.reduceAdd, Nat.reduceSub, Nat.reduceLeDiff, Nat.reduceEqDiff, Nat.reduceMul, Nat.reduceLT, Int.reduceLT, Int.reduceLE, Int.reduceEq, rsl_get, srcV_own, merge_own, drop_own, getD_own, CO.tmps, Opd.tmps, optT, Nat.reducePow, Nat.reduceDiv, Nat.reduceMod, f1, f2, T_Long, T_known, T_chk, T_cJoin, T_rHas, T_makes, T_Pick, T_rNext, T_dot, T_cMake, T_rCount, HOk_own hh, mask_ownC hz, mask_ownQ hz, mask_ownQ0 hz, ne_eq, rsl_capOk, beq_self_eq_true, eq_self, TD, z0, ew, hp, g1, g2, mk, hnx, apS_getP, ca, f1, f2, T_Pick, hn', c1', c2, c3, c8, w1, w2, hz1, g3, g4, g5, g6, rd, hN', hM, fa, T_CopyDots, q6, dotR_f, hh1]
            exact ⟨hr, Bt.dropB _ hh rfl⟩
    obtain ⟨j, rfl⟩ : ∃ j, m = j + 1 := ⟨m - 1, by omega⟩
    have hj : j < da.length := hm
    have mk1 : ∀ n j k, memN (h.length + k) (idOf (elP 2 t1 n j)) = false := fun n j k => ht1.idEl (by omega) 2 n j k
    have hj' : (j < da.length) = True := eq_true hj
    have e0 : (((j + 1 : Nat) : Int) - 1) = (j : Int) := by omega
    have e1 : IntKind.i64.wrap ((j : Int) - 1) = (j : Int) - 1 := wrap_in (by unfold In64; omega)
    have hst := backD_step da hj
    by_cases hB : backD da (j + 1) = []
    · rw [hB, List.nil_append] at hst
      have z3 : (2 * 16 ≤ 140737488355328 ∧ 2 ≤ maxLen) = True := eq_true ⟨by decide, by unfold maxLen; omega⟩
      simp only [hB, apS_nil, walkW, walkQ, ld_own, lda_own, st_own, sta_own, len_app, if_true, if_false, ↓reduceIte, Nat.reduceAdd, Nat.reduceSub, Nat.reduceLeDiff, Nat.reduceEqDiff, Nat.reduceMul, Nat.reduceLT, Int.reduceLT, Int.reduceLE, Int.reduceEq, rsl_get, srcV_own, merge_own, drop_own, getD_own, CO.tmps, Opd.tmps, optT, Nat.reducePow, Nat.reduceDiv, Nat.reduceMod, f1, f2, e0, e1, hj', z3, mk1, mask_ownC hz, mask_ownQ hz, mask_ownQ0 hz, HOk_own hh, dotR_f]
      refine ⟨j, by omega, by dsimp only; omega, ?_⟩
      dsimp only
      rw [hst]
      simp only [apS_two, resB_two, dotR_f, lapp_cons, lapp_nil]
      exact Bt.sel [0, 1, 2, 3, 4, 5, 8] hh (by decide) (by simp only [walkS, FrSel, BlkSel, AV.ren, renL, AV.ok, okL, Option.some.injEq, exists_eq_left', List.length_cons, List.length_nil, Nat.reduceAdd, Nat.reduceLT, reduceCtorEq, implies_true, exists_eq', fo, fr]) (by simp only [walkS, FrSel, BlkSel, AV.ren, renL, AV.ok, okL, Option.some.injEq, exists_eq_left', List.length_cons, List.length_nil, Nat.reduceAdd, Nat.reduceLT, reduceCtorEq, implies_true, exists_eq', fo, fr])
    · have hlB : (backD da (j + 1)).length ≠ 0 := fun q => hB (List.eq_nil_of_length_eq_zero q)
      have gr : ∀ id, apS dotR id (backD da (j + 1)) = rsl dotR id (backD da (j + 1)) := fun id => apS_rsl _ hlB
      have fa := fun L k ys hb => appW_rslP (h := h) (p := h.length) rfl (r := dotR) (sz := 2) rfl L k (backD da (j + 1)) 16 2 ys hlB hb (by decide) (by rw [bl]; omega) (by rw [bl]; unfold maxLen; omega)
      simp only [gr, walkW, walkQ, ld_own, lda_own, st_own, sta_own, len_app, if_true, if_false, ↓reduceIte, Nat.reduceAdd, Nat.reduceSub, Nat.reduceLeDiff, Nat.reduceEqDiff, Nat.reduceMul, Nat.reduceLT, Int.reduceLT, Int.reduceLE, Int.reduceEq, rsl_get, srcV_own, merge_own, drop_own, getD_own, CO.tmps, Opd.tmps, optT, Nat.reducePow, Nat.reduceDiv, Nat.reduceMod, f1, f2, e0, e1, hj', fa, mk1, mask_ownC hz, mask_ownQ hz, mask_ownQ0 hz, HOk_own hh, dotR_f]
      refine ⟨j, by omega, by dsimp only; omega, ?_⟩
      dsimp only
      rw [hst]
      simp only [apS_snoc2, resB_snoc2, dotR_f, lapp_cons, lapp_nil]
      exact Bt.sel [0, 1, 2, 3, 4, 5, 8] hh (by decide) (by simp only [walkS, FrSel, BlkSel, AV.ren, renL, AV.ok, okL, Option.some.injEq, exists_eq_left', List.length_cons, List.length_nil, Nat.reduceAdd, Nat.reduceLT, reduceCtorEq, implies_true, exists_eq', fo, fr]) (by simp only [walkS, FrSel, BlkSel, AV.ren, renL, AV.ok, okL, Option.some.injEq, exists_eq_left', List.length_cons, List.length_nil, Nat.reduceAdd, Nat.reduceLT, reduceCtorEq, implies_true, exists_eq', fo, fr])
theorem CloudDots_at {h : List AB} (hz : h.map AB.freeze = h) {s1 t1 s2 t2 : AV} {va vb : List Int} {da db : Dots} (hs1 : Rd intR h s1 va) (ht1 : Rd dotR h t1 da) (hs2 : Rd intR h s2 vb) (ht2 : Rd dotR h t2 db) (k1 : t1.capOk = true) (k2 : t2.capOk = true) (x y r : Int) (hr : -9223372036854775808 ≤ r ∧ r ≤ 9223372036854775807) :
    FnAt Try.prog 7 [.ag [s1, t1], .ag [s2, t2], .ag [.i .i64 x, .i .i64 y], .i .i64 r] h (.b true) h := by
  obtain ⟨cp, hcp, hcs⟩ : ∃ cp, ((da.length = 0 ∧ cp = T_CopyDotsE) ∨ (da.length ≠ 0 ∧ cp = T_CopyDots)) ∧ Spec Try.prog 18 cp := by
    by_cases h0 : da.length = 0
    · exact ⟨_, .inl ⟨h0, rfl⟩, CopyDotsE_spec⟩
    · exact ⟨_, .inr ⟨h0, rfl⟩, CopyDots_spec⟩
  refine FnAt.run (by kernel_rfl) (T := TD cp) (TD_ok hcs) Try.func7 sw7 fun ho hh => ?_
  simp only [okL_cons, ok_ag, Bool.and_eq_true] at ho
  have f1 := hs1.fx ho.1.1 (sz := 1) rfl
  have f2 := ht1.fx ho.1.2.1 (sz := 2) rfl
  have f3 := hs2.fx ho.2.1.1 (sz := 1) rfl
  have f4 := ht2.fx ho.2.1.2.1 (sz := 2) rfl
  have rst := fun (L3 : da.length ≤ 30) (ca : checkR va da = 0) => dots_rest hz hh hs1 ht1 ho.1.1 ho.1.2.1 r hr cp hcp (nf_check ca) L3 ca
  unfold w7 at rst ⊢
  by_cases La : 20 < va.length ∨ 30 < da.length
  · have g := eq_true La
    simp only [rep_0, rep_s, walkW, walkQ, ld_own, lda_own, st_own, sta_own, len_app, if_true, if_false, ↓reduceIte, Nat.reduceAdd, Nat.reduceSub, Nat.reduceLeDiff, Nat.reduceEqDiff, Nat.reduceMul, Nat.reduceLT, Int.reduceLT, Int.reduceLE, Int.reduceEq, rsl_get, srcV_own, merge_own, drop_own, getD_own, CO.tmps, Opd.tmps, optT, Nat.reducePow, Nat.reduceDiv, Nat.reduceMod, f1, f2, f3, f4, T_Long, T_known, T_chk, T_cJoin, T_rHas, T_makes, T_Pick, T_rNext, T_dot, T_cMake, T_rCount, HOk_own hh, mask_ownC hz, mask_ownQ hz, mask_ownQ0 hz, ne_eq, rsl_capOk, beq_self_eq_true, eq_self, TD, g]
    exact Bt.dropB _ hh rfl
  have ga := eq_false La
  by_cases Lb : 20 < vb.length ∨ 30 < db.length
  · have g := eq_true Lb
    simp only [rep_0, rep_s, walkW, walkQ, ld_own, lda_own, st_own, sta_own, len_app, if_true, if_false, ↓reduceIte, Nat.reduceAdd, Nat.reduceSub, Nat.reduceLeDiff, Nat.reduceEqDiff, Nat.reduceMul, Nat.reduceLT, Int.reduceLT, Int.reduceLE, Int.reduceEq, rsl_get, srcV_own, merge_own, drop_own, getD_own, CO.tmps, Opd.tmps, optT, Nat.reducePow, Nat.reduceDiv, Nat.reduceMod, f1, f2, f3, f4, T_Long, T_known, T_chk, T_cJoin, T_rHas, T_makes, T_Pick, T_rNext, T_dot, T_cMake, T_rCount, HOk_own hh, mask_ownC hz, mask_ownQ hz, mask_ownQ0 hz, ne_eq, rsl_capOk, beq_self_eq_true, eq_self, TD, ga, g]
    exact Bt.dropB _ hh rfl
  have gb := eq_false Lb
  by_cases ca : checkR va da = 0
  case neg =>
    have g := eq_false ca
    simp only [rep_0, rep_s, walkW, walkQ, ld_own, lda_own, st_own, sta_own, len_app, if_true, if_false, ↓reduceIte, Nat.reduceAdd, Nat.reduceSub, Nat.reduceLeDiff, Nat.reduceEqDiff, Nat.reduceMul, Nat.reduceLT, Int.reduceLT, Int.reduceLE, Int.reduceEq, rsl_get, srcV_own, merge_own, drop_own, getD_own, CO.tmps, Opd.tmps, optT, Nat.reducePow, Nat.reduceDiv, Nat.reduceMod, f1, f2, f3, f4, T_Long, T_known, T_chk, T_cJoin, T_rHas, T_makes, T_Pick, T_rNext, T_dot, T_cMake, T_rCount, HOk_own hh, mask_ownC hz, mask_ownQ hz, mask_ownQ0 hz, ne_eq, rsl_capOk, beq_self_eq_true, eq_self, TD, ga, gb, g, not_false_eq_true, decide_true]
    exact Bt.dropB _ hh rfl
  by_cases cb : checkR vb db = 0
  case neg =>
    have g := eq_false cb
    simp only [rep_0, rep_s, walkW, walkQ, ld_own, lda_own, st_own, sta_own, len_app, if_true, if_false, ↓reduceIte, Nat.reduceAdd, Nat.reduceSub, Nat.reduceLeDiff, Nat.reduceEqDiff, Nat.reduceMul, Nat.reduceLT, Int.reduceLT, Int.reduceLE, Int.reduceEq, rsl_get, srcV_own, merge_own, drop_own, getD_own, CO.tmps, Opd.tmps, optT, Nat.reducePow, Nat.reduceDiv, Nat.reduceMod, f1, f2, f3, f4, T_Long, T_known, T_chk, T_cJoin, T_rHas, T_makes, T_Pick, T_rNext, T_dot, T_cMake, T_rCount, HOk_own hh, mask_ownC hz, mask_ownQ hz, mask_ownQ0 hz, ne_eq, rsl_capOk, beq_self_eq_true, eq_self, TD, ga, gb, ca, g, not_false_eq_true, decide_true]
    exact Bt.dropB _ hh rfl
  have na := nf_check ca
  have nb := nf_check cb
  have l1 := join_len na nb
  have v1 := (join_nf na nb).rg.1
  have x1 := (join_nf na nb).check (by omega)
  have hin : (rhasP (joinO va vb da db).1 (joinO va vb da db).2 (x, y)) = (rhasP va da (x, y) ∨ rhasP vb db (x, y)) := propext (by
    rw [rhas_in (join_nf na nb).rg, rhas_in na.rg, rhas_in nb.rg]
    exact join_mem na nb _)
  generalize hX : joinO va vb da db = X at *
  have m1 : (X.2.length ≤ 4096) = True := eq_true (by omega)
  have q1 : (X.2.length ≤ 1000000) = True := eq_true (by omega)
  have q5 : (X.1.length ≤ 1000000) = True := eq_true (by omega)
  replace rst := rst (by omega) ca
  by_cases hA' : rhasP va da (x, y) <;> by_cases hB' : rhasP vb db (x, y)
  · have hA := eq_true hA'
    have hB := eq_true hB'
    simp only [rep_0, rep_s, walkW, walkQ, ld_own, lda_own, st_own, sta_own, len_app, if_true, if_false, ↓reduceIte, Nat.reduceAdd, Nat.reduceSub, Nat.reduceLeDiff, Nat.reduceEqDiff, Nat.reduceMul, Nat.reduceLT, Int.reduceLT, Int.reduceLE, Int.reduceEq, rsl_get, srcV_own, merge_own, drop_own, getD_own, CO.tmps, Opd.tmps, optT, Nat.reducePow, Nat.reduceDiv, Nat.reduceMod, f1, f2, f3, f4, T_Long, T_known, T_chk, T_cJoin, T_rHas, T_makes, T_Pick, T_rNext, T_dot, T_cMake, T_rCount, HOk_own hh, mask_ownC hz, mask_ownQ hz, mask_ownQ0 hz, ne_eq, rsl_capOk, beq_self_eq_true, eq_self, TD, ga, gb, ca, cb, x1, hX, m1, q1, q5, k1, k2, hin, hA, hB, or_self, or_true, true_or, or_false]
    simp only [rep_0, rep_s, walkW, walkQ, ld_own, lda_own, st_own, sta_own, len_app, if_true, if_false, ↓reduceIte, Nat.reduceAdd, Nat.reduceSub, Nat.reduceLeDiff, Nat.reduceEqDiff, Nat.reduceMul, Nat.reduceLT, Int.reduceLT, Int.reduceLE, Int.reduceEq, rsl_get, srcV_own, merge_own, drop_own, getD_own, CO.tmps, Opd.tmps, optT, Nat.reducePow, Nat.reduceDiv, Nat.reduceMod, f1, f2, TD, rest_0, rest_s] at rst
    exact rst _ _ _ _ _ _ _ _ _ _ _ _ _ _ .top .top _ _ _ _ _ _ _ _ _ _ _ _ _ _ _ _ _ _ _ _ _ _ _ _ _ _ _ _ _ _ _ _ _ _ _ _ _ _ _ _ _ _ _ _ .top .top .top .top _ _ _ _ _ _ _ _ _ _ _ _ _ _ _ _ _ _ _ _ _ _ _ _ _ _ _ _ _ _ _ _ _ _ _ _ _ _ _ _ _ _ _ _ _ _ _ _ _ _ _ _ _ _ _ _ _ _ _ _ _ _ _ _ _ _ _ _ _ _ _ _ _ _ _ _ _ _ _ _ _ _ _ _ _ _ _ _ _ _ _ _ _ _ _ _ _ _ _ _ _
  · have hA := eq_true hA'
    have hB := eq_false hB'
    simp only [rep_0, rep_s, walkW, walkQ, ld_own, lda_own, st_own, sta_own, len_app, if_true, if_false, ↓reduceIte, Nat.reduceAdd, Nat.reduceSub, Nat.reduceLeDiff, Nat.reduceEqDiff, Nat.reduceMul, Nat.reduceLT, Int.reduceLT, Int.reduceLE, Int.reduceEq, rsl_get, srcV_own, merge_own, drop_own, getD_own, CO.tmps, Opd.tmps, optT, Nat.reducePow, Nat.reduceDiv, Nat.reduceMod, f1, f2, f3, f4, T_Long, T_known, T_chk, T_cJoin, T_rHas, T_makes, T_Pick, T_rNext, T_dot, T_cMake, T_rCount, HOk_own hh, mask_ownC hz, mask_ownQ hz, mask_ownQ0 hz, ne_eq, rsl_capOk, beq_self_eq_true, eq_self, TD, ga, gb, ca, cb, x1, hX, m1, q1, q5, k1, k2, hin, hA, hB, or_self, or_true, true_or, or_false]
    simp only [rep_0, rep_s, walkW, walkQ, ld_own, lda_own, st_own, sta_own, len_app, if_true, if_false, ↓reduceIte, Nat.reduceAdd, Nat.reduceSub, Nat.reduceLeDiff, Nat.reduceEqDiff, Nat.reduceMul, Nat.reduceLT, Int.reduceLT, Int.reduceLE, Int.reduceEq, rsl_get, srcV_own, merge_own, drop_own, getD_own, CO.tmps, Opd.tmps, optT, Nat.reducePow, Nat.reduceDiv, Nat.reduceMod, f1, f2, TD, rest_0, rest_s] at rst
    exact rst _ _ _ _ _ _ _ _ _ _ _ _ _ _ .top .top _ _ _ _ _ _ _ _ _ _ _ _ _ _ _ _ _ _ _ _ _ _ _ _ _ _ _ _ _ _ _ _ _ _ _ _ _ _ _ _ _ _ _ _ .top .top .top .top _ _ _ _ _ _ _ _ _ _ _ _ _ _ _ _ _ _ _ _ _ _ _ _ _ _ _ _ _ _ _ _ _ _ _ _ _ _ _ _ _ _ _ _ _ _ _ _ _ _ _ _ _ _ _ _ _ _ _ _ _ _ _ _ _ _ _ _ _ _ _ _ _ _ _ _ _ _ _ _ _ _ _ _ _ _ _ _ _ _ _ _ _ _ _ _ _ _ _ _ _
  · have hA := eq_false hA'
    have hB := eq_true hB'
    simp only [rep_0, rep_s, walkW, walkQ, ld_own, lda_own, st_own, sta_own, len_app, if_true, if_false, ↓reduceIte, Nat.reduceAdd, Nat.reduceSub, Nat.reduceLeDiff, Nat.reduceEqDiff, Nat.reduceMul, Nat.reduceLT, Int.reduceLT, Int.reduceLE, Int.reduceEq, rsl_get, srcV_own, merge_own, drop_own, getD_own, CO.tmps, Opd.tmps, optT, Nat.reducePow, Nat.reduceDiv, Nat.reduceMod, f1, f2, f3, f4, T_Long, T_known, T_chk, T_cJoin, T_rHas, T_makes, T_Pick, T_rNext, T_dot, T_cMake, T_rCount, HOk_own hh, mask_ownC hz, mask_ownQ hz, mask_ownQ0 hz, ne_eq, rsl_capOk, beq_self_eq_true, eq_self, TD, ga, gb, ca, cb, x1, hX, m1, q1, q5, k1, k2, hin, hA, hB, or_self, or_true, true_or, or_false]
    simp only [rep_0, rep_s, walkW, walkQ, ld_own, lda_own, st_own, sta_own, len_app, if_true, if_false, ↓reduceIte, Nat.reduceAdd, Nat.reduceSub, Nat.reduceLeDiff, Nat.reduceEqDiff, Nat.reduceMul, Nat.reduceLT, Int.reduceLT, Int.reduceLE, Int.reduceEq, rsl_get, srcV_own, merge_own, drop_own, getD_own, CO.tmps, Opd.tmps, optT, Nat.reducePow, Nat.reduceDiv, Nat.reduceMod, f1, f2, TD, rest_0, rest_s] at rst
    exact rst _ _ _ _ _ _ _ _ _ _ _ _ _ _ .top .top _ _ _ _ _ _ _ _ _ _ _ _ _ _ _ _ _ _ _ _ _ _ _ _ _ _ _ _ _ _ _ _ _ _ _ _ _ _ _ _ _ _ _ _ .top .top .top .top _ _ _ _ _ _ _ _ _ _ _ _ _ _ _ _ _ _ _ _ _ _ _ _ _ _ _ _ _ _ _ _ _ _ _ _ _ _ _ _ _ _ _ _ _ _ _ _ _ _ _ _ _ _ _ _ _ _ _ _ _ _ _ _ _ _ _ _ _ _ _ _ _ _ _ _ _ _ _ _ _ _ _ _ _ _ _ _ _ _ _ _ _ _ _ _ _ _ _ _ _
  · have hA := eq_false hA'
    have hB := eq_false hB'
    simp only [rep_0, rep_s, walkW, walkQ, ld_own, lda_own, st_own, sta_own, len_app, if_true, if_false, ↓reduceIte, Nat.reduceAdd, Nat.reduceSub, Nat.reduceLeDiff, Nat.reduceEqDiff, Nat.reduceMul, Nat.reduceLT, Int.reduceLT, Int.reduceLE, Int.reduceEq, rsl_get, srcV_own, merge_own, drop_own, getD_own, CO.tmps, Opd.tmps, optT, Nat.reducePow, Nat.reduceDiv, Nat.reduceMod, f1, f2, f3, f4, T_Long, T_known, T_chk, T_cJoin, T_rHas, T_makes, T_Pick, T_rNext, T_dot, T_cMake, T_rCount, HOk_own hh, mask_ownC hz, mask_ownQ hz, mask_ownQ0 hz, ne_eq, rsl_capOk, beq_self_eq_true, eq_self, TD, ga, gb, ca, cb, x1, hX, m1, q1, q5, k1, k2, hin, hA, hB, or_self, or_true, true_or, or_false]
    simp only [rep_0, rep_s, walkW, walkQ, ld_own, lda_own, st_own, sta_own, len_app, if_true, if_false, ↓reduceIte, Nat.reduceAdd, Nat.reduceSub, Nat.reduceLeDiff, Nat.reduceEqDiff, Nat.reduceMul, Nat.reduceLT, Int.reduceLT, Int.reduceLE, Int.reduceEq, rsl_get, srcV_own, merge_own, drop_own, getD_own, CO.tmps, Opd.tmps, optT, Nat.reducePow, Nat.reduceDiv, Nat.reduceMod, f1, f2, TD, rest_0, rest_s] at rst
    exact rst _ _ _ _ _ _ _ _ _ _ _ _ _ _ .top .top _ _ _ _ _ _ _ _ _ _ _ _ _ _ _ _ _ _ _ _ _ _ _ _ _ _ _ _ _ _ _ _ _ _ _ _ _ _ _ _ _ _ _ _ .top .top .top .top _ _ _ _ _ _ _ _ _ _ _ _ _ _ _ _ _ _ _ _ _ _ _ _ _ _ _ _ _ _ _ _ _ _ _ _ _ _ _ _ _ _ _ _ _ _ _ _ _ _ _ _ _ _ _ _ _ _ _ _ _ _ _ _ _ _ _ _ _ _ _ _ _ _ _ _ _ _ _ _ _ _ _ _ _ _ _ _ _ _ _ _ _ _ _ _ _ _ _ _ _
end Go.Proofs.Ytnnkfhlmkaobfaa
end
