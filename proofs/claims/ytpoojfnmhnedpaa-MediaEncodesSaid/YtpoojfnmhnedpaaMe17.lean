/- Part 17 of what the laws' proofs rest on. No condition. -/
import Derived.Test.YtpoojfnmhnedpaaMe16
set_option linter.all false
section
namespace Go.Proofs.Ytpoojfnmhnedpaa
set_option maxRecDepth 100000
set_option maxHeartbeats 4000000
structure MEnv where
 i : Nat
 fid : Nat
 wb : Nat
 mb : Nat
 db : Nat
 kind : Int
 title : List UInt8
 c : Dsc
 l : AV
 s : AV
 ls : List Dsc
 ss : List Dsc
def MEnv.man (x : MEnv) : Man := ZVh x.kind x.title x.c x.ls x.ss
structure EnvH (h : List AB) (x : MEnv) : Prop where
 f : qhl h x.fid = some [.f (.func 40) [] [.p x.wb 0], .f (.func 41) [] [.p x.wb 0, .p x.mb 0], .f (.func 42) [] [.p x.wb 0, .p x.mb 0], .f (.func 36) [] [.p x.mb 0, .p x.db 0], .f (.func 37) [] [.p x.mb 0, .p x.wb 0, .p x.db 0]]
 w : qhl h x.wb = some [.p x.i 0]
 m : qhl h x.mb = some (.i .i64 x.kind :: .s x.title :: (deR.f x.c ++ [x.l, x.s]))
 d : qhl h x.db = some [.f (.func 34) [] [.p x.wb 0]]
 rl : Rd deR h x.l x.ls
 rs : Rd deR h x.s x.ss
structure EnvB (x : MEnv) : Prop where
 k : In64 x.kind
 t : x.title.length ≤ 1000000
 c : DB x.c
 n : x.ls.length + x.ss.length ≤ 1000
 d : ∀ d ∈ x.ls ++ x.ss, DB d
section
variable {h : List AB} {i j : Nat} {lim : Int} {s : AV} {bs : List UInt8} {e : Int}
theorem ztO (H : WrH h i j lim s bs e) {t : AV} {l : List Dsc} (h1 : Rd deR h t l) : ∀ m ∈ idOf t, l.length ≠ 0 → m ≠ i ∧ m ≠ j ∧ m ∉ idOf s := by
 intro m hm h0
 obtain ⟨id, off, cap, k', xs, rfl, e1, e2, e3⟩ := h1.blk 0 (by omega)
 simp only [idOf, List.mem_singleton] at hm
 subst hm
 have hl : 35 ≤ l.length * deR.sz := by rw [JLP]; omega
 have hg := deR.cells_get l 0 0 (by omega) (by decide)
 rw [← e3, List.getElem?_take, if_pos (by rw [Nat.zero_mul, Nat.zero_add]; omega), List.getElem?_drop] at hg
 refine zte H e1 (by omega) (by omega) ⟨_, _, hg, fun b => ?_⟩
 unfold u8A
 simp
theorem EnvH.keep {x : MEnv} (E : EnvH h x) (H : WrH h i j lim s bs e) (st : List UInt8 × Int) (k : Option Nat) (L : List AB) : EnvH (wX h i j lim s st k ++ L) x := by
 refine ⟨z5g st k L E.f (zte H E.f (by simp) (by simp) ⟨0, _, rfl, fun b => by unfold u8A; simp⟩), z5g st k L E.w (zte H E.w (by simp) (by simp) ⟨0, _, rfl, fun b => by unfold u8A; simp⟩), z5g st k L E.m (zte H E.m ?_ ?_ ⟨0, _, rfl, fun b => by unfold u8A; simp⟩), z5g st k L E.d (zte H E.d (by simp) (by simp) ⟨0, _, rfl, fun b => by unfold u8A; simp⟩), Qwm st k L E.rl (ztO H E.rl), Qwm st k L E.rs (ztO H E.rs)⟩
 ·have := deR.len x.c
  rw [JLP] at this
  simp [this]
 ·have := deR.len x.c
  rw [JLP] at this
  simp [this]
theorem XC3 (W : WrH h i j lim s bs e) (hl : bs.length ≤ 1000000) : YlB [.p i 0] h = if e = 0 then some (.tu [rsl XQp h.length bs, .i .i64 0], h ++ [resB XQp true bs]) else some (.tu [.ns, .i .i64 e], h) := by
 have h1 : wtr h i = some (j, lim, s, e, 0) := by
  unfold wtr
  rw [W.hi]
  simp only [blkW, rd_j W]
 have h2 : getS XQp h s = some bs := by
  rcases W.hs with ⟨q1, q2⟩ | ⟨q, q1, q2, q3⟩
  ·rw [q1, q2, Jpk]
  ·rw [q1, JeD _ q2]
   exact (zpN q3 (by unfold maxLen; omega)).get
 unfold YlB
 simp only [h1, Option.bind_some, h2]
 rw [if_pos hl]
theorem QWi (st : List UInt8 × Int) (k : Option Nat) : ((wX h i j lim .ns st k).set i .dead).set j .dead = (h.set i .dead).set j .dead := by
 refine List.ext_getElem? fun m => ?_
 by_cases hj : j = m <;> by_cases hi : i = m <;> cases k <;> simp only [wX, YlR, List.getElem?_set, List.length_set, hj, hi, if_true, if_false]
theorem JUm {P : Program} {p : Nat} {fr : List AV} {g : List AB} (m : Nat) : Bt P p fr g fr (g.set m .dead) := by
 by_cases hm : m < g.length
 ·exact Bt.less (List.getElem?_eq_getElem hm) (fun _ _ _ _ _ _ => trivial) (fun q => by cases q) (fun q => by cases q)
 ·rw [List.set_eq_of_length_le (by omega)]
  exact Bt.refl _ _ _
end
open Classical in
noncomputable def zNn (x : MEnv) (args : List AV) (h : List AB) : Option (AV × List AB) :=
 if args = [.p x.i 0, .sl x.fid 0 5 5 none] ∧ EnvH h x ∧ EnvB x then (wrM h x.i).bind fun y => if y.2.2.1 = .ns ∧ y.2.1 ≤ 1000000 ∧ y.2.2.2.1 = [] then
  some (.tu [rsl XQp h.length (Xc0 (seqR y.2.1 ([], y.2.2.2.2) x.man 5).2 (seqR y.2.1 ([], y.2.2.2.2) x.man 5).1), .i .i64 (seqR y.2.1 ([], y.2.2.2.2) x.man 5).2], (h.set x.i .dead).set y.1 .dead ++ [resB XQp true (Xc0 (seqR y.2.1 ([], y.2.2.2.2) x.man 5).2 (seqR y.2.1 ([], y.2.2.2.2) x.man 5).1)]) else none
 else none
theorem Kjo (x : MEnv) : Spec Try.prog 39 (zNn x) := by
 intro args h v h' e
 unfold zNn at e
 split at e
 ·rename_i hc
  obtain ⟨rfl, E, B⟩ := hc
  obtain ⟨j, lim, s0, bs, er, H, e2⟩ := Z2u e
  clear e
  dsimp only at e2
  split at e2
  ·rename_i hs
   obtain ⟨rfl, hlim, rfl⟩ := hs
   cases e2
   refine FnAt.c (FnAt.run (by kernel_rfl) (T := ⟨[⟨40, T_E5, fun _ => []⟩, ⟨41, T_E6, fun _ => []⟩, ⟨42, T_E7, fun _ => []⟩, ⟨36, T_E3, fun _ => []⟩, ⟨37, T_E4, fun _ => []⟩, ⟨30, YlB, fun _ => []⟩], []⟩) ⟨⟨YjT, Y2j, Xdl, QlN, J17, YM3, trivial⟩, trivial⟩ Try.func39 sw39 fun ho hh => ?_)
   have lsl : lenV (.sl x.fid 0 5 5 none) = some 5 := rfl
   have ia : ∀ n : Nat, n < 5 → iadV 1 (.sl x.fid 0 5 5 none) (.i .i64 n) = some (.p x.fid n) := fun n hn => by
    simp only [iadV]
    rw [if_pos ⟨by omega, by omega⟩]
    simp
   have i0 : iadV 1 (.sl x.fid 0 5 5 none) (.i .i64 0) = some (.p x.fid 0) := ia 0 (by omega)
   have i1 : iadV 1 (.sl x.fid 0 5 5 none) (.i .i64 1) = some (.p x.fid 1) := ia 1 (by omega)
   have i2 : iadV 1 (.sl x.fid 0 5 5 none) (.i .i64 2) = some (.p x.fid 2) := ia 2 (by omega)
   have i3 : iadV 1 (.sl x.fid 0 5 5 none) (.i .i64 3) = some (.p x.fid 3) := ia 3 (by omega)
   have i4 : iadV 1 (.sl x.fid 0 5 5 none) (.i .i64 4) = some (.p x.fid 4) := ia 4 (by omega)
   have f0 : ∀ st k L o, ldV (wX h x.i j lim .ns st k ++ L) none (.p x.fid o) = [AV.f (.func 40) [] [.p x.wb 0], .f (.func 41) [] [.p x.wb 0, .p x.mb 0], .f (.func 42) [] [.p x.wb 0, .p x.mb 0], .f (.func 36) [] [.p x.mb 0, .p x.db 0], .f (.func 37) [] [.p x.mb 0, .p x.wb 0, .p x.db 0]][o]? := fun st k L o => by
    simp only [ldV, (E.keep H st k L).f, Option.bind_some]
   have fw := fun st k L => (E.keep H st k L).w
   have fm := fun st k L => (E.keep H st k L).m
   have fd := fun st k L => (E.keep H st k L).d
   have gl := fun st k L => (E.keep H st k L).rl.get
   have gs := fun st k L => (E.keep H st k L).rs.get
   have hc35 := deR.len x.c
   rw [JLP] at hc35
   have t35 : (deR.f x.c ++ [x.l, x.s]).take 35 = deR.f x.c := List.take_left' hc35
   have d35 : (deR.f x.c ++ [x.l, x.s]).drop 35 = [x.l, x.s] := List.drop_left' hc35
   have l37 : (deR.f x.c ++ [x.l, x.s]).length = 37 := by simp [hc35]
   have gc := J1R x.c
   have b1 := eq_true B.k
   have b2 := eq_true B.t
   have b3 := eq_true B.c
   have b4 := eq_true B.n
   have b5 := eq_true B.d
   have w0 : IntKind.i64.wrap (0 + 1) = 1 := rfl
   have w1 : IntKind.i64.wrap (1 + 1) = 2 := rfl
   have w2 : IntKind.i64.wrap (2 + 1) = 3 := rfl
   have w3 : IntKind.i64.wrap (3 + 1) = 4 := rfl
   have w4 : IntKind.i64.wrap (4 + 1) = 5 := rfl
   unfold w39
   simp only [Qfy, Q7I, qe2, qur, X6x, if_true, if_false, ↓reduceIte, Nat.reduceAdd, Nat.reduceSub, Nat.reduceLeDiff, Nat.reduceEqDiff, Nat.reduceMul, Nat.reduceLT, Int.reduceLT, Int.reduceLE, Int.reduceEq, CO.tmps, Opd.tmps, optT, Nat.reducePow, Nat.reduceDiv, Nat.reduceMod, lsl]
   refine QSO (S := Nat × Option Nat × List AB) (fun y => 5 - y.1) (fun y => [.p x.i 0] ++ tp 7 ++ [.sl x.fid 0 5 5 none, .i .i64 5, .i .i64 y.1] ++ tp 10) (fun y => wX h x.i j lim .ns (seqR lim ([], er) x.man y.1) y.2.1 ++ y.2.2) (fun y => y.1 ≤ 5 ∧ WInv 0 [] (seqR lim ([], er) x.man y.1) y.2.2 y.2.1 ∧ ((seqR lim ([], er) x.man y.1).1.length : Int) ≤ lim) (0, none, []) ⟨Nat.zero_le _, rfl, H.hlen⟩ ?_ fun y hy => ?_
   ·show Bt _ _ _ _ _ (wX h x.i j lim .ns ([], er) none ++ [])
    rw [wX_0 H]
    exact Bt.wk (by simp only [qe2, X6x, if_true, if_false, reduceIte, Nat.reduceAdd, Nat.reduceSub, Nat.reduceLeDiff, Nat.reduceEqDiff, Nat.reduceMul, Nat.reduceLT, Int.reduceLT, Int.reduceLE, Int.reduceEq, Int.natCast_zero])
   ·obtain ⟨n, k, R⟩ := y
    obtain ⟨y1, y2, y3⟩ := hy
    dsimp only at y1 y2 y3 ⊢
    have step : ∀ (n' : Nat) (f : Int → List UInt8 × Int → List UInt8 × Int), FOk f → seqR lim ([], er) x.man n' = f lim (seqR lim ([], er) x.man n) → ∃ k' R', wSeq f (wX h x.i j lim .ns (seqR lim ([], er) x.man n) k ++ R) x.i = some (.tu [], wX h x.i j lim .ns (seqR lim ([], er) x.man n') k' ++ R') ∧ WInv 0 [] (seqR lim ([], er) x.man n') R' k' ∧ ((seqR lim ([], er) x.man n').1.length : Int) ≤ lim := fun n' f F hf => by
     have := YBE (D := []) (R := R) H F y2 y3
     rw [← hf] at this
     exact this
    rcases (by omega : n = 0 ∨ n = 1 ∨ n = 2 ∨ n = 3 ∨ n = 4 ∨ n = 5) with rfl | rfl | rfl | rfl | rfl | rfl
    ·obtain ⟨k2, R2, q2, I2, n2⟩ := step 1 (fun lim st => wN lim st 77) (KHu _) rfl
     simp only [qe2, qur, X6x, if_true, if_false, ↓reduceIte, Nat.reduceAdd, Nat.reduceSub, Nat.reduceLeDiff, Nat.reduceEqDiff, Nat.reduceMul, Nat.reduceLT, Int.reduceLT, Int.reduceLE, Int.reduceEq, CO.tmps, Opd.tmps, optT, Nat.reducePow, Nat.reduceDiv, Nat.reduceMod, i0, f0, fw, w0, q2, T_E5]
     exact ⟨(1, k2, R2), ⟨by omega, I2, n2⟩, by dsimp only; omega, Bt.wk (by simp only [qe2, X6x, if_true, if_false, reduceIte, Nat.reduceAdd, Nat.reduceSub, Nat.reduceLeDiff, Nat.reduceEqDiff, Nat.reduceMul, Nat.reduceLT, Int.reduceLT, Int.reduceLE, Int.reduceEq, Int.cast_ofNat_Int])⟩
    ·obtain ⟨k2, R2, q2, I2, n2⟩ := step 2 (fun lim st => wN lim st x.kind) (KHu _) rfl
     simp only [qe2, qur, X6x, if_true, if_false, ↓reduceIte, Nat.reduceAdd, Nat.reduceSub, Nat.reduceLeDiff, Nat.reduceEqDiff, Nat.reduceMul, Nat.reduceLT, Int.reduceLT, Int.reduceLE, Int.reduceEq, CO.tmps, Opd.tmps, optT, Nat.reducePow, Nat.reduceDiv, Nat.reduceMod, i1, f0, fw, fm, w1, b1, q2, T_E6]
     exact ⟨(2, k2, R2), ⟨by omega, I2, n2⟩, by dsimp only; omega, Bt.wk (by simp only [qe2, X6x, if_true, if_false, reduceIte, Nat.reduceAdd, Nat.reduceSub, Nat.reduceLeDiff, Nat.reduceEqDiff, Nat.reduceMul, Nat.reduceLT, Int.reduceLT, Int.reduceLE, Int.reduceEq, Int.cast_ofNat_Int])⟩
    ·obtain ⟨k2, R2, q2, I2, n2⟩ := step 3 (fun lim st => wT lim st x.title) (YVz _) rfl
     simp only [qe2, qur, X6x, if_true, if_false, ↓reduceIte, Nat.reduceAdd, Nat.reduceSub, Nat.reduceLeDiff, Nat.reduceEqDiff, Nat.reduceMul, Nat.reduceLT, Int.reduceLT, Int.reduceLE, Int.reduceEq, CO.tmps, Opd.tmps, optT, Nat.reducePow, Nat.reduceDiv, Nat.reduceMod, i2, f0, fw, fm, w2, b2, q2, T_E7]
     exact ⟨(3, k2, R2), ⟨by omega, I2, n2⟩, by dsimp only; omega, Bt.wk (by simp only [qe2, X6x, if_true, if_false, reduceIte, Nat.reduceAdd, Nat.reduceSub, Nat.reduceLeDiff, Nat.reduceEqDiff, Nat.reduceMul, Nat.reduceLT, Int.reduceLT, Int.reduceLE, Int.reduceEq, Int.cast_ofNat_Int])⟩
    ·obtain ⟨k2, R2, q2, I2, n2⟩ := step 4 (fun lim st => if x.kind = 3 then wD lim st x.c.de else st) (Jjg x.man) rfl
     simp only [qe2, qur, X6x, if_true, if_false, ↓reduceIte, Nat.reduceAdd, Nat.reduceSub, Nat.reduceLeDiff, Nat.reduceEqDiff, Nat.reduceMul, Nat.reduceLT, Int.reduceLT, Int.reduceLE, Int.reduceEq, CO.tmps, Opd.tmps, optT, Nat.reducePow, Nat.reduceDiv, Nat.reduceMod, i3, f0, fw, fm, fd, w3, b3, t35, l37, gc, q2, T_E3]
     exact ⟨(4, k2, R2), ⟨by omega, I2, n2⟩, by dsimp only; omega, Bt.wk (by simp only [qe2, X6x, if_true, if_false, reduceIte, Nat.reduceAdd, Nat.reduceSub, Nat.reduceLeDiff, Nat.reduceEqDiff, Nat.reduceMul, Nat.reduceLT, Int.reduceLT, Int.reduceLE, Int.reduceEq, Int.cast_ofNat_Int])⟩
    ·obtain ⟨k2, R2, q2, I2, n2⟩ := step 5 (fun lim st => wR lim st ((x.ls ++ x.ss).map Dsc.de)) (Ytc _) (by rw [List.map_append]; rfl)
     simp only [qe2, qur, X6x, if_true, if_false, ↓reduceIte, Nat.reduceAdd, Nat.reduceSub, Nat.reduceLeDiff, Nat.reduceEqDiff, Nat.reduceMul, Nat.reduceLT, Int.reduceLT, Int.reduceLE, Int.reduceEq, CO.tmps, Opd.tmps, optT, Nat.reducePow, Nat.reduceDiv, Nat.reduceMod, i4, f0, fw, fm, fd, w4, b4, b5, d35, gl, gs, q2, T_E4]
     exact ⟨(5, k2, R2), ⟨by omega, I2, n2⟩, by dsimp only; omega, Bt.wk (by simp only [qe2, X6x, if_true, if_false, reduceIte, Nat.reduceAdd, Nat.reduceSub, Nat.reduceLeDiff, Nat.reduceEqDiff, Nat.reduceMul, Nat.reduceLT, Int.reduceLT, Int.reduceLE, Int.reduceEq, Int.cast_ofNat_Int])⟩
    ·have W := YFz H (st := seqR lim ([], er) x.man 5) (k := k) (L := R) y2 y3
     have dn := XC3 W (by omega)
     have gi : ((5 : Int) < 5) = False := eq_false (by omega)
     have glen : ((h.set x.i .dead).set j .dead).length = h.length := by rw [List.length_set, List.length_set]
     have hg : HOk ((h.set x.i .dead).set j .dead) := JvT (JvT hh _ (fun _ => rfl)) _ (fun _ => rfl)
     have dead : ∀ (L : List AB) (v : AV), Bt Try.prog h.length [v] (wX h x.i j lim .ns (seqR lim ([], er) x.man 5) k ++ L) [v] ((h.set x.i .dead).set j .dead ++ L) := fun L v => by
      refine Bt.trans (JUm x.i) (Bt.trans (JUm j) ?_)
      rw [List.set_append_left _ _ (by rw [X9p]; exact H.il), List.set_append_left _ _ (by rw [List.length_set, X9p]; exact H.jl), QWi]
      exact Bt.refl _ _ _
     generalize seqR lim ([], er) x.man 5 = st at *
     by_cases ge : st.2 = 0
     ·have hd : Xc0 st.2 st.1 = st.1 := by unfold Xc0; rw [if_pos ge]
      rw [if_pos ge] at dn
      rw [hd]
      simp only [qe2, qur, X6x, if_true, if_false, ↓reduceIte, Nat.reduceAdd, Nat.reduceSub, Nat.reduceLeDiff, Nat.reduceEqDiff, Nat.reduceMul, Nat.reduceLT, Int.reduceLT, Int.reduceLE, Int.reduceEq, CO.tmps, Opd.tmps, optT, Nat.reducePow, Nat.reduceDiv, Nat.reduceMod, lsl, gi, dn]
      rw [ge, X9p]
      refine Bt.trans (dead _ _) ?_
      have := Bt.sel (P := Try.prog) (h := (h.set x.i .dead).set j .dead) (l := R ++ [resB XQp true st.1]) (l' := [resB XQp true st.1]) (fr := [.tu [rsl XQp (h.length + R.length) st.1, .i .i64 0]]) (fr' := [.tu [rsl XQp h.length st.1, .i .i64 0]]) [R.length] hg (by simp) ⟨⟨resB XQp true st.1, by rw [List.getElem?_append_right (Nat.le_refl _), Nat.sub_self]; rfl, of_eq_true (Ygp _ _ _ _)⟩, trivial⟩ ⟨.inr ⟨?_, ?_⟩, trivial⟩
      ·rw [glen] at this
       exact this
      ·rw [glen, zEo, Z3W, XPo _ _ _ (by simp)]
       rfl
      ·rw [glen]
       simp only [AV.ren, renL, zsP]
       rw [show selN h.length [R.length] h.length = h.length + R.length from Qbt 0]
       exact Wk.refl _
     ·have hd : Xc0 st.2 st.1 = [] := by unfold Xc0; rw [if_neg ge]
      rw [if_neg ge] at dn
      rw [hd]
      simp only [qe2, qur, X6x, if_true, if_false, ↓reduceIte, Nat.reduceAdd, Nat.reduceSub, Nat.reduceLeDiff, Nat.reduceEqDiff, Nat.reduceMul, Nat.reduceLT, Int.reduceLT, Int.reduceLE, Int.reduceEq, CO.tmps, Opd.tmps, optT, Nat.reducePow, Nat.reduceDiv, Nat.reduceMod, lsl, gi, dn]
      refine Bt.trans (dead _ _) (Bt.trans (Bt.wk1 (Wk.tu (l' := [rsl XQp h.length [], .i .i64 st.2]) ⟨Wk.nil _ _, Wk.refl _, trivial⟩)) ?_)
      have h1 := Bt.drop (P := Try.prog) (h := (h.set x.i .dead).set j .dead) (v := .tu [rsl XQp h.length [], .i .i64 st.2]) (a := .tu [rsl XQp h.length [], .i .i64 st.2]) R hg rfl rfl
      rw [glen] at h1
      exact Bt.trans h1 (Bt.pad _ _ 1)
  ·cases e2
 ·cases e
end Go.Proofs.Ytpoojfnmhnedpaa
end
section
namespace Go.Proofs.Ytpoojfnmhnedpaa
set_option maxRecDepth 100000
set_option maxHeartbeats 4000000
def manC (y : Int × List UInt8 × Dsc × AV × AV) : List AV := .i .i64 y.1 :: .s y.2.1 :: (deR.f y.2.2.1 ++ [y.2.2.2.1, y.2.2.2.2])
theorem zWj {y z : Int × List UInt8 × Dsc × AV × AV} (h : manC y = manC z) : y = z := by
 obtain ⟨a, b, c, d, e⟩ := y
 obtain ⟨a', b', c', d', e'⟩ := z
 simp only [manC, List.cons.injEq, AV.i.injEq, AV.s.injEq, true_and] at h
 obtain ⟨rfl, rfl, h⟩ := h
 have h2 := List.append_inj h (by rw [deR.len, deR.len])
 have h3 := deR.inj _ _ h2.1
 simp only [List.cons.injEq, and_true] at h2
 rw [h3, h2.2.1, h2.2.2]
open Classical in
noncomputable def getM (a : AV) : Option (Int × List UInt8 × Dsc × AV × AV) := if e : ∃ y, a = .ag (manC y) then some e.choose else none
theorem qlA (y : Int × List UInt8 × Dsc × AV × AV) : getM (.ag (manC y)) = some y := by
 unfold getM
 have hx : ∃ z, AV.ag (manC y) = .ag (manC z) := ⟨y, rfl⟩
 rw [dif_pos hx]
 have := hx.choose_spec
 injection this with h
 rw [zWj h.symm]
theorem Y5r {a : AV} {y : Int × List UInt8 × Dsc × AV × AV} (e : getM a = some y) : a = .ag (manC y) := by
 unfold getM at e
 split at e
 ·rename_i h
  cases e
  exact h.choose_spec
 ·cases e
noncomputable def inM (h : List AB) (a : AV) : Option (Int × List UInt8 × Dsc × AV × AV × List Dsc × List Dsc) := (getM a).bind fun y => (getS deR h y.2.2.2.1).bind fun ls => (getS deR h y.2.2.2.2).bind fun ss => some (y.1, y.2.1, y.2.2.1, y.2.2.2.1, y.2.2.2.2, ls, ss)
theorem QNw {β : Type} {h : List AB} {a : AV} {f : Int × List UInt8 × Dsc × AV × AV × List Dsc × List Dsc → Option β} {b : β} (e : (inM h a).bind f = some b) : ∃ k t c l s ls ss, a = .ag (.i .i64 k :: .s t :: (deR.f c ++ [l, s])) ∧ Rd deR h l ls ∧ Rd deR h s ss ∧ f (k, t, c, l, s, ls, ss) = some b := by
 obtain ⟨x, h1, h2⟩ := Option.bind_eq_some_iff.1 e
 unfold inM at h1
 obtain ⟨⟨k, t, c, l, s⟩, h3, h4⟩ := Option.bind_eq_some_iff.1 h1
 obtain ⟨ls, h5, h6⟩ := Kra h4
 obtain ⟨ss, h7, h8⟩ := Kra h6
 cases h8
 exact ⟨k, t, c, l, s, ls, ss, Y5r h3, h5, h7, h2⟩
theorem Xi3 {h : List AB} {k : Int} {t : List UInt8} {c : Dsc} {l s : AV} {ls ss : List Dsc} (h1 : getS deR h l = some ls) (h2 : getS deR h s = some ss) : inM h (.ag (.i .i64 k :: .s t :: (deR.f c ++ [l, s]))) = some (k, t, c, l, s, ls, ss) := by
 unfold inM
 have := qlA (k, t, c, l, s)
 unfold manC at this
 dsimp only at this
 rw [this, Option.bind_some]
 dsimp only
 rw [h1, Option.bind_some, h2, Option.bind_some]
noncomputable def Ysw : List AV → List AB → Option (AV × List AB)
 | [a], h => (inM h a).bind fun y => some (.b (zHI (ZVh y.1 y.2.1 y.2.2.1 y.2.2.2.2.2.1 y.2.2.2.2.2.2)), h)
 | _, _ => none
theorem qoS (c : Dsc) (l s : AV) : (deR.f c ++ [l, s]).length = 37 ∧ (deR.f c ++ [l, s])[35]? = some l ∧ (deR.f c ++ [l, s])[36]? = some s ∧ (deR.f c ++ [l, s]).take 35 = deR.f c := by
 have h : (deR.f c).length = 35 := deR.len c
 refine ⟨by simp [h], ?_, ?_, List.take_left' h⟩
 ·rw [List.getElem?_append_right (by omega), h]; rfl
 ·rw [List.getElem?_append_right (by omega), h]; rfl
theorem QEH (c : Dsc) : deEq c.de deZ = decide (c = dsc deZ) := by
 rw [Bool.eq_iff_iff, qrU, decide_eq_true_eq]
 have hz : (dsc deZ).de = deZ := z4V rfl
 constructor
 ·intro q
  rw [← hz] at q
  exact Dsc.de_inj q
 ·intro q
  rw [q, hz]
theorem YfG (c : Dsc) {l s : AV} (hl : l.isSl = true) (hs : s.isSl = true) : (deR.f c ++ [l, s]).all (wrOk false) = true := by
 rw [List.all_append, ziH]
 simp [wrOk, zZE hl, zZE hs]
theorem Kw2 : Spec Try.prog 31 Ysw := by
 intro args h v h' e
 unfold Ysw at e
 split at e
 ·rename_i a
  obtain ⟨k, t, c, l, s, ls, ss, rfl, hl, hs, e1⟩ := QNw e
  clear e
  cases e1
  refine FnAt.c (FnAt.run (by kernel_rfl) (T := ⟨[], []⟩) ⟨trivial, trivial⟩ Try.func31 sw31 fun ho hh => ?_)
  obtain ⟨c1, c2, c3, c4⟩ := qoS c l s
  have ca := YfG c hl.isSl hs.isSl
  have l1 := QYh hl.isSl
  have s1 := QYh hs.isSl
  have l2 := hl.len
  have s2 := hs.len
  have r1 : (2 + 35 ≤ 37 + 1 + 1) = True := eq_true (by omega)
  have z1 := zA3 c (dsc deZ)
  unfold w31
  by_cases g3 : k = 3
  ·have g3' := eq_true g3
   have hr : zHI (ZVh k t c ls ss) = decide ((ss.length : Int) = 0) := by
    unfold zHI ZVh
    dsimp only
    rw [if_pos g3, List.length_map]
    exact decide_eq_decide.2 (by omega)
   rw [hr]
   simp only [Qfy, Q7I, qe2, qur, X6x, simprocAttr, CO.tmps, Opd.tmps, optT, Nat.reducePow, Nat.reduceDiv, Nat.reduceMod, c1, c2, c3, c4, ca, l1, s1, l2, s2, g3']
   exact Bt.drop _ hh rfl rfl
  ·have g3' := eq_false g3
   by_cases g4 : k = 4
   ·have g4' := eq_true g4
    by_cases g5 : ls.length = 0
    ·have g5' : ((ls.length : Int) = 0) = True := eq_true (by omega)
     have hr : zHI (ZVh k t c ls ss) = decide (c = dsc deZ) := by
      unfold zHI ZVh
      dsimp only
      rw [if_neg g3, if_pos g4, List.length_map, QEH, decide_eq_true g5, Bool.true_and]
     rw [hr]
     simp only [Qfy, Q7I, qe2, qur, X6x, simprocAttr, CO.tmps, Opd.tmps, optT, Nat.reducePow, Nat.reduceDiv, Nat.reduceMod, c1, c2, c3, c4, ca, l1, s1, l2, s2, g3', g4', g5', ← Qwh, z1]
     exact Bt.drop _ hh rfl rfl
    ·have g5' : ((ls.length : Int) = 0) = False := eq_false (by omega)
     have hr : zHI (ZVh k t c ls ss) = false := by
      unfold zHI ZVh
      dsimp only
      rw [if_neg g3, if_pos g4, List.length_map, decide_eq_false g5, Bool.false_and]
     rw [hr]
     simp only [Qfy, Q7I, qe2, qur, X6x, simprocAttr, CO.tmps, Opd.tmps, optT, Nat.reducePow, Nat.reduceDiv, Nat.reduceMod, c1, c2, c3, c4, ca, l1, s1, l2, s2, g3', g4', g5']
     exact Bt.drop _ hh rfl rfl
   ·have g4' := eq_false g4
    have hr : zHI (ZVh k t c ls ss) = false := by
     unfold zHI ZVh
     dsimp only
     rw [if_neg g3, if_neg g4]
    rw [hr]
    simp only [Qfy, Q7I, qe2, qur, X6x, simprocAttr, CO.tmps, Opd.tmps, optT, Nat.reducePow, Nat.reduceDiv, Nat.reduceMod, c1, c2, c3, c4, ca, l1, s1, l2, s2, g3', g4']
    exact Bt.drop _ hh rfl rfl
 ·cases e
noncomputable def JNq : List AV → List AB → Option (AV × List AB)
 | [a], h => (Z5f a).bind fun d => some (.b (negD d.de), h)
 | _, _ => none
theorem ZJ2 : Spec Try.prog 33 JNq := by
 intro args h v h' e
 unfold JNq at e
 split at e
 ·rename_i a
  obtain ⟨d, hd, e1⟩ := Option.bind_eq_some_iff.1 e
  clear e
  cases e1
  obtain rfl := JPQ hd
  refine FnAt.c (FnAt.run (by kernel_rfl) (T := ⟨[], []⟩) ⟨trivial, trivial⟩ Try.func33 sw33 fun ho hh => ?_)
  obtain ⟨b1, b2, b3, b4, b5⟩ := KoS d
  obtain ⟨c1, c2, c3, c4⟩ := Q98 d
  unfold w33
  by_cases g : d.media < 0
  ·have g' := eq_true g
   have hr : negD d.de = true := by unfold negD Dsc.de; rw [decide_eq_true g]; rfl
   rw [hr]
   simp only [Qfy, Q7I, qe2, qur, X6x, simprocAttr, CO.tmps, Opd.tmps, optT, Nat.reducePow, Nat.reduceDiv, Nat.reduceMod, b1, b3, c1, c2, g']
   exact Bt.drop _ hh rfl rfl
  ·have g' := eq_false g
   have hr : negD d.de = decide (d.size < 0) := by unfold negD Dsc.de; rw [decide_eq_false g, Bool.false_or]
   rw [hr]
   simp only [Qfy, Q7I, qe2, qur, X6x, simprocAttr, CO.tmps, Opd.tmps, optT, Nat.reducePow, Nat.reduceDiv, Nat.reduceMod, b1, b3, c1, c2, g']
   exact Bt.drop _ hh rfl rfl
 ·cases e
noncomputable def Jpx : List Dsc → Nat → Int
 | [], _ => -1
 | d :: l, k => if negD d.de = true then (k : Int) else Jpx l (k + 1)
theorem J10 : ∀ (l : List Dsc) (k : Nat), (0 ≤ Jpx l k) ↔ l.any (fun d => negD d.de) = true
 | [], k => by simp [Jpx]
 | d :: l, k => by
  unfold Jpx
  by_cases g : negD d.de = true
  ·rw [if_pos g]; simp [g]
  ·rw [if_neg g, List.any_cons, J10 l (k + 1)]; simp [g]
theorem KqK (l : List Dsc) {n : Nat} (h : n < l.length) : Jpx (l.drop n) n = if negD (l.getD n deR.d).de = true then (n : Int) else Jpx (l.drop (n + 1)) (n + 1) := by
 rw [List.drop_eq_getElem_cons h, List.getD_eq_getElem?_getD, List.getElem?_eq_getElem h]
 rfl
noncomputable def K7q : List AV → List AB → Option (AV × List AB)
 | [a, .f (.func g) [] []], h => if g = 33 then (getS deR h a).bind fun l => some (.i .i64 (Jpx l 0), h) else none
 | _, _ => none
theorem zl0 : Spec Try.prog 60 K7q := by
 intro args h v h' e
 unfold K7q at e
 split at e
 ·rename_i a g
  split at e
  ·rename_i hg
   subst hg
   obtain ⟨l, hl, e1⟩ := Kra e
   clear e
   cases e1
   refine FnAt.c (FnAt.run (by kernel_rfl) (T := ⟨[⟨33, JNq, fun _ => []⟩], []⟩) ⟨⟨ZJ2, trivial⟩, trivial⟩ Try.func60 sw60 fun ho hh => ?_)
   simp only [Z3W, Bool.and_eq_true] at ho
   have f1 := hl.fx ho.1 (sz := 35) rfl
   unfold w60
   simp only [Qfy, Q7I, qe2, qur, X6x, simprocAttr, CO.tmps, Opd.tmps, optT, Nat.reducePow, Nat.reduceDiv, Nat.reduceMod, f1]
   refine J4A (S := Nat) (fun k => l.length - k) (fun k => [a, .f (.func 33) [] []] ++ tp 5 ++ [.i .i64 l.length, .i .i64 k] ++ tp 10) (fun k => k ≤ l.length ∧ Jpx l 0 = Jpx (l.drop k) k) 0 ⟨Nat.zero_le _, rfl⟩ (by simp only [qe2, X6x, simprocAttr, Int.natCast_zero]) fun k hk => ?_
   obtain ⟨k1, k2⟩ := hk
   by_cases gk : k < l.length
   ·have gk' : ((k : Int) < (l.length : Int)) = True := eq_true (by omega)
    have gk2 : ((0 : Int) ≤ (k : Int) ∧ (k : Int) < (l.length : Int)) = True := eq_true ⟨by omega, by omega⟩
    have gk3 := eq_true gk
    have e1 : IntKind.i64.wrap ((k : Int) + 1) = ((k + 1 : Nat) : Int) := zdT (by have := hl.2; unfold maxLen at this; unfold In64; omega)
    rw [k2]
    have st := KqK l gk
    obtain ⟨d, hd⟩ : ∃ d, d = l.getD k deR.d := ⟨_, rfl⟩
    rw [← hd] at st
    by_cases gd : negD d.de = true
    ·rw [if_pos gd] at st
     rw [st]
     simp only [qe2, qur, X6x, simprocAttr, CO.tmps, Opd.tmps, optT, Nat.reducePow, Nat.reduceDiv, Nat.reduceMod, f1, gk', gk2, gk3, ← hd, J1R, gd, JNq]
     exact Bt.drop _ hh rfl rfl
    ·rw [if_neg gd] at st
     have gd' : negD d.de = false := by simpa using gd
     simp only [qe2, qur, X6x, simprocAttr, CO.tmps, Opd.tmps, optT, Nat.reducePow, Nat.reduceDiv, Nat.reduceMod, f1, gk', gk2, gk3, ← hd, J1R, gd', e1, JNq]
     exact ⟨k + 1, ⟨gk, by first | exact st | rw [k2, st]⟩, by omega, Wk.refl _⟩
   ·obtain rfl : k = l.length := by omega
    have gk' : ((l.length : Int) < (l.length : Int)) = False := eq_false (by omega)
    rw [k2, List.drop_length]
    simp only [qe2, qur, X6x, simprocAttr, CO.tmps, Opd.tmps, optT, Nat.reducePow, Nat.reduceDiv, Nat.reduceMod, f1, gk']
    exact Bt.drop _ hh rfl rfl
  ·cases e
 ·cases e
noncomputable def Qcj : List AV → List AB → Option (AV × List AB)
 | [a, .f (.func g) [] []], h => if g = 33 then (getS deR h a).bind fun l => some (.b (l.any (fun d => negD d.de)), h) else none
 | _, _ => none
theorem JvQ : Spec Try.prog 32 Qcj := by
 intro args h v h' e
 unfold Qcj at e
 split at e
 ·rename_i a g
  split at e
  ·rename_i hg
   subst hg
   obtain ⟨l, hl, e1⟩ := Kra e
   clear e
   cases e1
   refine FnAt.c (FnAt.run (by kernel_rfl) (T := ⟨[⟨60, K7q, fun _ => []⟩], []⟩) ⟨⟨zl0, trivial⟩, trivial⟩ Try.func32 sw32 fun ho hh => ?_)
   simp only [Z3W, Bool.and_eq_true] at ho
   have f1 := hl.fx ho.1 (sz := 35) rfl
   unfold w32
   simp only [Qfy, Q7I, qe2, qur, X6x, simprocAttr, CO.tmps, Opd.tmps, optT, Nat.reducePow, Nat.reduceDiv, Nat.reduceMod, f1, XiN, K7q]
   refine Bt.drop _ hh ?_ rfl
   rw [AV.b.injEq, Bool.eq_iff_iff, decide_eq_true_eq]
   exact J10 l 0
  ·cases e
 ·cases e
end Go.Proofs.Ytpoojfnmhnedpaa
end
section
namespace Go.Proofs.Ytpoojfnmhnedpaa
set_option maxRecDepth 100000
set_option maxHeartbeats 4000000
theorem Kz8 {h : List AB} (L : List AB) (k n m : Nat) (xs ys : List AV) (hb : L[k]? = some (.blk true true xs)) (hx : xs.length = n * 35) (hm : m ≠ 0) (hn : n + m ≤ 1000000) : appW (h ++ L) true 35 64 (.sl (h.length + k) 0 n n (some 35)) m ys = some (.sl (h.length + L.length) 0 (n + m) (n + m) (some 35), h ++ (L.set k .dead ++ [.blk true true (xs ++ ys)])) := by
 have hk := (List.getElem?_eq_some_iff.1 hb).1
 have hg : (h ++ L)[h.length + k]? = some (.blk true true xs) := by rw [zSD]; exact hb
 simp only [appW, hg]
 rw [if_neg hm, if_neg (by omega), if_pos ⟨trivial, by omega, by omega, by unfold maxLen; omega⟩, if_neg (by simp), if_pos ⟨trivial, by decide, trivial, by omega⟩, List.drop_zero, List.length_append, List.set_append_right _ _ (by omega), Nat.add_sub_cancel_left, List.append_assoc]
theorem qzt {h : List AB} (L : List AB) (id n m : Nat) (k : Option Nat) (ys : List AV) (hm : m = 0) : appW (h ++ L) true 35 64 (.sl id 0 n n k) m ys = some (.sl id 0 n n k, h ++ L) := by subst hm; rfl
def desL (k : Int) (c : Dsc) (ls ss : List Dsc) : List Dsc := (if k = 3 then [c] else []) ++ ls ++ ss
theorem QbO (k : Int) (t : List UInt8) (c : Dsc) (ls ss : List Dsc) : (desL k c ls ss).map Dsc.de = allD (ZVh k t c ls ss) := by
 unfold desL allD ZVh
 dsimp only
 rw [List.map_append, List.map_append]
 split <;> rfl
noncomputable def Z6C : List AV → List AB → Option (AV × List AB)
 | [a], h => (inM h a).bind fun y => if y.2.2.2.2.2.1.length + y.2.2.2.2.2.2.length ≤ 100000 then some (apS deR h.length (desL y.1 y.2.2.1 y.2.2.2.2.2.1 y.2.2.2.2.2.2), h ++ [resB deR true (desL y.1 y.2.2.1 y.2.2.2.2.2.1 y.2.2.2.2.2.2)]) else none
 | _, _ => none
theorem zoP {P : Program} {h : List AB} (hh : HOk h) {L : List AB} (k : Nat) (hk : k < L.length) (l : List Dsc) {v : AV} (hv : v = apS deR (h.length + k) l) (hb : l.length = 0 ∨ L[k]? = some (resB deR true l)) : Bt P h.length [v] (h ++ L) [apS deR h.length l] (h ++ [resB deR true l]) := by
 subst hv
 refine Bt.sel [k] hh (by simp) ⟨?_, trivial⟩ ⟨.inr ⟨?_, ?_⟩, trivial⟩
 ·rcases hb with h0 | hb
  ·exact ⟨L[k], List.getElem?_eq_getElem hk, by rw [Yk7 true h0]; trivial⟩
  ·exact ⟨_, hb, of_eq_true (Ygp _ _ _ _)⟩
 ·exact Jzn _ _ _ (decide_eq_true (by simp))
 ·rw [Y7l, show selN h.length [k] h.length = h.length + k from Qbt 0]
  exact Wk.refl _
theorem zP0 (id : Nat) {l : List Dsc} (h0 : l.length ≠ 0) : apS deR id l = .sl id 0 l.length l.length (some 35) := by unfold apS; rw [if_neg h0]; rfl
theorem qqz {l : List Dsc} (h0 : l.length ≠ 0) : resB deR true l = .blk true true (deR.cells l) := by unfold resB; rw [if_neg h0]
theorem KPH (a b : List Dsc) : deR.cells (a ++ b) = deR.cells a ++ deR.cells b := by simp only [Row.cells, List.flatMap_append]
theorem QN5 (c : Dsc) : deR.cells [c] = deR.f c := by simp [Row.cells]
theorem qiV : Spec Try.prog 13 Z6C := by
 intro args h v h' e
 unfold Z6C at e
 split at e
 ·rename_i a
  obtain ⟨k, t, c, l, s, ls, ss, rfl, hl, hs, e1⟩ := QNw e
  clear e
  dsimp only at e1
  split at e1
  ·rename_i hlen
   cases e1
   refine FnAt.c (FnAt.frz fun hz => ?_)
   rw [show h.length = (h.map AB.freeze).length from (List.length_map _).symm]
   replace hl := hl.frz
   replace hs := hs.frz
   generalize h.map AB.freeze = h at *
   refine FnAt.run (by kernel_rfl) (T := ⟨[], []⟩) ⟨trivial, trivial⟩ Try.func13 sw13 fun ho hh => ?_
   obtain ⟨c1, c2, c3, c4⟩ := qoS c l s
   have ca := YfG c hl.isSl hs.isSl
   simp only [Z3W, Kt4, YwG, q43, Bool.and_eq_true, Bool.and_true] at ho
   obtain ⟨-, -, -, ol, os⟩ := ho
   have fl := hl.fx ol (sz := 35) rfl
   have fs := hs.fx os (sz := 35) rfl
   have sl := hl.src (sz := 35) rfl
   have sl2 := hs.src (sz := 35) rfl
   obtain ⟨b1, b2, b3, b4, b5⟩ := KoS c
   have hcl : (deR.cells ls).length = ls.length * 35 := deR.cells_len ls
   have hcs : (deR.cells ss).length = ss.length * 35 := deR.cells_len ss
   have z1 : (1 * 64 ≤ 140737488355328 ∧ 1 ≤ maxLen) = True := eq_true ⟨by decide, by unfold maxLen; omega⟩
   have z2 : (ls.length * 64 ≤ 140737488355328 ∧ ls.length ≤ maxLen) = True := eq_true ⟨by omega, by unfold maxLen; omega⟩
   have z3 : (ss.length * 64 ≤ 140737488355328 ∧ ss.length ≤ maxLen) = True := eq_true ⟨by omega, by unfold maxLen; omega⟩
   unfold w13
   by_cases g3 : k = 3
   ·have g3' := eq_true g3
    by_cases gl : ls.length = 0
    ·have gl' := eq_true gl
     by_cases gs : ss.length = 0
     ·have gs' := eq_true gs
      have hd : desL k c ls ss = [c] := by unfold desL; rw [if_pos g3]; rw [List.eq_nil_of_length_eq_zero gl]; rw [List.eq_nil_of_length_eq_zero gs]; try simp
      rw [hd]
      simp only [Qfy, Q7I, qe2, qur, X6x, simprocAttr, CO.tmps, Opd.tmps, optT, Nat.reducePow, Nat.reduceDiv, Nat.reduceMod, c1, c2, c3, c4, ca, b1, b2, b3, b4, b5, q43, fl, fs, sl, sl2, z1, z2, z3, zb6, qzt, List.getElem?_cons_zero, List.getElem?_cons_succ, zDt hh, qwE hz, ZqV hz, zhe hz, g3', gl', gs']
      exact zoP hh 2 (by simp) ([c]) (by rw [zP0 _ (by first | omega | (simp only [List.length_append, List.length_cons, List.length_nil]; omega))]; try simp only [List.length_append, List.length_cons, List.length_nil, Nat.zero_add, Nat.add_assoc]) (.inr (by rw [qqz (by first | omega | (simp only [List.length_append, List.length_cons, List.length_nil]; omega))]; try simp only [KPH, QN5, List.getElem?_cons_zero, List.getElem?_cons_succ, List.append_assoc]))
     ·have gs' := eq_false gs
      have hd : desL k c ls ss = [c]++ss := by unfold desL; rw [if_pos g3]; rw [List.eq_nil_of_length_eq_zero gl]; try simp
      rw [hd]
      have fa1 := fun L k hb => Kz8 (h := h) L k (1) ss.length (deR.f c) (deR.cells ss) hb (by omega) gs (by omega)
      simp only [Qfy, Q7I, qe2, qur, X6x, simprocAttr, CO.tmps, Opd.tmps, optT, Nat.reducePow, Nat.reduceDiv, Nat.reduceMod, c1, c2, c3, c4, ca, b1, b2, b3, b4, b5, q43, fl, fs, sl, sl2, z1, z2, z3, zb6, qzt, List.getElem?_cons_zero, List.getElem?_cons_succ, zDt hh, qwE hz, ZqV hz, zhe hz, g3', gl', gs', fa1]
      exact zoP hh 3 (by simp) ([c]++ss) (by rw [zP0 _ (by first | omega | (simp only [List.length_append, List.length_cons, List.length_nil]; omega))]; try simp only [List.length_append, List.length_cons, List.length_nil, Nat.zero_add, Nat.add_assoc]) (.inr (by rw [qqz (by first | omega | (simp only [List.length_append, List.length_cons, List.length_nil]; omega))]; try simp only [KPH, QN5, List.getElem?_cons_zero, List.getElem?_cons_succ, List.append_assoc]))
    ·have gl' := eq_false gl
     by_cases gs : ss.length = 0
     ·have gs' := eq_true gs
      have hd : desL k c ls ss = [c]++ls := by unfold desL; rw [if_pos g3]; rw [List.eq_nil_of_length_eq_zero gs]; try simp
      rw [hd]
      have fa1 := fun L k hb => Kz8 (h := h) L k (1) ls.length (deR.f c) (deR.cells ls) hb (by omega) gl (by omega)
      simp only [Qfy, Q7I, qe2, qur, X6x, simprocAttr, CO.tmps, Opd.tmps, optT, Nat.reducePow, Nat.reduceDiv, Nat.reduceMod, c1, c2, c3, c4, ca, b1, b2, b3, b4, b5, q43, fl, fs, sl, sl2, z1, z2, z3, zb6, qzt, List.getElem?_cons_zero, List.getElem?_cons_succ, zDt hh, qwE hz, ZqV hz, zhe hz, g3', gl', gs', fa1]
      exact zoP hh 3 (by simp) ([c]++ls) (by rw [zP0 _ (by first | omega | (simp only [List.length_append, List.length_cons, List.length_nil]; omega))]; try simp only [List.length_append, List.length_cons, List.length_nil, Nat.zero_add, Nat.add_assoc]) (.inr (by rw [qqz (by first | omega | (simp only [List.length_append, List.length_cons, List.length_nil]; omega))]; try simp only [KPH, QN5, List.getElem?_cons_zero, List.getElem?_cons_succ, List.append_assoc]))
     ·have gs' := eq_false gs
      have hd : desL k c ls ss = [c]++ls++ss := by unfold desL; rw [if_pos g3]; try simp
      rw [hd]
      have fa1 := fun L k hb => Kz8 (h := h) L k (1) ls.length (deR.f c) (deR.cells ls) hb (by omega) gl (by omega)
      have fa2 := fun L k hb => Kz8 (h := h) L k (1 + ls.length) ss.length (deR.f c ++ deR.cells ls) (deR.cells ss) hb (by simp only [List.length_append, b1, hcl, hcs]; omega) gs (by omega)
      simp only [Qfy, Q7I, qe2, qur, X6x, simprocAttr, CO.tmps, Opd.tmps, optT, Nat.reducePow, Nat.reduceDiv, Nat.reduceMod, c1, c2, c3, c4, ca, b1, b2, b3, b4, b5, q43, fl, fs, sl, sl2, z1, z2, z3, zb6, qzt, List.getElem?_cons_zero, List.getElem?_cons_succ, zDt hh, qwE hz, ZqV hz, zhe hz, g3', gl', gs', fa1, fa2]
      exact zoP hh 4 (by simp) ([c]++ls++ss) (by rw [zP0 _ (by first | omega | (simp only [List.length_append, List.length_cons, List.length_nil]; omega))]; try simp only [List.length_append, List.length_cons, List.length_nil, Nat.zero_add, Nat.add_assoc]) (.inr (by rw [qqz (by first | omega | (simp only [List.length_append, List.length_cons, List.length_nil]; omega))]; try simp only [KPH, QN5, List.getElem?_cons_zero, List.getElem?_cons_succ, List.append_assoc]))
   ·have g3' := eq_false g3
    by_cases gl : ls.length = 0
    ·have gl' := eq_true gl
     by_cases gs : ss.length = 0
     ·have gs' := eq_true gs
      have hd : desL k c ls ss = [] := by unfold desL; rw [if_neg g3]; rw [List.eq_nil_of_length_eq_zero gl]; rw [List.eq_nil_of_length_eq_zero gs]; try simp
      rw [hd]
      simp only [Qfy, Q7I, qe2, qur, X6x, simprocAttr, CO.tmps, Opd.tmps, optT, Nat.reducePow, Nat.reduceDiv, Nat.reduceMod, c1, c2, c3, c4, ca, b1, b2, b3, b4, b5, q43, fl, fs, sl, sl2, z1, z2, z3, zb6, qzt, List.getElem?_cons_zero, List.getElem?_cons_succ, zDt hh, qwE hz, ZqV hz, zhe hz, g3', gl', gs']
      exact zoP hh 0 (by simp) [] rfl (.inl rfl)
     ·have gs' := eq_false gs
      have hd : desL k c ls ss = ss := by unfold desL; rw [if_neg g3]; rw [List.eq_nil_of_length_eq_zero gl]; try simp
      rw [hd]
      simp only [Qfy, Q7I, qe2, qur, X6x, simprocAttr, CO.tmps, Opd.tmps, optT, Nat.reducePow, Nat.reduceDiv, Nat.reduceMod, c1, c2, c3, c4, ca, b1, b2, b3, b4, b5, q43, fl, fs, sl, sl2, z1, z2, z3, zb6, qzt, List.getElem?_cons_zero, List.getElem?_cons_succ, zDt hh, qwE hz, ZqV hz, zhe hz, g3', gl', gs']
      exact zoP hh 1 (by simp) (ss) (by rw [zP0 _ (by first | omega | (simp only [List.length_append, List.length_cons, List.length_nil]; omega))]; try simp only [List.length_append, List.length_cons, List.length_nil, Nat.zero_add, Nat.add_assoc]) (.inr (by rw [qqz (by first | omega | (simp only [List.length_append, List.length_cons, List.length_nil]; omega))]; try simp only [KPH, QN5, List.getElem?_cons_zero, List.getElem?_cons_succ, List.append_assoc]))
    ·have gl' := eq_false gl
     by_cases gs : ss.length = 0
     ·have gs' := eq_true gs
      have hd : desL k c ls ss = ls := by unfold desL; rw [if_neg g3]; rw [List.eq_nil_of_length_eq_zero gs]; try simp
      rw [hd]
      simp only [Qfy, Q7I, qe2, qur, X6x, simprocAttr, CO.tmps, Opd.tmps, optT, Nat.reducePow, Nat.reduceDiv, Nat.reduceMod, c1, c2, c3, c4, ca, b1, b2, b3, b4, b5, q43, fl, fs, sl, sl2, z1, z2, z3, zb6, qzt, List.getElem?_cons_zero, List.getElem?_cons_succ, zDt hh, qwE hz, ZqV hz, zhe hz, g3', gl', gs']
      exact zoP hh 1 (by simp) (ls) (by rw [zP0 _ (by first | omega | (simp only [List.length_append, List.length_cons, List.length_nil]; omega))]; try simp only [List.length_append, List.length_cons, List.length_nil, Nat.zero_add, Nat.add_assoc]) (.inr (by rw [qqz (by first | omega | (simp only [List.length_append, List.length_cons, List.length_nil]; omega))]; try simp only [KPH, QN5, List.getElem?_cons_zero, List.getElem?_cons_succ, List.append_assoc]))
     ·have gs' := eq_false gs
      have hd : desL k c ls ss = ls++ss := by unfold desL; rw [if_neg g3]; try simp
      rw [hd]
      have fa1 := fun L k hb => Kz8 (h := h) L k (ls.length) ss.length (deR.cells ls) (deR.cells ss) hb (by omega) gs (by omega)
      simp only [Qfy, Q7I, qe2, qur, X6x, simprocAttr, CO.tmps, Opd.tmps, optT, Nat.reducePow, Nat.reduceDiv, Nat.reduceMod, c1, c2, c3, c4, ca, b1, b2, b3, b4, b5, q43, fl, fs, sl, sl2, z1, z2, z3, zb6, qzt, List.getElem?_cons_zero, List.getElem?_cons_succ, zDt hh, qwE hz, ZqV hz, zhe hz, g3', gl', gs', fa1]
      exact zoP hh 2 (by simp) (ls++ss) (by rw [zP0 _ (by first | omega | (simp only [List.length_append, List.length_cons, List.length_nil]; omega))]; try simp only [List.length_append, List.length_cons, List.length_nil, Nat.zero_add, Nat.add_assoc]) (.inr (by rw [qqz (by first | omega | (simp only [List.length_append, List.length_cons, List.length_nil]; omega))]; try simp only [KPH, QN5, List.getElem?_cons_zero, List.getElem?_cons_succ, List.append_assoc]))
  ·cases e1
 ·cases e
end Go.Proofs.Ytpoojfnmhnedpaa
end
section
namespace Go.Proofs.Ytpoojfnmhnedpaa
set_option maxRecDepth 100000
set_option maxHeartbeats 4000000
structure EB (k : Int) (t : List UInt8) (c : Dsc) (ls ss : List Dsc) : Prop where
 k : In64 k
 t : t.length ≤ 1000000
 c : DB c
 n : ls.length + ss.length ≤ 1000
 d : ∀ d ∈ ls ++ ss, DB d
open Classical in
noncomputable def YpP : List AV → List AB → Option (AV × List AB)
 | [a], h => (inM h a).bind fun y => if EB y.1 y.2.1 y.2.2.1 y.2.2.2.2.2.1 y.2.2.2.2.2.2 then
   some (.tu [rsl XQp h.length (menc (ZVh y.1 y.2.1 y.2.2.1 y.2.2.2.2.2.1 y.2.2.2.2.2.2)).1, .i .i64 (menc (ZVh y.1 y.2.1 y.2.2.1 y.2.2.2.2.2.1 y.2.2.2.2.2.2)).2], h ++ [resB XQp true (menc (ZVh y.1 y.2.1 y.2.2.1 y.2.2.2.2.2.1 y.2.2.2.2.2.2)).1]) else none
 | _, _ => none
theorem YFw {P : Program} {h : List AB} (hh : HOk h) (L : List AB) (e : Int) : Bt P h.length [.tu [.ns, .i .i64 e]] (h ++ L) [.tu [rsl XQp h.length [], .i .i64 e]] (h ++ [resB XQp true []]) := by
 refine Bt.trans (Bt.wk1 (Wk.tu (l' := [rsl XQp h.length [], .i .i64 e]) ⟨Wk.nil _ _, Wk.refl _, trivial⟩)) ?_
 exact Bt.trans (Bt.drop (P := P) (v := .tu [rsl XQp h.length [], .i .i64 e]) (a := .tu [rsl XQp h.length [], .i .i64 e]) L hh rfl rfl) (Bt.pad _ _ 1)
theorem YXN : Spec Try.prog 11 YpP := by
 intro args h v h' e
 unfold YpP at e
 split at e
 ·rename_i a
  obtain ⟨k, t, c, l, s, ls, ss, rfl, hl, hs, e1⟩ := QNw e
  clear e
  dsimp only at e1
  split at e1
  ·rename_i B
   cases e1
   obtain ⟨Bk, Bt0, Bc, Bn, Bd⟩ := B
   have T0 : ∀ x : MEnv, True := fun _ => trivial
   obtain ⟨p, hp⟩ : ∃ p, p = h.length := ⟨_, rfl⟩
   obtain ⟨x, hx⟩ : ∃ x : MEnv, x = ⟨p + 2, p + 6, p + 4, p + 0, p + 5, k, t, c, l, s, ls, ss⟩ := ⟨_, rfl⟩
   refine FnAt.c (FnAt.run (by kernel_rfl) (T := ⟨[⟨31, Ysw, fun _ => []⟩, ⟨13, Z6C, fun _ => []⟩, ⟨32, Qcj, fun _ => []⟩, ⟨27, Zu3, fun _ => []⟩, ⟨39, zNn x, fun _ => []⟩], []⟩) ⟨⟨Kw2, qiV, JvQ, zoE, Kjo x, trivial⟩, trivial⟩ Try.func11 sw11 fun ho hh => ?_)
   obtain ⟨c1, c2, c3, c4⟩ := qoS c l s
   have ca := YfG c hl.isSl hs.isSl
   simp only [Z3W, Kt4, YwG, q43, Bool.and_eq_true, Bool.and_true] at ho
   obtain ⟨-, -, -, ol, os⟩ := ho
   have fl := hl.fx ol (sz := 35) rfl
   have fs := hs.fx os (sz := 35) rfl
   have im : ∀ L, inM (h ++ L) (.ag (.i .i64 k :: .s t :: (deR.f c ++ [l, s]))) = some (k, t, c, l, s, ls, ss) := fun L => Xi3 (hl.app L).get (hs.app L).get
   have tm : ((deR.f c ++ [l, s]).take 37) = deR.f c ++ [l, s] := List.take_of_length_le (by omega)
   have n1 : (ls.length + ss.length ≤ 100000) = True := eq_true (by omega)
   have hany : (desL k c ls ss).any (fun d => negD d.de) = (allD (ZVh k t c ls ss)).any negD := by
    rw [← QbO k t c ls ss, List.any_map]
    rfl
   have hdl : (desL k c ls ss).length ≤ maxLen := by
    unfold desL maxLen
    rw [List.length_append, List.length_append]
    split <;> simp <;> omega
   have gd : ∀ (B0 : AB) (R : List AB), getS deR (h ++ (B0 :: resB deR true (desL k c ls ss) :: R)) (apS deR (h.length + 1) (desL k c ls ss)) = some (desL k c ls ss) := fun B0 R => by
    by_cases h0 : (desL k c ls ss).length = 0
    ·rw [List.eq_nil_of_length_eq_zero h0, Y7j, Jpk]
    ·rw [JeD _ h0]
     exact Z9G (r := deR) (B0 :: resB deR true (desL k c ls ss) :: R) 1 _ ⟨true, rfl⟩ hdl
   unfold w11
   by_cases g1 : zHI (ZVh k t c ls ss) = true
   case neg =>
    have g1' : zHI (ZVh k t c ls ss) = false := by simpa using g1
    have hr : menc (ZVh k t c ls ss) = ([], 20) := by unfold menc; rw [if_neg g1]
    rw [hr]
    simp only [Qfy, Q7I, qe2, qur, X6x, simprocAttr, CO.tmps, Opd.tmps, optT, Nat.reducePow, Nat.reduceDiv, Nat.reduceMod, c1, ca, tm, im, g1', Ysw]
    exact YFw hh _ 20
   by_cases g2 : (allD (ZVh k t c ls ss)).any negD = true
   ·have hr : menc (ZVh k t c ls ss) = ([], 3) := by unfold menc; rw [if_pos g1, if_pos g2]
    rw [hr]
    simp only [Qfy, Q7I, qe2, qur, X6x, simprocAttr, CO.tmps, Opd.tmps, optT, Nat.reducePow, Nat.reduceDiv, Nat.reduceMod, c1, ca, tm, im, g1, n1, gd, hany, g2, Ysw, Z6C, Qcj]
    exact YFw hh _ 3
   have g2' : (allD (ZVh k t c ls ss)).any negD = false := by simpa using g2
   by_cases g3 : 16 < ls.length
   ·have g3' : ((16 : Int) < (ls.length : Int)) = True := eq_true (by omega)
    have hr : menc (ZVh k t c ls ss) = ([], 4) := by
     unfold menc
     rw [if_pos g1, if_neg g2, if_pos]
     exact .inl (by unfold ZVh; simpa using g3)
    rw [hr]
    simp only [Qfy, Q7I, qe2, qur, X6x, simprocAttr, CO.tmps, Opd.tmps, optT, Nat.reducePow, Nat.reduceDiv, Nat.reduceMod, c1, c2, c3, ca, tm, im, fl, fs, g1, n1, gd, hany, g2', g3', Ysw, Z6C, Qcj]
    exact YFw hh _ 4
   have g3' : ((16 : Int) < (ls.length : Int)) = False := eq_false (by omega)
   by_cases g4 : 8 < ss.length
   ·have g4' : ((8 : Int) < (ss.length : Int)) = True := eq_true (by omega)
    have hr : menc (ZVh k t c ls ss) = ([], 4) := by
     unfold menc
     rw [if_pos g1, if_neg g2, if_pos]
     exact .inr (by unfold ZVh; simpa using g4)
    rw [hr]
    simp only [Qfy, Q7I, qe2, qur, X6x, simprocAttr, CO.tmps, Opd.tmps, optT, Nat.reducePow, Nat.reduceDiv, Nat.reduceMod, c1, c2, c3, ca, tm, im, fl, fs, g1, n1, gd, hany, g2', g3', g4', Ysw, Z6C, Qcj]
    exact YFw hh _ 4
   have g4' : ((8 : Int) < (ss.length : Int)) = False := eq_false (by omega)
   have hr : menc (ZVh k t c ls ss) = (Xc0 (seqR 4096 ([], 0) (ZVh k t c ls ss) 5).2 (seqR 4096 ([], 0) (ZVh k t c ls ss) 5).1, (seqR 4096 ([], 0) (ZVh k t c ls ss) 5).2) := by
    unfold menc
    rw [if_pos g1, if_neg g2, if_neg]
    unfold ZVh
    simp only [List.length_map]
    omega
   rw [hr]
   obtain ⟨st, hst⟩ : ∃ st, st = seqR 4096 ([], 0) (ZVh k t c ls ss) 5 := ⟨_, rfl⟩
   rw [← hst]
   subst hp
   have ta : ∀ B1 : AB, zNn x [.p (h.length + 2) 0, .sl (h.length + 6) 0 5 5 none] (h ++ [.blk false true (.i .i64 k :: .s t :: (deR.f c ++ [l, s])), B1, .blk false true [.p (h.length + 3) 0, .i .i64 4096, .ns], .blk true true [.i .i64 0, .i .i64 0], .blk false true [.p (h.length + 2) 0], .blk false true [.f (.func 34) [] [.p (h.length + 4) 0]], .blk false true [.f (.func 40) [] [.p (h.length + 4) 0], .f (.func 41) [] [.p (h.length + 4) 0, .p (h.length + 0) 0], .f (.func 42) [] [.p (h.length + 4) 0, .p (h.length + 0) 0], .f (.func 36) [] [.p (h.length + 0) 0, .p (h.length + 5) 0], .f (.func 37) [] [.p (h.length + 0) 0, .p (h.length + 4) 0, .p (h.length + 5) 0]]]) = some (.tu [rsl XQp (h.length + 7) (Xc0 st.2 st.1), .i .i64 st.2], h ++ [.blk false true (.i .i64 k :: .s t :: (deR.f c ++ [l, s])), B1, .dead, .dead, .blk false true [.p (h.length + 2) 0], .blk false true [.f (.func 34) [] [.p (h.length + 4) 0]], .blk false true [.f (.func 40) [] [.p (h.length + 4) 0], .f (.func 41) [] [.p (h.length + 4) 0, .p (h.length + 0) 0], .f (.func 42) [] [.p (h.length + 4) 0, .p (h.length + 0) 0], .f (.func 36) [] [.p (h.length + 0) 0, .p (h.length + 5) 0], .f (.func 37) [] [.p (h.length + 0) 0, .p (h.length + 4) 0, .p (h.length + 5) 0]], resB XQp true (Xc0 st.2 st.1)]) := fun B1 => by
    generalize hLL : [.blk false true (.i .i64 k :: .s t :: (deR.f c ++ [l, s])), B1, .blk false true [.p (h.length + 3) 0, .i .i64 4096, .ns], .blk true true [.i .i64 0, .i .i64 0], .blk false true [.p (h.length + 2) 0], .blk false true [.f (.func 34) [] [.p (h.length + 4) 0]], .blk false true [.f (.func 40) [] [.p (h.length + 4) 0], .f (.func 41) [] [.p (h.length + 4) 0, .p (h.length + 0) 0], .f (.func 42) [] [.p (h.length + 4) 0, .p (h.length + 0) 0], .f (.func 36) [] [.p (h.length + 0) 0, .p (h.length + 5) 0], .f (.func 37) [] [.p (h.length + 0) 0, .p (h.length + 4) 0, .p (h.length + 5) 0]]] = LL
    have W : WrH (h ++ LL) (h.length + 2) (h.length + 3) 4096 .ns [] 0 := ⟨by rw [zSD, ← hLL]; rfl, by rw [zSD, ← hLL]; rfl, by decide, by decide, .inl ⟨rfl, rfl⟩⟩
    have E : EnvH (h ++ LL) x := by
     rw [hx]
     exact ⟨by rw [Q9u, ← hLL]; simp only [JTL, JoO], by rw [Q9u, ← hLL]; simp only [JTL, JoO], by rw [Q9u, ← hLL]; simp only [JTL, JoO], by rw [Q9u, ← hLL]; simp only [JTL, JoO], hl.app LL, hs.app LL⟩
    have EBx : EnvB x := by
     rw [hx]
     exact ⟨Bk, Bt0, Bc, Bn, Bd⟩
    have hi : x.i = h.length + 2 := by rw [hx]
    have hf : x.fid = h.length + 6 := by rw [hx]
    have hm : x.man = ZVh k t c ls ss := by rw [hx]; rfl
    unfold zNn
    rw [if_pos ⟨by rw [hi, hf], E, EBx⟩, hi, W.get, Option.bind_some]
    dsimp only
    rw [if_pos ⟨rfl, by decide, rfl⟩, hm, ← hst, YFW, YFW, List.length_append, List.append_assoc, ← hLL]
    rfl
   have np1 : AV.np.one = true := rfl
   have nf1 : AV.nf.one = true := rfl
   simp only [Qfy, Q7I, qe2, qur, X6x, simprocAttr, CO.tmps, Opd.tmps, optT, Nat.reducePow, Nat.reduceDiv, Nat.reduceMod, c1, c2, c3, ca, tm, im, fl, fs, g1, n1, gd, hany, g2', g3', g4', np1, nf1, ta, Ysw, Z6C, Qcj, Zu3]
   exact Bt.sel [7] hh (by simp) ⟨⟨_, rfl, of_eq_true (Ygp _ _ _ _)⟩, trivial⟩ ⟨.inr ⟨by rw [zEo, Z3W, XPo _ _ _ (decide_eq_true (by simp))]; rfl, by simp only [AV.ren, renL, zsP]; rw [show selN h.length [7] h.length = h.length + 7 from Qbt 0]; exact Wk.refl _⟩, trivial⟩
  ·cases e1
 ·cases e
end Go.Proofs.Ytpoojfnmhnedpaa
end
section
namespace Go.Proofs.Ytpoojfnmhnedpaa
set_option maxRecDepth 100000
set_option maxHeartbeats 4000000
theorem JXw (x y : List UInt8) : binV .eql (.s x) (.s y) = some (.b (decide (x = y))) := by
 rw [J61]
 congr 2
 exact Bool.eq_iff_iff.2 (by simp)
abbrev MT := Int × List UInt8 × Dsc × AV × AV × List Dsc × List Dsc
def MT.key (x : MT) : Int × List UInt8 × Dsc × List Dsc × List Dsc := (x.1, x.2.1, x.2.2.1, x.2.2.2.2.2.1, x.2.2.2.2.2.2)
noncomputable def X1j : List AV → List AB → Option (AV × List AB)
 | [a, b], h => (inM h a).bind fun x => (inM h b).bind fun y => some (.b (decide (MT.key x = MT.key y)), h)
 | _, _ => none
theorem XuP : Spec Try.prog 18 X1j := by
 intro args h v h' e
 unfold X1j at e
 split at e
 ·rename_i a b
  obtain ⟨k, t, c, l, s, ls, ss, rfl, hl, hs, e1⟩ := QNw e
  clear e
  obtain ⟨k', t', c', l', s', ls', ss', rfl, hl', hs', e2⟩ := QNw e1
  clear e1
  cases e2
  refine FnAt.c (FnAt.run (by kernel_rfl) (T := ⟨[⟨15, QvN, fun _ => []⟩], []⟩) ⟨⟨QEM, trivial⟩, trivial⟩ Try.func18 sw18 fun ho hh => ?_)
  obtain ⟨c1, c2, c3, c4⟩ := qoS c l s
  obtain ⟨d1, d2, d3, d4⟩ := qoS c' l' s'
  have ca := YfG c hl.isSl hs.isSl
  have da := YfG c' hl'.isSl hs'.isSl
  have z1 := zA3 c c'
  have g1 : ∀ L, getS deR (h ++ L) l = some ls := fun L => (hl.app L).get
  have g2 : ∀ L, getS deR (h ++ L) s = some ss := fun L => (hs.app L).get
  have g3 : ∀ L, getS deR (h ++ L) l' = some ls' := fun L => (hl'.app L).get
  have g4 : ∀ L, getS deR (h ++ L) s' = some ss' := fun L => (hs'.app L).get
  have r1 : (2 + 35 ≤ 37 + 1 + 1) = True := eq_true (by omega)
  have key : decide (MT.key (k, t, c, l, s, ls, ss) = MT.key (k', t', c', l', s', ls', ss')) = decide (k = k' ∧ t = t' ∧ c = c' ∧ ls = ls' ∧ ss = ss') := by
   unfold MT.key
   exact decide_eq_decide.2 (by simp only [Prod.mk.injEq])
  rw [key]
  unfold w18
  by_cases q1 : k = k'
  case neg =>
   have q1' := eq_false q1
   rw [decide_eq_false fun q => q1 q.1]
   simp only [Qfy, Q7I, qe2, qur, X6x, simprocAttr, CO.tmps, Opd.tmps, optT, Nat.reducePow, Nat.reduceDiv, Nat.reduceMod, c1, c2, c3, c4, d1, d2, d3, d4, ca, da, q1']
   exact Bt.drop _ hh rfl rfl
  have q1' := eq_true q1
  by_cases q2 : t = t'
  case neg =>
   have q2' := eq_false q2
   rw [decide_eq_false fun q => q2 q.2.1]
   simp only [Qfy, Q7I, qe2, qur, X6x, simprocAttr, CO.tmps, Opd.tmps, optT, Nat.reducePow, Nat.reduceDiv, Nat.reduceMod, JXw, c1, c2, c3, c4, d1, d2, d3, d4, ca, da, q1', q2']
   exact Bt.drop _ hh rfl rfl
  have q2' := eq_true q2
  by_cases q3 : c = c'
  case neg =>
   have q3' := eq_false q3
   rw [decide_eq_false fun q => q3 q.2.2.1]
   simp only [Qfy, Q7I, qe2, qur, X6x, simprocAttr, CO.tmps, Opd.tmps, optT, Nat.reducePow, Nat.reduceDiv, Nat.reduceMod, JXw, c1, c2, c3, c4, d1, d2, d3, d4, ca, da, z1, q1', q2', q3']
   exact Bt.drop _ hh rfl rfl
  have q3' := eq_true q3
  by_cases q4 : ls = ls'
  case neg =>
   have q4' := eq_false q4
   rw [decide_eq_false fun q => q4 q.2.2.2.1]
   simp only [Qfy, Q7I, qe2, qur, X6x, simprocAttr, CO.tmps, Opd.tmps, optT, Nat.reducePow, Nat.reduceDiv, Nat.reduceMod, JXw, c1, c2, c3, c4, d1, d2, d3, d4, ca, da, z1, g1, g3, q1', q2', q3', q4', QvN]
   exact Bt.drop _ hh rfl rfl
  have q4' := eq_true q4
  have kk : decide (k = k' ∧ t = t' ∧ c = c' ∧ ls = ls' ∧ ss = ss') = decide (ss = ss') := decide_eq_decide.2 ⟨fun q => q.2.2.2.2, fun q => ⟨q1, q2, q3, q4, q⟩⟩
  rw [kk]
  simp only [Qfy, Q7I, qe2, qur, X6x, simprocAttr, CO.tmps, Opd.tmps, optT, Nat.reducePow, Nat.reduceDiv, Nat.reduceMod, JXw, c1, c2, c3, c4, d1, d2, d3, d4, ca, da, z1, g1, g2, g3, g4, q1', q2', q3', q4', QvN]
  exact Bt.drop _ hh rfl rfl
 ·cases e
open Classical in
noncomputable def zbp : List AV → List AB → Option (AV × List AB)
 | [a, .i .i64 e], h => (inM h a).bind fun y => if EB y.1 y.2.1 y.2.2.1 y.2.2.2.2.2.1 y.2.2.2.2.2.2 then
   some (.b (decide ((menc (ZVh y.1 y.2.1 y.2.2.1 y.2.2.2.2.2.1 y.2.2.2.2.2.2)).1.length = 0 ∧ (menc (ZVh y.1 y.2.1 y.2.2.1 y.2.2.2.2.2.1 y.2.2.2.2.2.2)).2 = e)), h) else none
 | _, _ => none
theorem z61 : Spec Try.prog 24 zbp := by
 intro args h v h' e
 unfold zbp at e
 split at e
 ·rename_i a er
  obtain ⟨k, t, c, l, s, ls, ss, rfl, hl, hs, e1⟩ := QNw e
  clear e
  dsimp only at e1
  split at e1
  ·rename_i B
   cases e1
   refine FnAt.c (FnAt.run (by kernel_rfl) (T := ⟨[⟨11, YpP, fun _ => []⟩], []⟩) ⟨⟨YXN, trivial⟩, trivial⟩ Try.func24 sw24 fun ho hh => ?_)
   obtain ⟨c1, c2, c3, c4⟩ := qoS c l s
   have ca := YfG c hl.isSl hs.isSl
   have tm : ((deR.f c ++ [l, s]).take 37) = deR.f c ++ [l, s] := List.take_of_length_le (by omega)
   have im : ∀ L, inM (h ++ L) (.ag (.i .i64 k :: .s t :: (deR.f c ++ [l, s]))) = some (k, t, c, l, s, ls, ss) := fun L => Xi3 (hl.app L).get (hs.app L).get
   have B' := eq_true B
   obtain ⟨E, hE⟩ : ∃ E, E = menc (ZVh k t c ls ss) := ⟨_, rfl⟩
   rw [← hE]
   unfold w24
   by_cases g : E.1.length = 0
   ·have g' : ((E.1.length : Int) = 0) = True := eq_true (by omega)
    have hr : decide (E.1.length = 0 ∧ E.2 = er) = decide (E.2 = er) := decide_eq_decide.2 ⟨fun q => q.2, fun q => ⟨g, q⟩⟩
    rw [hr]
    simp only [Qfy, Q7I, qe2, qur, X6x, simprocAttr, CO.tmps, Opd.tmps, optT, Nat.reducePow, Nat.reduceDiv, Nat.reduceMod, c1, ca, tm, im, B', ← hE, g', YpP]
    exact Bt.drop _ hh rfl rfl
   ·have g' : ((E.1.length : Int) = 0) = False := eq_false (by omega)
    rw [decide_eq_false fun q => g q.1]
    simp only [Qfy, Q7I, qe2, qur, X6x, simprocAttr, CO.tmps, Opd.tmps, optT, Nat.reducePow, Nat.reduceDiv, Nat.reduceMod, c1, ca, tm, im, B', ← hE, g', YpP]
    exact Bt.drop _ hh rfl rfl
  ·cases e1
 ·cases e
end Go.Proofs.Ytpoojfnmhnedpaa
end
