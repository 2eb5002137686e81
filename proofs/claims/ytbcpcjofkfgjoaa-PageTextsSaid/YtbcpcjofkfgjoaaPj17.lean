/- Part 17 of what the laws' proofs rest on. No condition. -/
import Derived.Test.YtbcpcjofkfgjoaaPj16
set_option linter.all false
section
namespace Go.Proofs.Ytbcpcjofkfgjoaa
set_option maxRecDepth 100000
set_option maxHeartbeats 4000000
def SameRd (H H' : List AB) : Prop := ∀ i cs, z16 H i = some cs → z16 H' i = some cs
theorem SameRd.app (H L : List AB) : SameRd H (H ++ L) := fun i cs e => by
 unfold z16 at e ⊢
 by_cases hi : i < H.length
 ·rw [List.getElem?_append_left hi]; exact e
 ·rw [List.getElem?_eq_none (by omega)] at e; cases e
theorem SameRd.it (h M : List AB) (A : AB) (s : List UInt8) (p p' : Nat) : SameRd (h ++ A :: itr s p :: M) (h ++ A :: itr s p' :: M) := fun i cs e => by
 unfold z16 at e ⊢
 by_cases hi : i < h.length
 ·rw [List.getElem?_append_left hi] at e ⊢; exact e
 ·rw [List.getElem?_append_right (by omega)] at e ⊢
  generalize i - h.length = k at e ⊢
  match k with
  | 0 => exact e
  | 1 => cases e
  | k + 2 => exact e
structure Aut (Tb : Tab) (Q : Type) where
 step : Q → Int → Option Q
 ends : Q → Bool
 Rep : List AB → Nat → Q → Prop
 big : ∀ q c, 128 ≤ c → step q c = none
 mono : ∀ {H H' j q}, SameRd H H' → Rep H j q → Rep H' j q
 cel : ∀ {H j q}, Rep H j q → ∃ g fst cap, z16 H j = some [.f (.func g) fst cap, .b (ends q)] ∧ ∀ c : Int,
  (step q c = none → Tb.at g (fst ++ [.i .i32 c] ++ cap) H = some (.np, H)) ∧
  ∀ q', step q c = some q' → ∃ j' L, Tb.at g (fst ++ [.i .i32 c] ++ cap) H = some (.p j' 0, H ++ L) ∧ Rep (H ++ L) j' q'
theorem runA {Tb : Tab} (hTb : QHs (Spec Try.prog) Tb) {Q : Type} (A : Aut Tb Q) {h : List AB} {s : List UInt8} {j0 : Nat} {e : Int} {q0 : Q} (hj : A.Rep h j0 q0) (hs : s.length ≤ 1000000) :
  FnAt Try.prog 71 [.s s, .p j0 0, .i .i64 e] h (fltA e (runB A.step A.ends s 0 q0)) h := by
 refine FnAt.run (by kernel_rfl) (T := ⟨Tb, []⟩) ⟨hTb, trivial⟩ Try.func71 sw71 fun ho hh => ?_
 unfold w71
 have en0 : YBq .np .np = some true := rfl
 have en1 : ∀ a b, YBq (.p a b) .np = some false := fun _ _ => rfl
 simp only [KXL, JuQ, QbA, KI8, qi4, simprocAttr, CO.tmps, Opd.tmps, optT, Nat.reducePow, Nat.reduceDiv, Nat.reduceMod, Yq6]
 refine Qxr (S := Nat × Q × Nat × List AB) (fun σ => s.length - σ.1) (fun σ => [.s s, .p σ.2.2.1 0, .i .i64 e] ++ tp 3 ++ [.p (h.length + 0) 0] ++ tp 3 ++ [.p (h.length + 1) 0] ++ tp 25) (fun σ => h ++ .blk true true [.i .i64 0, .i .i64 0] :: itr s σ.1 :: σ.2.2.2)
  (fun σ => σ.1 ≤ s.length ∧ A.Rep (h ++ .blk true true [.i .i64 0, .i .i64 0] :: itr s σ.1 :: σ.2.2.2) σ.2.2.1 σ.2.1 ∧ runB A.step A.ends (s.drop σ.1) σ.1 σ.2.1 = runB A.step A.ends s 0 q0) (0, q0, j0, []) ⟨Nat.zero_le _, A.mono (SameRd.app _ _) hj, rfl⟩ ?_ fun σ hσ => ?_
 ·refine Bt.wk ?_
  simp only [QbA, qi4, simprocAttr]
 obtain ⟨pos, q, j, M⟩ := σ
 obtain ⟨h1, h2, h4⟩ := hσ
 dsimp only at h1 h2 h4 ⊢
 have hn : nxV (h ++ .blk true true [.i .i64 0, .i .i64 0] :: itr s pos :: M) (.p (h.length + 1) 0) = if pos < s.length then some (.tu [.b true, .i .i64 (pos : Int), .i .i32 ((Utf8.decode ⟨s.toArray⟩ pos).1 : Int)], h ++ .blk true true [.i .i64 0, .i .i64 0] :: itr s (pos + (Utf8.decode ⟨s.toArray⟩ pos).2) :: M) else some (.tu [.b false], h ++ .blk true true [.i .i64 0, .i .i64 0] :: itr s pos :: M) := Zk2 _ 1 s pos rfl
 by_cases g : pos < s.length
 ·have hd := qMh (step := A.step) (ends := A.ends) (q := q) g
  rw [h4] at hd
  obtain ⟨e1, e2⟩ := q7v (step := A.step) A.big g q
  rw [e1] at hd
  have h2' := A.mono (SameRd.it h M (.blk true true [.i .i64 0, .i .i64 0]) s pos (pos + (Utf8.decode ⟨s.toArray⟩ pos).2)) h2
  obtain ⟨gf, fst, cap, r1, r2⟩ := A.cel h2'
  obtain ⟨r3, r4⟩ := r2 ((Utf8.decode ⟨s.toArray⟩ pos).1 : Int)
  have lj0 : ldV (h ++ .blk true true [.i .i64 0, .i .i64 0] :: itr s (pos + (Utf8.decode ⟨s.toArray⟩ pos).2) :: M) none (.p j 0) = some (.f (.func gf) fst cap) := by
   simp only [ldV, r1, Option.bind_some]
   rfl
  cases hst : A.step q ((Utf8.decode ⟨s.toArray⟩ pos).1 : Int) with
  | none =>
   rw [hst] at hd
   dsimp only at hd
   have r5 := r3 hst
   simp only [KXL, JuQ, QbA, KI8, qi4, simprocAttr, CO.tmps, Opd.tmps, optT, Nat.reducePow, Nat.reduceDiv, Nat.reduceMod, YaU, hn, g, lj0, r5, en0, en1, decide_true, decide_false, ne_eq, not_false_eq_true, not_true_eq_false, false_implies, forall_const, and_true, true_and]
   rw [hd]
   exact Bt.drop _ hh rfl rfl
  | some q' =>
   have e3 := e2 q' hst
   rw [hst] at hd
   dsimp only at hd
   obtain ⟨j', L, r5, r6⟩ := r4 q' hst
   rw [e3] at hn lj0 r5 r6
   simp only [KXL, JuQ, QbA, KI8, qi4, simprocAttr, CO.tmps, Opd.tmps, optT, Nat.reducePow, Nat.reduceDiv, Nat.reduceMod, YaU, hn, g, lj0, r5, en0, en1, decide_true, decide_false, ne_eq, not_false_eq_true, not_true_eq_false, false_implies, forall_const, and_true, true_and]
   refine ⟨(pos + 1, q', j', M ++ L), ⟨g, ?_, hd.symm⟩, by dsimp only; omega, ?_⟩
   ·dsimp only
    rw [List.append_assoc, List.cons_append, List.cons_append] at r6
    exact r6
   ·dsimp only
    refine Bt.wk ?_
    simp only [QbA, qi4, simprocAttr]
 ·have hpos : pos = s.length := by omega
  have hd : runB A.step A.ends s 0 q0 = if A.ends q then none else some s.length := by
   rw [← h4, hpos, List.drop_length]
   rfl
  obtain ⟨gf, fst, cap, r1, _⟩ := A.cel h2
  have lj1 : ldV (h ++ .blk true true [.i .i64 0, .i .i64 0] :: itr s pos :: M) none (.p j 1) = some (.b (A.ends q)) := by
   simp only [ldV, r1, Option.bind_some]
   rfl
  cases he : A.ends q with
  | true =>
   rw [he] at hd lj1
   simp only [KXL, JuQ, QbA, KI8, qi4, simprocAttr, CO.tmps, Opd.tmps, optT, Nat.reducePow, Nat.reduceDiv, Nat.reduceMod, YaU, hn, g, lj1, qvy, Bool.not_true, Bool.not_false, zcA, X8C, decide_true, decide_false, ne_eq, not_false_eq_true, not_true_eq_false, false_implies, forall_const, and_true, true_and]
   rw [hd]
   exact Bt.drop _ hh rfl rfl
  | false =>
   rw [he] at hd lj1
   simp only [KXL, JuQ, QbA, KI8, qi4, simprocAttr, CO.tmps, Opd.tmps, optT, Nat.reducePow, Nat.reduceDiv, Nat.reduceMod, YaU, hn, g, lj1, qvy, Bool.not_true, Bool.not_false, zcA, X8C, decide_true, decide_false, ne_eq, not_false_eq_true, not_true_eq_false, false_implies, forall_const, and_true, true_and]
   rw [hd]
   exact Bt.drop _ hh rfl rfl
end Go.Proofs.Ytbcpcjofkfgjoaa
end
section
namespace Go.Proofs.Ytbcpcjofkfgjoaa
set_option maxRecDepth 100000
set_option maxHeartbeats 4000000
def tagP (c : Int) : Prop := lowP c ∨ (65 ≤ c ∧ c ≤ 90) ∨ c = 95 ∨ c = 46 ∨ c = 45
instance (c : Int) : Decidable (tagP c) := inferInstanceAs (Decidable (_ ∨ _))
def Xvu (c : Int) : Prop := lowP c ∨ (65 ≤ c ∧ c ≤ 90) ∨ c = 95
instance (c : Int) : Decidable (Xvu c) := inferInstanceAs (Decidable (_ ∨ _))
theorem emE (p : Prop) : p = True ∨ p = False := Classical.propComplete p
theorem Jgg (c : Int) : (Xvu c ∧ lowP c = True) ∨ (Xvu c ∧ lowP c = False ∧ (65 ≤ c) = True ∧ (c ≤ 90) = True) ∨
  ((¬ Xvu c ∧ tagP c) ∧ lowP c = False ∧ (65 ≤ c) = False ∧ (c = 95) = False ∧ (c = 46) = True) ∨
  ((¬ Xvu c ∧ tagP c) ∧ lowP c = False ∧ (65 ≤ c) = False ∧ (c = 95) = False ∧ (c = 46) = False ∧ (c = 45) = True) ∨
  (¬ tagP c ∧ lowP c = False ∧ (65 ≤ c) = False ∧ (c = 95) = False ∧ (c = 46) = False ∧ (c = 45) = False) ∨
  (Xvu c ∧ lowP c = False ∧ (65 ≤ c) = True ∧ (c ≤ 90) = False ∧ (c = 95) = True) ∨
  (¬ tagP c ∧ lowP c = False ∧ (65 ≤ c) = True ∧ (c ≤ 90) = False ∧ (c = 95) = False ∧ (c = 46) = False ∧ (c = 45) = False) := by
 by_cases h1 : lowP c
 ·exact .inl ⟨.inl h1, eq_true h1⟩
 by_cases h2 : 65 ≤ c
 ·by_cases h3 : c ≤ 90
  ·exact .inr (.inl ⟨.inr (.inl ⟨h2, h3⟩), eq_false h1, eq_true h2, eq_true h3⟩)
  by_cases h4 : c = 95
  ·exact .inr (.inr (.inr (.inr (.inr (.inl ⟨.inr (.inr h4), eq_false h1, eq_true h2, eq_false h3, eq_true h4⟩)))))
  ·exact .inr (.inr (.inr (.inr (.inr (.inr ⟨(fun z => by rcases z with z | z | z | z | z <;> first | exact h1 z | omega), eq_false h1, eq_true h2, eq_false h3, eq_false h4, eq_false (by omega), eq_false (by omega)⟩)))))
 ·have h4 : ¬ c = 95 := by omega
  have hh : ¬ Xvu c := fun z => by rcases z with z | z | z <;> first | exact h1 z | omega
  by_cases h5 : c = 46
  ·exact .inr (.inr (.inl ⟨⟨hh, .inr (.inr (.inr (.inl h5)))⟩, eq_false h1, eq_false h2, eq_false h4, eq_true h5⟩))
  by_cases h6 : c = 45
  ·exact .inr (.inr (.inr (.inl ⟨⟨hh, .inr (.inr (.inr (.inr h6)))⟩, eq_false h1, eq_false h2, eq_false h4, eq_false h5, eq_true h6⟩)))
  ·exact .inr (.inr (.inr (.inr (.inl ⟨(fun z => by rcases z with z | z | z | z | z <;> first | exact h1 z | omega), eq_false h1, eq_false h2, eq_false h4, eq_false h5, eq_false h6⟩))))
theorem zwI {c : Int} (h : Xvu c) : tagP c := by
 rcases h with h | h | h
 ·exact .inl h
 ·exact .inr (.inl h)
 ·exact .inr (.inr (.inl h))
def Jz1 : List AV → List AB → Option (AV × List AB)
 | [.i .i32 c], h => some (.b (decide (tagP c)), h)
 | _, _ => none
theorem XiM : Spec Try.prog 74 Jz1 := by
 intro args h v h' e
 unfold Jz1 at e
 split at e
 ·rename_i c
  cases e
  refine FnAt.c (FnAt.run (by kernel_rfl) (T := ⟨[⟨85, Z5O, fun _ => []⟩], []⟩) ⟨⟨Jt1, trivial⟩, trivial⟩ Try.func74 sw74 fun ho hh => ?_)
  unfold w74
  rcases Jgg c with ⟨d, a1⟩ | ⟨d, a1, a2, a3⟩ | ⟨d, a1, a2, a4, a5⟩ | ⟨d, a1, a2, a4, a5, a6⟩ | ⟨d, a1, a2, a4, a5, a6⟩ | ⟨d, a1, a2, a3, a4⟩ | ⟨d, a1, a2, a3, a4, a5, a6⟩
  ·simp only [KXL, JuQ, QbA, KI8, qi4, simprocAttr, CO.tmps, Opd.tmps, optT, Nat.reducePow, Nat.reduceDiv, Nat.reduceMod, Z5O, a1, decide_true, decide_false, ne_eq, not_false_eq_true, not_true_eq_false, false_implies, forall_const, and_true, true_and]
   exact Bt.dropB _ hh (decide_eq_true (zwI d)).symm
  ·simp only [KXL, JuQ, QbA, KI8, qi4, simprocAttr, CO.tmps, Opd.tmps, optT, Nat.reducePow, Nat.reduceDiv, Nat.reduceMod, Z5O, a1, a2, a3, decide_true, decide_false, ne_eq, not_false_eq_true, not_true_eq_false, false_implies, forall_const, and_true, true_and]
   exact Bt.dropB _ hh (decide_eq_true (zwI d)).symm
  ·simp only [KXL, JuQ, QbA, KI8, qi4, simprocAttr, CO.tmps, Opd.tmps, optT, Nat.reducePow, Nat.reduceDiv, Nat.reduceMod, Z5O, a1, a2, a4, a5, decide_true, decide_false, ne_eq, not_false_eq_true, not_true_eq_false, false_implies, forall_const, and_true, true_and]
   exact Bt.dropB _ hh (decide_eq_true d.2).symm
  ·simp only [KXL, JuQ, QbA, KI8, qi4, simprocAttr, CO.tmps, Opd.tmps, optT, Nat.reducePow, Nat.reduceDiv, Nat.reduceMod, Z5O, a1, a2, a4, a5, a6, decide_true, decide_false, ne_eq, not_false_eq_true, not_true_eq_false, false_implies, forall_const, and_true, true_and]
   exact Bt.dropB _ hh (decide_eq_true d.2).symm
  ·simp only [KXL, JuQ, QbA, KI8, qi4, simprocAttr, CO.tmps, Opd.tmps, optT, Nat.reducePow, Nat.reduceDiv, Nat.reduceMod, Z5O, a1, a2, a4, a5, a6, decide_true, decide_false, ne_eq, not_false_eq_true, not_true_eq_false, false_implies, forall_const, and_true, true_and]
   exact Bt.dropB _ hh (decide_eq_false d).symm
  ·simp only [KXL, JuQ, QbA, KI8, qi4, simprocAttr, CO.tmps, Opd.tmps, optT, Nat.reducePow, Nat.reduceDiv, Nat.reduceMod, Z5O, a1, a2, a3, a4, decide_true, decide_false, ne_eq, not_false_eq_true, not_true_eq_false, false_implies, forall_const, and_true, true_and]
   exact Bt.dropB _ hh (decide_eq_true (zwI d)).symm
  ·simp only [KXL, JuQ, QbA, KI8, qi4, simprocAttr, CO.tmps, Opd.tmps, optT, Nat.reducePow, Nat.reduceDiv, Nat.reduceMod, Z5O, a1, a2, a3, a4, a5, a6, decide_true, decide_false, ne_eq, not_false_eq_true, not_true_eq_false, false_implies, forall_const, and_true, true_and]
   exact Bt.dropB _ hh (decide_eq_false d).symm
 ·cases e
inductive QT where
 | first
 | rest
deriving DecidableEq
def JL1 : QT → Int → Option QT
 | .first, c => if Xvu c then some .rest else none
 | .rest, c => if tagP c then some .rest else none
def Yak (q : QT) : Bool := decide (q = .rest)
theorem KLQ (q : QT) (c : Int) (h : 128 ≤ c) : JL1 q c = none := by
 have h1 : ¬ tagP c := by unfold tagP lowP; omega
 have h2 : ¬ Xvu c := by unfold Xvu lowP; omega
 cases q
 ·exact if_neg h2
 ·exact if_neg h1
def allB (n : Nat) : List AB := [.blk false true [.f (.func 74) [] []], .blk false true [.p (n + 2) 0], .blk false true [.f (.func 86) [] [.p (n + 0) 0, .p (n + 1) 0], .b true]]
theorem Qx2 {P : Program} {p : Nat} {a : AV} {h : List AB} : Bt P p [a] (h ++ []) [a] h := by
 rw [List.append_nil]
 exact Bt.wk1 (Wk.refl _)
def QOo : List AV → List AB → Option (AV × List AB)
 | [.f (.func g) [] []], h => if g = 74 then some (.p (h.length + 2) 0, h ++ allB h.length) else none
 | _, _ => none
theorem JVq : Spec Try.prog 75 QOo := by
 intro args h v h' e
 unfold QOo at e
 split at e
 ·rename_i g
  split at e
  ·rename_i hg
   subst hg
   cases e
   refine FnAt.c (FnAt.run (by kernel_rfl) (T := ⟨[], []⟩) ⟨trivial, trivial⟩ Try.func75 sw75 fun ho hh => ?_)
   unfold w75 allB
   simp only [KXL, JuQ, QbA, KI8, qi4, simprocAttr, CO.tmps, Opd.tmps, optT, Nat.reducePow, Nat.reduceDiv, Nat.reduceMod]
   exact ⟨rfl, Bt.wk1 (Wk.refl _)⟩
  ·cases e
 ·cases e
def XQM : List AV → List AB → Option (AV × List AB)
 | [.i .i32 c, .p b1 0, .p b2 0], h => match ldV h none (.p b1 0), ldV h none (.p b2 0) with
  | some (.f (.func g) [] []), some (.p j 0) => if g = 74 then some (if tagP c then .p j 0 else .np, h) else none
  | _, _ => none
 | _, _ => none
theorem JE4 : Spec Try.prog 86 XQM := by
 intro args h v h' e
 unfold XQM at e
 split at e
 ·rename_i c b1 b2
  split at e
  ·rename_i g j l1 l2
   split at e
   ·rename_i hg
    subst hg
    cases e
    refine FnAt.c (FnAt.run (by kernel_rfl) (T := ⟨[⟨74, Jz1, fun _ => []⟩], []⟩) ⟨⟨XiM, trivial⟩, trivial⟩ Try.func86 sw86 fun ho hh => ?_)
    unfold w86
    have m1 : ldV (h ++ []) none (.p b1 0) = some (.f (.func 74) [] []) := by rw [List.append_nil]; exact l1
    have m2 : ldV (h ++ []) none (.p b2 0) = some (.p j 0) := by rw [List.append_nil]; exact l2
    by_cases hc : tagP c
    ·rw [if_pos hc]
     simp only [KXL, JuQ, QbA, KI8, qi4, simprocAttr, CO.tmps, Opd.tmps, optT, Nat.reducePow, Nat.reduceDiv, Nat.reduceMod, Jz1, m1, m2, eq_true hc, decide_true, decide_false, ne_eq, not_false_eq_true, not_true_eq_false, false_implies, forall_const, and_true, true_and]
     exact Qx2
    ·rw [if_neg hc]
     simp only [KXL, JuQ, QbA, KI8, qi4, simprocAttr, CO.tmps, Opd.tmps, optT, Nat.reducePow, Nat.reduceDiv, Nat.reduceMod, Jz1, m1, m2, eq_false hc, decide_true, decide_false, ne_eq, not_false_eq_true, not_true_eq_false, false_implies, forall_const, and_true, true_and]
     exact Qx2
   ·cases e
  ·cases e
 ·cases e
def Xth : List AV → List AB → Option (AV × List AB)
 | [.i .i32 c], h => if Xvu c then some (.p (h.length + 2) 0, h ++ allB h.length) else some (.np, h)
 | _, _ => none
theorem Xin : Spec Try.prog 73 Xth := by
 intro args h v h' e
 unfold Xth at e
 split at e
 ·rename_i c
  refine FnAt.c (FnAt.run (by kernel_rfl) (T := ⟨[⟨74, Jz1, fun _ => []⟩, ⟨75, QOo, fun _ => []⟩], []⟩) ⟨⟨XiM, JVq, trivial⟩, trivial⟩ Try.func73 sw73 fun ho hh => ?_)
  unfold w73
  by_cases h1 : Xvu c
  ·rw [if_pos h1] at e
   cases e
   have c1 : (c = 46) = False := eq_false (by unfold Xvu lowP at h1; omega)
   have c2 : (c = 45) = False := eq_false (by unfold Xvu lowP at h1; omega)
   simp only [KXL, JuQ, QbA, KI8, qi4, simprocAttr, CO.tmps, Opd.tmps, optT, Nat.reducePow, Nat.reduceDiv, Nat.reduceMod, Jz1, QOo, c1, c2, eq_true (zwI h1), decide_true, decide_false, ne_eq, not_false_eq_true, not_true_eq_false, false_implies, forall_const, and_true, true_and]
   exact Bt.wk1 (Wk.refl _)
  ·rw [if_neg h1] at e
   cases e
   rcases emE (c = 46) with c1 | c1
   ·simp only [KXL, JuQ, QbA, KI8, qi4, simprocAttr, CO.tmps, Opd.tmps, optT, Nat.reducePow, Nat.reduceDiv, Nat.reduceMod, Jz1, QOo, c1, decide_true, decide_false, ne_eq, not_false_eq_true, not_true_eq_false, false_implies, forall_const, and_true, true_and]
    exact Qx2
   rcases emE (c = 45) with c2 | c2
   ·simp only [KXL, JuQ, QbA, KI8, qi4, simprocAttr, CO.tmps, Opd.tmps, optT, Nat.reducePow, Nat.reduceDiv, Nat.reduceMod, Jz1, QOo, c1, c2, decide_true, decide_false, ne_eq, not_false_eq_true, not_true_eq_false, false_implies, forall_const, and_true, true_and]
    exact Qx2
   have c3 : tagP c = False := eq_false fun z => by
    rcases z with z | z | z | z | z
    ·exact h1 (.inl z)
    ·exact h1 (.inr (.inl z))
    ·exact h1 (.inr (.inr z))
    ·exact of_eq_false c1 z
    ·exact of_eq_false c2 z
   simp only [KXL, JuQ, QbA, KI8, qi4, simprocAttr, CO.tmps, Opd.tmps, optT, Nat.reducePow, Nat.reduceDiv, Nat.reduceMod, Jz1, QOo, c1, c2, c3, decide_true, decide_false, ne_eq, not_false_eq_true, not_true_eq_false, false_implies, forall_const, and_true, true_and]
   exact Qx2
 ·cases e
def qDe : Tab := [⟨73, Xth, fun _ => []⟩, ⟨86, XQM, fun _ => []⟩]
def repT (h : List AB) (j : Nat) : QT → Prop
 | .first => z16 h j = some [.f (.func 73) [] [], .b false]
 | .rest => ∃ b1 b2, z16 h j = some [.f (.func 86) [] [.p b1 0, .p b2 0], .b true] ∧ z16 h b1 = some [.f (.func 74) [] []] ∧ z16 h b2 = some [.p j 0]
theorem KcN (h L : List AB) (k : Nat) (fl m : Bool) (xs : List AV) (e : L[k]? = some (.blk fl m xs)) : z16 (h ++ L) (h.length + k) = some xs := by
 unfold z16
 rw [List.getElem?_append_right (by omega), Nat.add_sub_cancel_left, e]
def autT : Aut qDe QT where
 step := JL1
 ends := Yak
 Rep := repT
 big := KLQ
 mono {H H' j q} hs h := by
  cases q
  ·exact hs _ _ h
  ·obtain ⟨b1, b2, q1, q2, q3⟩ := h
   exact ⟨b1, b2, hs _ _ q1, hs _ _ q2, hs _ _ q3⟩
 cel {H j q} h := by
  cases q
  ·refine ⟨_, _, _, h, fun c => ⟨fun e => ?_, fun q' e => ?_⟩⟩
   ·show Xth [.i .i32 c] H = _
    unfold Xth
    by_cases hc : Xvu c
    ·rw [show JL1 .first c = some .rest from if_pos hc] at e; cases e
    ·exact if_neg hc
   ·by_cases hc : Xvu c
    ·rw [show JL1 .first c = some .rest from if_pos hc] at e
     cases e
     refine ⟨H.length + 2, allB H.length, ?_, H.length + 0, H.length + 1, KcN _ _ 2 _ _ _ rfl, KcN _ _ 0 _ _ _ rfl, KcN _ _ 1 _ _ _ rfl⟩
     show Xth [.i .i32 c] H = _
     exact if_pos hc
    ·rw [show JL1 .first c = none from if_neg hc] at e; cases e
  ·obtain ⟨b1, b2, q1, q2, q3⟩ := h
   have l1 : ldV H none (.p b1 0) = some (.f (.func 74) [] []) := by simp only [ldV, q2, Option.bind_some]; rfl
   have l2 : ldV H none (.p b2 0) = some (.p j 0) := by simp only [ldV, q3, Option.bind_some]; rfl
   have hT : ∀ c, XQM [.i .i32 c, .p b1 0, .p b2 0] H = some (if tagP c then .p j 0 else .np, H) := fun c => by
    unfold XQM
    simp only [l1, l2, if_true]
   refine ⟨_, _, _, q1, fun c => ⟨fun e => ?_, fun q' e => ?_⟩⟩
   ·by_cases hc : tagP c
    ·rw [show JL1 .rest c = some .rest from if_pos hc] at e; cases e
    ·have := hT c
     rw [if_neg hc] at this
     exact this
   ·by_cases hc : tagP c
    ·rw [show JL1 .rest c = some .rest from if_pos hc] at e
     cases e
     have := hT c
     rw [if_pos hc] at this
     exact ⟨j, [], by rw [List.append_nil]; exact this, b1, b2, by rw [List.append_nil]; exact q1, by rw [List.append_nil]; exact q2, by rw [List.append_nil]; exact q3⟩
    ·rw [show JL1 .rest c = none from if_neg hc] at e; cases e
theorem X5K : QHs (Spec Try.prog) qDe := ⟨Xin, JE4, trivial⟩
def tagV (s : List UInt8) : AV := if (64 : Int) < (s.length : Int) then .ag [.i .i64 4, .i .i64 64] else fltA 7 (runB JL1 Yak s 0 .first)
noncomputable def YCE : List AV → List AB → Option (AV × List AB)
 | [.s s], h => if s.length ≤ 1000000 then some (tagV s, h) else none
 | _, _ => none
open Classical in
noncomputable def XXq : List AV → List AB → Option (AV × List AB)
 | [.s s, .p j 0, .i .i64 e], h => if repT h j .first ∧ s.length ≤ 1000000 then some (fltA e (runB JL1 Yak s 0 .first), h) else none
 | _, _ => none
theorem zpF : Spec Try.prog 71 XXq := by
 intro args h v h' e
 unfold XXq at e
 split at e
 ·split at e
  ·rename_i hc
   cases e
   exact FnAt.c (runA X5K autT (q0 := .first) hc.1 hc.2)
  ·cases e
 ·cases e
theorem KWz : Spec Try.prog 57 YCE := by
 intro args h v h' e
 unfold YCE at e
 split at e
 ·rename_i s
  split at e
  ·rename_i hs
   cases e
   refine FnAt.c (FnAt.run (by kernel_rfl) (T := ⟨[⟨70, Q7c, fun _ => []⟩, ⟨71, XXq, fun _ => []⟩], []⟩) ⟨⟨qbE, zpF, trivial⟩, trivial⟩ Try.func57 sw57 fun ho hh => ?_)
   unfold w57 tagV
   by_cases g : (64 : Int) < (s.length : Int)
   ·have g' := eq_true g
    simp only [KXL, JuQ, QbA, KI8, qi4, simprocAttr, CO.tmps, Opd.tmps, optT, Nat.reducePow, Nat.reduceDiv, Nat.reduceMod, Q7c, g', decide_true, decide_false, ne_eq, not_false_eq_true, not_true_eq_false, false_implies, forall_const, and_true, true_and, if_true]
    exact Bt.drop _ hh rfl rfl
   ·have g' := eq_false g
    have hq : ∀ B C : AB, repT (h ++ [B, C, .blk false true [.f (.func 73) [] [], .b false]]) (h.length + 2) .first = True := fun B C => eq_true (KcN _ _ 2 _ _ _ rfl)
    have hs' := eq_true hs
    obtain ⟨a, b, hab⟩ := quN 7 (runB JL1 Yak s 0 .first)
    rw [if_neg g]
    simp only [KXL, JuQ, QbA, KI8, qi4, simprocAttr, CO.tmps, Opd.tmps, optT, Nat.reducePow, Nat.reduceDiv, Nat.reduceMod, Q7c, g', XXq, hq, hs', hab, decide_true, decide_false, ne_eq, not_false_eq_true, not_true_eq_false, false_implies, forall_const, and_true, true_and, if_false, if_true]
    exact Bt.drop _ hh rfl rfl
  ·cases e
 ·cases e
end Go.Proofs.Ytbcpcjofkfgjoaa
end
section
namespace Go.Proofs.Ytbcpcjofkfgjoaa
set_option maxRecDepth 100000
set_option maxHeartbeats 4000000
def hexP (c : Int) : Prop := (48 ≤ c ∧ c ≤ 57) ∨ (97 ≤ c ∧ c ≤ 102)
instance (c : Int) : Decidable (hexP c) := inferInstanceAs (Decidable (_ ∨ _))
def ZVX : List AV → List AB → Option (AV × List AB)
 | [.i .i32 c], h => some (.b (decide (hexP c)), h)
 | _, _ => none
theorem J7T : Spec Try.prog 93 ZVX := by
 intro args h v h' e
 unfold ZVX at e
 split at e
 ·rename_i c
  cases e
  refine FnAt.c (FnAt.run (by kernel_rfl) (T := ⟨[], []⟩) ⟨trivial, trivial⟩ Try.func93 sw93 fun ho hh => ?_)
  unfold w93
  by_cases h1 : 97 ≤ c <;> by_cases h2 : c ≤ 102 <;> by_cases h3 : 48 ≤ c <;> by_cases h4 : c ≤ 57 <;>
   (simp only [KXL, JuQ, QbA, KI8, qi4, simprocAttr, CO.tmps, Opd.tmps, optT, Nat.reducePow, Nat.reduceDiv, Nat.reduceMod, h1, h2, h3, h4, decide_true, decide_false]; exact Bt.dropB _ hh (by simp [hexP, h1, h2, h3, h4]))
 ·cases e
abbrev QX := List UInt8 × Nat
def zBp (q : QX) (c : Int) : Option QX :=
 match q.1 with
 | x :: w => if c = (x.toNat : Int) ∧ c < 128 then some (w, q.2) else none
 | [] => if 0 < q.2 ∧ hexP c then some ([], q.2 - 1) else none
def Y8W (q : QX) : Bool := match q.1 with
 | _ :: _ => false
 | [] => decide (q.2 = 0)
theorem zYX (q : QX) (c : Int) (h : 128 ≤ c) : zBp q c = none := by
 unfold zBp
 split
 ·exact if_neg (by omega)
 ·exact if_neg (by unfold hexP; omega)
def digB (n : Nat) (k : Int) : List AB := [.blk true true [.i .i64 k], .blk false true [.f (.func 92) [] [.p (n + 0) 0], .b (decide (k = 0))]]
def Jwd : List AV → List AB → Option (AV × List AB)
 | [.i .i64 k], h => some (.p (h.length + 1) 0, h ++ digB h.length k)
 | _, _ => none
theorem qYZ : Spec Try.prog 88 Jwd := by
 intro args h v h' e
 unfold Jwd at e
 split at e
 ·rename_i k
  cases e
  refine FnAt.c (FnAt.run (by kernel_rfl) (T := ⟨[], []⟩) ⟨trivial, trivial⟩ Try.func88 sw88 fun ho hh => ?_)
  unfold w88 digB
  simp only [KXL, JuQ, QbA, KI8, qi4, simprocAttr, CO.tmps, Opd.tmps, optT, Nat.reducePow, Nat.reduceDiv, Nat.reduceMod]
  exact Bt.wk1 (Wk.refl _)
 ·cases e
def zjq : List AV → List AB → Option (AV × List AB)
 | [.i .i32 c, .p b 0], h => match ldV h none (.p b 0) with
  | some (.i .i64 k) => if 0 ≤ k ∧ k ≤ 1000 then (if 0 < k ∧ hexP c then some (.p (h.length + 1) 0, h ++ digB h.length (k - 1)) else some (.np, h)) else none
  | _ => none
 | _, _ => none
theorem z4c : Spec Try.prog 92 zjq := by
 intro args h v h' e
 unfold zjq at e
 split at e
 ·rename_i c b
  split at e
  ·rename_i k l1
   split at e
   ·rename_i hk
    have m1 : ldV (h ++ []) none (.p b 0) = some (.i .i64 k) := by rw [List.append_nil]; exact l1
    have w1 : IntKind.i64.wrap (k - 1) = k - 1 := YBD (by unfold In64; omega)
    refine FnAt.c (FnAt.run (by kernel_rfl) (T := ⟨[⟨93, ZVX, fun _ => []⟩, ⟨88, Jwd, fun _ => []⟩], []⟩) ⟨⟨J7T, qYZ, trivial⟩, trivial⟩ Try.func92 sw92 fun ho hh => ?_)
    unfold w92
    by_cases h0 : 0 < k
    ·by_cases hc : hexP c
     ·rw [if_pos ⟨h0, hc⟩] at e
      cases e
      simp only [KXL, JuQ, QbA, KI8, qi4, simprocAttr, CO.tmps, Opd.tmps, optT, Nat.reducePow, Nat.reduceDiv, Nat.reduceMod, ZVX, Jwd, m1, w1, eq_true h0, eq_true hc, decide_true, decide_false, ne_eq, not_false_eq_true, not_true_eq_false, false_implies, forall_const, and_true, true_and]
      exact Bt.wk1 (Wk.refl _)
     ·rw [if_neg (fun z => hc z.2)] at e
      cases e
      simp only [KXL, JuQ, QbA, KI8, qi4, simprocAttr, CO.tmps, Opd.tmps, optT, Nat.reducePow, Nat.reduceDiv, Nat.reduceMod, ZVX, Jwd, m1, w1, eq_true h0, eq_false hc, decide_true, decide_false, ne_eq, not_false_eq_true, not_true_eq_false, false_implies, forall_const, and_true, true_and]
      exact Qx2
    ·rw [if_neg (fun z => h0 z.1)] at e
     cases e
     simp only [KXL, JuQ, QbA, KI8, qi4, simprocAttr, CO.tmps, Opd.tmps, optT, Nat.reducePow, Nat.reduceDiv, Nat.reduceMod, ZVX, Jwd, m1, w1, eq_false h0, decide_true, decide_false, ne_eq, not_false_eq_true, not_true_eq_false, false_implies, forall_const, and_true, true_and]
     exact Qx2
   ·cases e
  ·cases e
 ·cases e
def preB (n : Nat) (w : List UInt8) (j : Nat) : List AB := [.blk true true [.s w], .blk false true [.p j 0], .blk false true [.f (.func 91) [] [.p (n + 0) 0, .p (n + 1) 0], .b false]]
def preV (w : List UInt8) (j : Nat) (h : List AB) : AV × List AB := match w with
 | [] => (.p j 0, h)
 | _ :: _ => (.p (h.length + 2) 0, h ++ preB h.length w j)
def Zf9 : List AV → List AB → Option (AV × List AB)
 | [.s w, .p j 0], h => if j < h.length then some (preV w j h) else none
 | _, _ => none
theorem zs3 : Spec Try.prog 87 Zf9 := by
 intro args h v h' e
 unfold Zf9 at e
 split at e
 ·rename_i w j
  split at e
  ·rename_i hj
   refine FnAt.c (FnAt.run (by kernel_rfl) (T := ⟨[], []⟩) ⟨trivial, trivial⟩ Try.func87 sw87 fun ho hh => ?_)
   unfold w87
   cases w with
   | nil =>
    cases e
    have hnil : (([] : List UInt8) = []) = True := eq_true rfl
    simp only [KXL, JuQ, QbA, KI8, qi4, simprocAttr, CO.tmps, Opd.tmps, optT, Nat.reducePow, Nat.reduceDiv, Nat.reduceMod, XsR, hnil, decide_true, decide_false, ne_eq, not_false_eq_true, not_true_eq_false, false_implies, forall_const, and_true, true_and]
    exact Bt.drop _ hh rfl (by simp [AV.ok, hj])
   | cons x w =>
    cases e
    have hnil : (x :: w = ([] : List UInt8)) = False := eq_false (by simp)
    simp only [KXL, JuQ, QbA, KI8, qi4, simprocAttr, CO.tmps, Opd.tmps, optT, Nat.reducePow, Nat.reduceDiv, Nat.reduceMod, XsR, hnil, decide_true, decide_false, ne_eq, not_false_eq_true, not_true_eq_false, false_implies, forall_const, and_true, true_and]
    exact Bt.wk1 (Wk.refl _)
  ·cases e
 ·cases e
def KDA : List AV → List AB → Option (AV × List AB)
 | [.i .i32 c, .p b1 0, .p b2 0], h => match ldV h none (.p b1 0), ldV h none (.p b2 0) with
  | some (.s (x :: w)), some (.p j 0) => if j < h.length then (if c = (x.toNat : Int) then some (preV w j h) else some (.np, h)) else none
  | _, _ => none
 | _, _ => none
theorem qqu (h : List AB) (o : Option Nat) (v : AV) : ldV (h.map AB.freeze) o v = ldV h o v := by
 have hr : ∀ i, z16 (h.map AB.freeze) i = z16 h i := fun i => by
  unfold z16
  rw [List.getElem?_map]
  cases h[i]? with
  | none => rfl
  | some B => cases B <;> rfl
 unfold ldV
 simp only [hr]
theorem XbL (x : UInt8) (w : List UInt8) : slS (x :: w) (some (.i .i64 1)) none = some (.s w) := YdV (l := x :: w) (n := 1) .i64 (by simp)
theorem Yhz (w : List UInt8) (j : Nat) (h : List AB) : ∃ v n, preV w j h = (v, h ++ n) ∧ ∀ h0 : List AB, h0.length = h.length → preV w j h0 = (v, h0 ++ n) := by
 cases w with
 | nil => exact ⟨.p j 0, [], by simp [preV], fun h0 _ => by simp [preV]⟩
 | cons x w => exact ⟨.p (h.length + 2) 0, preB h.length (x :: w) j, rfl, fun h0 e => by simp only [preV, e]⟩
theorem JkB {h : List AB} {i o : Nat} {v : AV} (e : ldV h none (.p i o) = some v) : i < h.length := by
 simp only [ldV, z16] at e
 by_cases hi : i < h.length
 ·exact hi
 ·rw [List.getElem?_eq_none (by omega)] at e
  cases e
theorem qKO {h : List AB} (hz : h.map AB.freeze = h) {c : Int} {b1 b2 j : Nat} {x : UInt8} {w : List UInt8} (l1 : ldV h none (.p b1 0) = some (.s (x :: w))) (l2 : ldV h none (.p b2 0) = some (.p j 0)) (hj : j < h.length) {v : AV} {n : List AB}
  (e : (if c = (x.toNat : Int) then preV w j h else (.np, h)) = (v, h ++ n)) : FnAt Try.prog 91 [.i .i32 c, .p b1 0, .p b2 0] h v (h ++ n) := by
 have m1 : ldV (h ++ []) none (.p b1 0) = some (.s (x :: w)) := by rw [List.append_nil]; exact l1
 have m2 : ldV (h ++ []) none (.p b2 0) = some (.p j 0) := by rw [List.append_nil]; exact l2
 have x1 : ixsV (.s (x :: w)) (.i .i64 0) = some (.i .u8 (x.toNat : Int)) := QK1 (l := x :: w) (n := 0) .i64 (by simp)
 have e32 : IntKind.i32.wrap (x.toNat : Int) = (x.toNat : Int) := Kmn (by omega) (by have := x.toNat_lt; omega)
 have hj' : (j < h.length + 0) = True := eq_true hj
 have o1 : (b1 < h.length + 0) = True := eq_true (JkB l1)
 have o2 : (b2 < h.length + 0) = True := eq_true (JkB l2)
 refine FnAt.run (by kernel_rfl) (T := ⟨[⟨87, Zf9, fun _ => []⟩], []⟩) ⟨⟨zs3, trivial⟩, trivial⟩ Try.func91 sw91 fun ho hh => ?_
 unfold w91
 by_cases hc : c = (x.toNat : Int)
 ·rw [if_pos hc] at e
  cases w with
  | nil =>
   have hp : ∀ H, preV [] j H = (.p j 0, H) := fun _ => rfl
   rw [hp] at e
   obtain ⟨rfl, e2⟩ := Prod.mk.inj e
   have : n = [] := by simpa using e2
   subst this
   simp only [KXL, JuQ, QbA, KI8, qi4, simprocAttr, CO.tmps, Opd.tmps, optT, Nat.reducePow, Nat.reduceDiv, Nat.reduceMod, K0O, qjR, XbL, QNf, e32, x1, m1, m2, Zf9, hj', o1, o2, hp, eq_true hc, K6Y hh, ZbP hz, qyN hz, KN7 hz, Option.map_some, Option.map_none, decide_true, decide_false, ne_eq, not_false_eq_true, not_true_eq_false, false_implies, forall_const, and_true, true_and, if_true]
   exact Bt.wk1 (Wk.refl _)
  | cons y w =>
   have hp : ∀ anc past, preV (y :: w) j (h ++ mskQ h.length 0 anc past []) = (.p (h.length + 2) 0, h ++ (mskQ h.length 0 anc past [] ++ preB h.length (y :: w) j)) := fun anc past => by
    simp only [preV, List.length_append, zRf, List.length_nil, Nat.add_zero, List.append_assoc]
   have e2 : (.p (h.length + 2) 0, h ++ preB h.length (y :: w) j) = (v, h ++ n) := e
   obtain ⟨e3, e4⟩ := Prod.mk.inj e2
   subst e3
   have : n = preB h.length (y :: w) j := (List.append_cancel_left e4).symm
   subst this
   simp only [KXL, JuQ, QbA, KI8, qi4, simprocAttr, CO.tmps, Opd.tmps, optT, Nat.reducePow, Nat.reduceDiv, Nat.reduceMod, K0O, qjR, XbL, QNf, e32, x1, m1, m2, Zf9, hj', o1, o2, hp, preB, eq_true hc, K6Y hh, ZbP hz, qyN hz, KN7 hz, Option.map_some, Option.map_none, decide_true, decide_false, ne_eq, not_false_eq_true, not_true_eq_false, false_implies, forall_const, and_true, true_and, if_true]
   exact Bt.wk1 (Wk.refl _)
 ·rw [if_neg hc] at e
  obtain ⟨rfl, e2⟩ := Prod.mk.inj e
  have : n = [] := by simpa using e2
  subst this
  simp only [KXL, JuQ, QbA, KI8, qi4, simprocAttr, CO.tmps, Opd.tmps, optT, Nat.reducePow, Nat.reduceDiv, Nat.reduceMod, K0O, qjR, QNf, e32, x1, m1, m2, Zf9, hj', eq_false hc, Option.map_some, Option.map_none, decide_true, decide_false, ne_eq, not_false_eq_true, not_true_eq_false, false_implies, forall_const, and_true, true_and]
  exact Bt.wk1 (Wk.refl _)
theorem Ys3 : Spec Try.prog 91 KDA := by
 intro args h v h' e
 unfold KDA at e
 split at e
 ·rename_i c b1 b2
  split at e
  ·rename_i x w j l1 l2
   split at e
   ·rename_i hj
    obtain ⟨v0, n, q1, q2⟩ := Yhz w j h
    have q3 := q2 (h.map AB.freeze) (List.length_map _)
    have hj' : j < (h.map AB.freeze).length := by rw [List.length_map]; exact hj
    by_cases hc : c = (x.toNat : Int)
    ·rw [if_pos hc, q1] at e
     cases e
     exact FnAt.c (FnAt.frz fun hz => qKO hz (by rw [qqu]; exact l1) (by rw [qqu]; exact l2) hj' (by rw [if_pos hc, q3]))
    ·rw [if_neg hc] at e
     cases e
     have := FnAt.frz (P := Try.prog) (g := 91) (args := [.i .i32 c, .p b1 0, .p b2 0]) (h := h) (a := .np) (new := []) fun hz => qKO hz (by rw [qqu]; exact l1) (by rw [qqu]; exact l2) hj' (by rw [if_neg hc, List.append_nil])
     rw [List.append_nil] at this
     exact FnAt.c this
   ·cases e
  ·cases e
 ·cases e
def XYB : Tab := [⟨91, KDA, fun _ => []⟩, ⟨92, zjq, fun _ => []⟩]
theorem qKx : QHs (Spec Try.prog) XYB := ⟨Ys3, z4c, trivial⟩
def RepN (h : List AB) (j n : Nat) : Prop := n ≤ 1000 ∧ ∃ b, z16 h j = some [.f (.func 92) [] [.p b 0], .b (decide ((n : Int) = 0))] ∧ z16 h b = some [.i .i64 n]
def repX (h : List AB) (j : Nat) (q : QX) : Prop := match q.1 with
 | [] => RepN h j q.2
 | x :: w => (∀ b ∈ x :: w, b.toNat < 128) ∧ ∃ b1 b2 j', z16 h j = some [.f (.func 91) [] [.p b1 0, .p b2 0], .b false] ∧ z16 h b1 = some [.s (x :: w)] ∧ z16 h b2 = some [.p j' 0] ∧ RepN h j' q.2
theorem RepN.mono {H H' : List AB} {j n : Nat} (hs : SameRd H H') (h : RepN H j n) : RepN H' j n := by
 obtain ⟨h0, b, q1, q2⟩ := h
 exact ⟨h0, b, hs _ _ q1, hs _ _ q2⟩
theorem RepN.lt {H : List AB} {j n : Nat} (h : RepN H j n) : j < H.length := by
 obtain ⟨_, b, q1, _⟩ := h
 unfold z16 at q1
 by_cases hi : j < H.length
 ·exact hi
 ·rw [List.getElem?_eq_none (by omega)] at q1; cases q1
theorem RepN.new (H : List AB) (n : Nat) (hn : n ≤ 1000) : RepN (H ++ digB H.length n) (H.length + 1) n := ⟨hn, H.length + 0, KcN _ _ 1 _ _ _ rfl, KcN _ _ 0 _ _ _ rfl⟩
theorem J9t {H : List AB} {j n : Nat} (w : List UInt8) (ha : ∀ b ∈ w, b.toNat < 128) (h : RepN H j n) : ∃ j' L, preV w j H = (.p j' 0, H ++ L) ∧ repX (H ++ L) j' (w, n) := by
 cases w with
 | nil => exact ⟨j, [], by simp [preV], by rw [List.append_nil]; exact h⟩
 | cons x w => exact ⟨H.length + 2, preB H.length (x :: w) j, rfl, ha, H.length + 0, H.length + 1, j, KcN _ _ 2 _ _ _ rfl, KcN _ _ 0 _ _ _ rfl, KcN _ _ 1 _ _ _ rfl, h.mono (SameRd.app _ _)⟩
theorem KRA {H : List AB} {b : Nat} {v : AV} (h : z16 H b = some [v]) : ldV H none (.p b 0) = some v := by
 simp only [ldV, h, Option.bind_some]
 rfl
def autX : Aut XYB QX where
 step := zBp
 ends := Y8W
 Rep := repX
 big := zYX
 mono {H H' j q} hs h := by
  obtain ⟨w, n⟩ := q
  cases w
  ·exact RepN.mono hs h
  ·obtain ⟨h0, b1, b2, j', q1, q2, q3, q4⟩ := h
   exact ⟨h0, b1, b2, j', hs _ _ q1, hs _ _ q2, hs _ _ q3, q4.mono hs⟩
 cel {H j q} h := by
  obtain ⟨w, n⟩ := q
  cases w with
  | nil =>
   obtain ⟨hn, b, q1, q2⟩ := h
   dsimp only at hn q1 q2
   have hn : n ≤ 1000 := hn
   have l1 := KRA q2
   have hends : decide ((n : Int) = 0) = Y8W ([], n) := decide_eq_decide.2 (by dsimp only; omega)
   have hT : ∀ c, zjq [.i .i32 c, .p b 0] H = if 0 < n ∧ hexP c then some (.p (H.length + 1) 0, H ++ digB H.length ((n - 1 : Nat) : Int)) else some (.np, H) := fun c => by
    have z1 : (0 ≤ (n : Int) ∧ (n : Int) ≤ 1000) := by omega
    simp only [zjq, l1, if_pos z1]
    by_cases hc : 0 < n ∧ hexP c
    ·rw [if_pos hc, if_pos ⟨by omega, hc.2⟩, show ((n : Int) - 1) = ((n - 1 : Nat) : Int) from by omega]
    ·rw [if_neg hc, if_neg (fun z => hc ⟨by omega, z.2⟩)]
   refine ⟨_, _, _, by rw [q1, hends], fun c => ⟨fun e => ?_, fun q' e => ?_⟩⟩
   ·by_cases hc : 0 < n ∧ hexP c
    ·rw [show zBp ([], n) c = some ([], n - 1) from if_pos hc] at e; cases e
    ·have := hT c
     rw [if_neg hc] at this
     exact this
   ·by_cases hc : 0 < n ∧ hexP c
    ·rw [show zBp ([], n) c = some ([], n - 1) from if_pos hc] at e
     cases e
     have := hT c
     rw [if_pos hc] at this
     exact ⟨_, _, this, RepN.new H (n - 1) (by omega)⟩
    ·rw [show zBp ([], n) c = none from if_neg hc] at e; cases e
  | cons x w =>
   obtain ⟨h0, b1, b2, j', q1, q2, q3, q4⟩ := h
   have l1 := KRA q2
   have l2 := KRA q3
   have ha := h0 x List.mem_cons_self
   obtain ⟨j2, L, p1, p2⟩ := J9t (H := H) w (fun b hb => h0 b (List.mem_cons_of_mem _ hb)) q4
   have hT : ∀ c, KDA [.i .i32 c, .p b1 0, .p b2 0] H = if c = (x.toNat : Int) then some (.p j2 0, H ++ L) else some (.np, H) := fun c => by
    simp only [KDA, l1, l2, if_pos q4.lt, p1]
   refine ⟨_, _, _, q1, fun c => ⟨fun e => ?_, fun q' e => ?_⟩⟩
   ·by_cases hc : c = (x.toNat : Int)
    ·rw [show zBp (x :: w, n) c = some (w, n) from if_pos ⟨hc, by omega⟩] at e; cases e
    ·have := hT c
     rw [if_neg hc] at this
     exact this
   ·by_cases hc : c = (x.toNat : Int)
    ·rw [show zBp (x :: w, n) c = some (w, n) from if_pos ⟨hc, by omega⟩] at e
     cases e
     have := hT c
     rw [if_pos hc] at this
     exact ⟨j2, L, this, p2⟩
    ·rw [show zBp (x :: w, n) c = none from if_neg (fun z => hc z.1)] at e; cases e
open Classical in
noncomputable def Jks (q : QX) : List AV → List AB → Option (AV × List AB)
 | [.s s, .p j 0, .i .i64 e], h => if repX h j q ∧ s.length ≤ 1000000 then some (fltA e (runB zBp Y8W s 0 q), h) else none
 | _, _ => none
theorem XcD (q : QX) : Spec Try.prog 71 (Jks q) := by
 intro args h v h' e
 unfold Jks at e
 split at e
 ·split at e
  ·rename_i hc
   cases e
   exact FnAt.c (runA qKx autX (q0 := q) hc.1 hc.2)
  ·cases e
 ·cases e
end Go.Proofs.Ytbcpcjofkfgjoaa
end
section
namespace Go.Proofs.Ytbcpcjofkfgjoaa
set_option maxRecDepth 100000
def hexD (b : UInt8) : Nat := if b.toNat ≤ 57 then b.toNat - 48 else b.toNat - 87
theorem Qje {b : UInt8} (h : hexP (b.toNat : Int)) : hexD b < 16 := by unfold hexP at h; unfold hexD; split <;> omega
def Zjb : List UInt8 := [115, 104, 97, 50, 53, 54, 58]
def idBs (s : List UInt8) : List UInt8 := (List.range 32).map fun i => UInt8.ofNat (hexD (s.getD (7 + 2 * i) 0) * 16 + hexD (s.getD (8 + 2 * i) 0))
theorem QIV (s : List UInt8) : (idBs s).length = 32 := by simp [idBs]
theorem Jtx (s : List UInt8) {i : Nat} (h : i < 32) : (idBs s).getD i 0 = UInt8.ofNat (hexD (s.getD (7 + 2 * i) 0) * 16 + hexD (s.getD (8 + 2 * i) 0)) := by
 rw [List.getD_eq_getElem?_getD, idBs, List.getElem?_map, List.getElem?_range h]
 rfl
def idF (s : List UInt8) : Option Nat := runB zBp Y8W s 0 (Zjb, 64)
theorem zQL : ∀ (s w : List UInt8) (n pos : Nat), runB zBp Y8W s pos (w, n) = none → ∃ t, s = w ++ t ∧ t.length = n ∧ ∀ b ∈ t, hexP (b.toNat : Int) := by
 intro s
 induction s with
 | nil =>
  intro w n pos h
  cases w with
  | nil =>
   by_cases hn : n = 0
   ·exact ⟨[], rfl, hn.symm, by simp⟩
   ·simp [runB, Y8W, hn] at h
  | cons x w => simp [runB, Y8W] at h
 | cons b s ih =>
  intro w n pos h
  cases w with
  | nil =>
   simp only [runB, zBp] at h
   by_cases hb : b.toNat < 128
   ·rw [if_pos hb] at h
    by_cases hc : 0 < n ∧ hexP (b.toNat : Int)
    ·rw [if_pos hc] at h
     obtain ⟨t, e1, e2, e3⟩ := ih [] (n - 1) (pos + 1) h
     refine ⟨b :: t, by rw [e1]; rfl, by simp [e2]; omega, fun y hy => ?_⟩
     rcases List.mem_cons.1 hy with rfl | hy
     ·exact hc.2
     ·exact e3 y hy
    ·rw [if_neg hc] at h; cases h
   ·rw [if_neg hb] at h; cases h
  | cons x w =>
   simp only [runB, zBp] at h
   by_cases hb : b.toNat < 128
   ·rw [if_pos hb] at h
    by_cases hc : ((b.toNat : Int) = (x.toNat : Int) ∧ (b.toNat : Int) < 128)
    ·rw [if_pos hc] at h
     obtain ⟨t, e1, e2, e3⟩ := ih w n (pos + 1) h
     have : b = x := UInt8.toNat_inj.1 (by omega)
     subst this
     exact ⟨t, by rw [e1]; rfl, e2, e3⟩
    ·rw [if_neg hc] at h; cases h
   ·rw [if_neg hb] at h; cases h
theorem QE4 {s : List UInt8} (h : idF s = none) : s.length = 71 ∧ ∀ i, i < 64 → hexP ((s.getD (7 + i) 0).toNat : Int) := by
 obtain ⟨t, e1, e2, e3⟩ := zQL s Zjb 64 0 h
 subst e1
 refine ⟨by simp [Zjb, e2], fun i hi => ?_⟩
 have : (Zjb ++ t).getD (7 + i) 0 = t.getD i 0 := by
  rw [List.getD_eq_getElem?_getD, List.getElem?_append_right (by simp [Zjb]), List.getD_eq_getElem?_getD]
  simp [Zjb]
 rw [this, List.getD_eq_getElem?_getD, List.getElem?_eq_getElem (by omega)]
 exact e3 _ (List.getElem_mem _)
def idC (s : List UInt8) : List AV := if idF s = none then (idBs s).map u8A else List.replicate 32 (.i .u8 0)
def idV (s : List UInt8) : AV := .tu [.ag (idC s), fltA 8 (idF s)]
noncomputable def T_ID : List AV → List AB → Option (AV × List AB)
 | [.s s], h => if s.length ≤ 1000000 then some (idV s, h) else none
 | _, _ => none
def ZaU (l : List UInt8) (k : Nat) : List AV := (l.take k).map u8A ++ List.replicate (32 - k) (.i .u8 0)
def Z0e (l : List UInt8) (k : Nat) (v : Nat) : List AV := (l.take k).map u8A ++ .i .u8 (v : Int) :: List.replicate (31 - k) (.i .u8 0)
theorem KaH (l : List UInt8) {k : Nat} (h : k < 32) : ZaU l k = Z0e l k 0 := by
 unfold ZaU Z0e
 rw [show 32 - k = (31 - k) + 1 from by omega, List.replicate_succ]
 rfl
theorem zwq (l : List UInt8) {k : Nat} (h : k < 32) (hl : l.length = 32) : Z0e l k (l.getD k 0).toNat = ZaU l (k + 1) := by
 unfold ZaU Z0e
 rw [show 32 - (k + 1) = 31 - k from by omega, List.take_succ_eq_append_getElem (by omega), List.map_append, List.append_assoc, List.getD_eq_getElem?_getD, List.getElem?_eq_getElem (by omega)]
 rfl
theorem KcD (l : List UInt8) (hl : l.length = 32) : ZaU l 32 = l.map u8A := by
 unfold ZaU
 rw [List.take_of_length_le (by omega), Nat.sub_self, List.replicate_zero, List.append_nil]
theorem K0w (l : List UInt8) {k v : Nat} (h : k < 32) (hl : l.length = 32) : (Z0e l k v).length = 32 := by
 unfold Z0e
 rw [List.length_append, List.length_map, List.length_take, List.length_cons, List.length_replicate]
 omega
theorem XPL (l : List UInt8) {k v : Nat} (h : k < 32) (hl : l.length = 32) : (Z0e l k v)[k]? = some (.i .u8 (v : Int)) := by
 unfold Z0e
 have h1 : ((l.take k).map u8A).length = k := by rw [List.length_map, List.length_take]; omega
 rw [List.getElem?_append_right (by omega), h1, Nat.sub_self]
 rfl
theorem Z1f (l : List UInt8) {k v v' : Nat} (h : k < 32) (hl : l.length = 32) : over (Z0e l k v) k [.i .u8 (v' : Int)] = Z0e l k v' := by
 unfold Z0e over
 have h1 : ((l.take k).map u8A).length = k := by rw [List.length_map, List.length_take]; omega
 rw [List.take_append_of_le_length (by omega), List.take_of_length_le (by omega), List.drop_append, List.drop_eq_nil_of_le (by rw [h1]; omega), h1, List.length_singleton, show k + 1 - k = 1 from by omega, List.append_assoc]
 rfl
theorem YaV (q : Nat → Bool) : ∀ l : List UInt8, okL q (l.map u8A) = true
 | [] => rfl
 | _ :: l => by
  have := YaV q l
  simp only [List.map_cons, okL, this, Bool.and_true]
  rfl
theorem Jdz {l : List UInt8} (h : l.length = 32) : (l.map u8A).length = 32 ∧ (l.map u8A).take 32 = l.map u8A ∧ (l.map u8A).all (wrOk true) = true ∧ (∀ q, okL q (l.map u8A) = true) ∧ over (l.map u8A) 0 (l.map u8A) = l.map u8A := by
 have e : (l.map u8A).length = 32 := by rw [List.length_map, h]
 refine ⟨e, List.take_of_length_le (by omega), List.all_eq_true.2 fun a ha => ?_, fun q => YaV q l, ?_⟩
 ·obtain ⟨b, _, rfl⟩ := List.mem_map.1 ha
  rfl
 ·simp only [over, List.take_zero, List.nil_append, Nat.zero_add]
  rw [List.drop_eq_nil_of_le (by omega), List.append_nil]
end Go.Proofs.Ytbcpcjofkfgjoaa
end
section
namespace Go.Proofs.Ytbcpcjofkfgjoaa
def iaaV (k sz : Nat) (x i : AV) : Option AV := match x, i with
 | .p id off, .i _ n => if 0 ≤ n ∧ n < k then some (.p id (off + n.toNat * sz)) else none
 | _, _ => none
theorem zyA {T : Env} {fr : List AV} {h : List AB} (k sz : Nat) (x i : Opd) : opR T (.iaa k sz x i) fr h = (iaaV k sz (x.ev fr) (i.ev fr)).map (·, h) := by
 show (match x.ev fr, i.ev fr with
  | .p id off, .i _ n => if 0 ≤ n ∧ n < k then some (AV.p id (off + n.toNat * sz), h) else none
  | _, _ => none) = _
 unfold iaaV
 split
 ·split <;> rfl
 ·rfl
theorem qNP (k sz id off : Nat) (kk : IntKind) (n : Nat) (hn : n < k) : iaaV k sz (.p id off) (.i kk (n : Int)) = some (.p id (off + n * sz)) := by
 unfold iaaV
 simp only [Int.toNat_natCast]
 rw [if_pos ⟨by omega, by omega⟩]
end Go.Proofs.Ytbcpcjofkfgjoaa
end
