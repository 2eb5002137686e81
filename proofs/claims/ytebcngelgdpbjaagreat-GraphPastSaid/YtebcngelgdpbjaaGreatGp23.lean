/- Part 23 of what the laws' proofs rest on. No condition. -/
import Derived.Test.YtebcngelgdpbjaaGreatGp22
set_option linter.all false
section
namespace Go.Proofs.YtebcngelgdpbjaaGreat
set_option maxRecDepth 100000
set_option maxHeartbeats 4000000
def tagP (c : Int) : Prop := lowP c ∨ (65 ≤ c ∧ c ≤ 90) ∨ c = 95 ∨ c = 46 ∨ c = 45
instance (c : Int) : Decidable (tagP c) := inferInstanceAs (Decidable (_ ∨ _))
def Qml (c : Int) : Prop := lowP c ∨ (65 ≤ c ∧ c ≤ 90) ∨ c = 95
instance (c : Int) : Decidable (Qml c) := inferInstanceAs (Decidable (_ ∨ _))
theorem emE (p : Prop) : p = True ∨ p = False := Classical.propComplete p
theorem ZeS (c : Int) : (Qml c ∧ lowP c = True) ∨ (Qml c ∧ lowP c = False ∧ (65 ≤ c) = True ∧ (c ≤ 90) = True) ∨
  ((¬ Qml c ∧ tagP c) ∧ lowP c = False ∧ (65 ≤ c) = False ∧ (c = 95) = False ∧ (c = 46) = True) ∨
  ((¬ Qml c ∧ tagP c) ∧ lowP c = False ∧ (65 ≤ c) = False ∧ (c = 95) = False ∧ (c = 46) = False ∧ (c = 45) = True) ∨
  (¬ tagP c ∧ lowP c = False ∧ (65 ≤ c) = False ∧ (c = 95) = False ∧ (c = 46) = False ∧ (c = 45) = False) ∨
  (Qml c ∧ lowP c = False ∧ (65 ≤ c) = True ∧ (c ≤ 90) = False ∧ (c = 95) = True) ∨
  (¬ tagP c ∧ lowP c = False ∧ (65 ≤ c) = True ∧ (c ≤ 90) = False ∧ (c = 95) = False ∧ (c = 46) = False ∧ (c = 45) = False) := by
 by_cases h1 : lowP c
 ·exact .inl ⟨.inl h1, eq_true h1⟩
 by_cases h2 : 65 ≤ c
 ·by_cases h3 : c ≤ 90
  ·exact .inr (.inl ⟨.inr (.inl ⟨h2, h3⟩), eq_false h1, eq_true h2, eq_true h3⟩)
  by_cases h4 : c = 95
  ·exact .inr (.inr (.inr (.inr (.inr (.inl ⟨.inr (.inr h4), eq_false h1, eq_true h2, eq_false h3, eq_true h4⟩)))))
  ·exact .inr (.inr (.inr (.inr (.inr (.inr ⟨(fun z => by rcases z with z | z | z | z | z <;> first | exact h1 z | omega), eq_false h1, eq_true h2, eq_false h3, eq_false h4, eq_false (by omega), eq_false (by omega)⟩)))))
 ·have h4 : ¬ c = 95 := by omega
  have hh : ¬ Qml c := fun z => by rcases z with z | z | z <;> first | exact h1 z | omega
  by_cases h5 : c = 46
  ·exact .inr (.inr (.inl ⟨⟨hh, .inr (.inr (.inr (.inl h5)))⟩, eq_false h1, eq_false h2, eq_false h4, eq_true h5⟩))
  by_cases h6 : c = 45
  ·exact .inr (.inr (.inr (.inl ⟨⟨hh, .inr (.inr (.inr (.inr h6)))⟩, eq_false h1, eq_false h2, eq_false h4, eq_false h5, eq_true h6⟩)))
  ·exact .inr (.inr (.inr (.inr (.inl ⟨(fun z => by rcases z with z | z | z | z | z <;> first | exact h1 z | omega), eq_false h1, eq_false h2, eq_false h4, eq_false h5, eq_false h6⟩))))
theorem qr6 {c : Int} (h : Qml c) : tagP c := by
 rcases h with h | h | h
 ·exact .inl h
 ·exact .inr (.inl h)
 ·exact .inr (.inr (.inl h))
def Kwc : List AV → List AB → Option (AV × List AB)
 | [.i .i32 c], h => some (.b (decide (tagP c)), h)
 | _, _ => none
theorem q22 : Spec Tryz.prog 182 Kwc := by
 intro args h v h' e
 unfold Kwc at e
 split at e
 ·rename_i c
  cases e
  refine FnAt.c (FnAt.run (by kernel_rfl) (T := ⟨[⟨224, XmB, fun _ => []⟩], []⟩) ⟨⟨QJz, trivial⟩, trivial⟩ Tryz.func182 Kg1 fun ho hh => ?_)
  unfold w182
  rcases ZeS c with ⟨d, a1⟩ | ⟨d, a1, a2, a3⟩ | ⟨d, a1, a2, a4, a5⟩ | ⟨d, a1, a2, a4, a5, a6⟩ | ⟨d, a1, a2, a4, a5, a6⟩ | ⟨d, a1, a2, a3, a4⟩ | ⟨d, a1, a2, a3, a4, a5, a6⟩
  ·simp only [QhU, YqB, z16, KHD, Xq6, simprocAttr, CO.tmps, Opd.tmps, optT, Nat.reducePow, Nat.reduceDiv, Nat.reduceMod, XmB, a1, decide_true, decide_false, ne_eq, not_false_eq_true, not_true_eq_false, false_implies, forall_const, and_true, true_and]
   exact Bt.dropB _ hh (decide_eq_true (qr6 d)).symm
  ·simp only [QhU, YqB, z16, KHD, Xq6, simprocAttr, CO.tmps, Opd.tmps, optT, Nat.reducePow, Nat.reduceDiv, Nat.reduceMod, XmB, a1, a2, a3, decide_true, decide_false, ne_eq, not_false_eq_true, not_true_eq_false, false_implies, forall_const, and_true, true_and]
   exact Bt.dropB _ hh (decide_eq_true (qr6 d)).symm
  ·simp only [QhU, YqB, z16, KHD, Xq6, simprocAttr, CO.tmps, Opd.tmps, optT, Nat.reducePow, Nat.reduceDiv, Nat.reduceMod, XmB, a1, a2, a4, a5, decide_true, decide_false, ne_eq, not_false_eq_true, not_true_eq_false, false_implies, forall_const, and_true, true_and]
   exact Bt.dropB _ hh (decide_eq_true d.2).symm
  ·simp only [QhU, YqB, z16, KHD, Xq6, simprocAttr, CO.tmps, Opd.tmps, optT, Nat.reducePow, Nat.reduceDiv, Nat.reduceMod, XmB, a1, a2, a4, a5, a6, decide_true, decide_false, ne_eq, not_false_eq_true, not_true_eq_false, false_implies, forall_const, and_true, true_and]
   exact Bt.dropB _ hh (decide_eq_true d.2).symm
  ·simp only [QhU, YqB, z16, KHD, Xq6, simprocAttr, CO.tmps, Opd.tmps, optT, Nat.reducePow, Nat.reduceDiv, Nat.reduceMod, XmB, a1, a2, a4, a5, a6, decide_true, decide_false, ne_eq, not_false_eq_true, not_true_eq_false, false_implies, forall_const, and_true, true_and]
   exact Bt.dropB _ hh (decide_eq_false d).symm
  ·simp only [QhU, YqB, z16, KHD, Xq6, simprocAttr, CO.tmps, Opd.tmps, optT, Nat.reducePow, Nat.reduceDiv, Nat.reduceMod, XmB, a1, a2, a3, a4, decide_true, decide_false, ne_eq, not_false_eq_true, not_true_eq_false, false_implies, forall_const, and_true, true_and]
   exact Bt.dropB _ hh (decide_eq_true (qr6 d)).symm
  ·simp only [QhU, YqB, z16, KHD, Xq6, simprocAttr, CO.tmps, Opd.tmps, optT, Nat.reducePow, Nat.reduceDiv, Nat.reduceMod, XmB, a1, a2, a3, a4, a5, a6, decide_true, decide_false, ne_eq, not_false_eq_true, not_true_eq_false, false_implies, forall_const, and_true, true_and]
   exact Bt.dropB _ hh (decide_eq_false d).symm
 ·cases e
inductive QT where
 | first
 | rest
deriving DecidableEq
def zdl : QT → Int → Option QT
 | .first, c => if Qml c then some .rest else none
 | .rest, c => if tagP c then some .rest else none
def z0i (q : QT) : Bool := decide (q = .rest)
theorem YQD (q : QT) (c : Int) (h : 128 ≤ c) : zdl q c = none := by
 have h1 : ¬ tagP c := by unfold tagP lowP; omega
 have h2 : ¬ Qml c := by unfold Qml lowP; omega
 cases q
 ·exact if_neg h2
 ·exact if_neg h1
def allB (n : Nat) : List AB := [.blk false true [.f (.func 182) [] []], .blk false true [.p (n + 2) 0], .blk false true [.f (.func 225) [] [.p (n + 0) 0, .p (n + 1) 0], .b true]]
theorem zXN {P : Program} {p : Nat} {a : AV} {h : List AB} : Bt P p [a] (h ++ []) [a] h := by
 rw [List.append_nil]
 exact Bt.wk1 (Wk.refl _)
def JFA : List AV → List AB → Option (AV × List AB)
 | [.f (.func g) [] []], h => if g = 182 then some (.p (h.length + 2) 0, h ++ allB h.length) else none
 | _, _ => none
theorem ZcI : Spec Tryz.prog 183 JFA := by
 intro args h v h' e
 unfold JFA at e
 split at e
 ·rename_i g
  split at e
  ·rename_i hg
   subst hg
   cases e
   refine FnAt.c (FnAt.run (by kernel_rfl) (T := ⟨[], []⟩) ⟨trivial, trivial⟩ Tryz.func183 KMa fun ho hh => ?_)
   unfold w183 allB
   simp only [QhU, YqB, z16, KHD, Xq6, simprocAttr, CO.tmps, Opd.tmps, optT, Nat.reducePow, Nat.reduceDiv, Nat.reduceMod]
   exact ⟨rfl, Bt.wk1 (Wk.refl _)⟩
  ·cases e
 ·cases e
def KED : List AV → List AB → Option (AV × List AB)
 | [.i .i32 c, .p b1 0, .p b2 0], h => match ldV h none (.p b1 0), ldV h none (.p b2 0) with
  | some (.f (.func g) [] []), some (.p j 0) => if g = 182 then some (if tagP c then .p j 0 else .np, h) else none
  | _, _ => none
 | _, _ => none
theorem Y3r : Spec Tryz.prog 225 KED := by
 intro args h v h' e
 unfold KED at e
 split at e
 ·rename_i c b1 b2
  split at e
  ·rename_i g j l1 l2
   split at e
   ·rename_i hg
    subst hg
    cases e
    refine FnAt.c (FnAt.run (by kernel_rfl) (T := ⟨[⟨182, Kwc, fun _ => []⟩], []⟩) ⟨⟨q22, trivial⟩, trivial⟩ Tryz.func225 Jmz fun ho hh => ?_)
    unfold w225
    have m1 : ldV (h ++ []) none (.p b1 0) = some (.f (.func 182) [] []) := by rw [List.append_nil]; exact l1
    have m2 : ldV (h ++ []) none (.p b2 0) = some (.p j 0) := by rw [List.append_nil]; exact l2
    by_cases hc : tagP c
    ·rw [if_pos hc]
     simp only [QhU, YqB, z16, KHD, Xq6, simprocAttr, CO.tmps, Opd.tmps, optT, Nat.reducePow, Nat.reduceDiv, Nat.reduceMod, Kwc, m1, m2, eq_true hc, decide_true, decide_false, ne_eq, not_false_eq_true, not_true_eq_false, false_implies, forall_const, and_true, true_and]
     exact zXN
    ·rw [if_neg hc]
     simp only [QhU, YqB, z16, KHD, Xq6, simprocAttr, CO.tmps, Opd.tmps, optT, Nat.reducePow, Nat.reduceDiv, Nat.reduceMod, Kwc, m1, m2, eq_false hc, decide_true, decide_false, ne_eq, not_false_eq_true, not_true_eq_false, false_implies, forall_const, and_true, true_and]
     exact zXN
   ·cases e
  ·cases e
 ·cases e
def XQw : List AV → List AB → Option (AV × List AB)
 | [.i .i32 c], h => if Qml c then some (.p (h.length + 2) 0, h ++ allB h.length) else some (.np, h)
 | _, _ => none
theorem YkZ : Spec Tryz.prog 181 XQw := by
 intro args h v h' e
 unfold XQw at e
 split at e
 ·rename_i c
  refine FnAt.c (FnAt.run (by kernel_rfl) (T := ⟨[⟨182, Kwc, fun _ => []⟩, ⟨183, JFA, fun _ => []⟩], []⟩) ⟨⟨q22, ZcI, trivial⟩, trivial⟩ Tryz.func181 KCg fun ho hh => ?_)
  unfold w181
  by_cases h1 : Qml c
  ·rw [if_pos h1] at e
   cases e
   have c1 : (c = 46) = False := eq_false (by unfold Qml lowP at h1; omega)
   have c2 : (c = 45) = False := eq_false (by unfold Qml lowP at h1; omega)
   simp only [QhU, YqB, z16, KHD, Xq6, simprocAttr, CO.tmps, Opd.tmps, optT, Nat.reducePow, Nat.reduceDiv, Nat.reduceMod, Kwc, JFA, c1, c2, eq_true (qr6 h1), decide_true, decide_false, ne_eq, not_false_eq_true, not_true_eq_false, false_implies, forall_const, and_true, true_and]
   exact Bt.wk1 (Wk.refl _)
  ·rw [if_neg h1] at e
   cases e
   rcases emE (c = 46) with c1 | c1
   ·simp only [QhU, YqB, z16, KHD, Xq6, simprocAttr, CO.tmps, Opd.tmps, optT, Nat.reducePow, Nat.reduceDiv, Nat.reduceMod, Kwc, JFA, c1, decide_true, decide_false, ne_eq, not_false_eq_true, not_true_eq_false, false_implies, forall_const, and_true, true_and]
    exact zXN
   rcases emE (c = 45) with c2 | c2
   ·simp only [QhU, YqB, z16, KHD, Xq6, simprocAttr, CO.tmps, Opd.tmps, optT, Nat.reducePow, Nat.reduceDiv, Nat.reduceMod, Kwc, JFA, c1, c2, decide_true, decide_false, ne_eq, not_false_eq_true, not_true_eq_false, false_implies, forall_const, and_true, true_and]
    exact zXN
   have c3 : tagP c = False := eq_false fun z => by
    rcases z with z | z | z | z | z
    ·exact h1 (.inl z)
    ·exact h1 (.inr (.inl z))
    ·exact h1 (.inr (.inr z))
    ·exact of_eq_false c1 z
    ·exact of_eq_false c2 z
   simp only [QhU, YqB, z16, KHD, Xq6, simprocAttr, CO.tmps, Opd.tmps, optT, Nat.reducePow, Nat.reduceDiv, Nat.reduceMod, Kwc, JFA, c1, c2, c3, decide_true, decide_false, ne_eq, not_false_eq_true, not_true_eq_false, false_implies, forall_const, and_true, true_and]
   exact zXN
 ·cases e
def Xcf : Tab := [⟨181, XQw, fun _ => []⟩, ⟨225, KED, fun _ => []⟩]
def repT (h : List AB) (j : Nat) : QT → Prop
 | .first => ZMh h j = some [.f (.func 181) [] [], .b false]
 | .rest => ∃ b1 b2, ZMh h j = some [.f (.func 225) [] [.p b1 0, .p b2 0], .b true] ∧ ZMh h b1 = some [.f (.func 182) [] []] ∧ ZMh h b2 = some [.p j 0]
theorem Qzf (h L : List AB) (k : Nat) (fl m : Bool) (xs : List AV) (e : L[k]? = some (.blk fl m xs)) : ZMh (h ++ L) (h.length + k) = some xs := by
 unfold ZMh
 rw [List.getElem?_append_right (by omega), Nat.add_sub_cancel_left, e]
def autT : Aut Xcf QT where
 step := zdl
 ends := z0i
 Rep := repT
 big := YQD
 mono {H H' j q} hs h := by
  cases q
  ·exact hs _ _ h
  ·obtain ⟨b1, b2, q1, q2, q3⟩ := h
   exact ⟨b1, b2, hs _ _ q1, hs _ _ q2, hs _ _ q3⟩
 cel {H j q} h := by
  cases q
  ·refine ⟨_, _, _, h, fun c => ⟨fun e => ?_, fun q' e => ?_⟩⟩
   ·show XQw [.i .i32 c] H = _
    unfold XQw
    by_cases hc : Qml c
    ·rw [show zdl .first c = some .rest from if_pos hc] at e; cases e
    ·exact if_neg hc
   ·by_cases hc : Qml c
    ·rw [show zdl .first c = some .rest from if_pos hc] at e
     cases e
     refine ⟨H.length + 2, allB H.length, ?_, H.length + 0, H.length + 1, Qzf _ _ 2 _ _ _ rfl, Qzf _ _ 0 _ _ _ rfl, Qzf _ _ 1 _ _ _ rfl⟩
     show XQw [.i .i32 c] H = _
     exact if_pos hc
    ·rw [show zdl .first c = none from if_neg hc] at e; cases e
  ·obtain ⟨b1, b2, q1, q2, q3⟩ := h
   have l1 : ldV H none (.p b1 0) = some (.f (.func 182) [] []) := by simp only [ldV, q2, Option.bind_some]; rfl
   have l2 : ldV H none (.p b2 0) = some (.p j 0) := by simp only [ldV, q3, Option.bind_some]; rfl
   have hT : ∀ c, KED [.i .i32 c, .p b1 0, .p b2 0] H = some (if tagP c then .p j 0 else .np, H) := fun c => by
    unfold KED
    simp only [l1, l2, if_true]
   refine ⟨_, _, _, q1, fun c => ⟨fun e => ?_, fun q' e => ?_⟩⟩
   ·by_cases hc : tagP c
    ·rw [show zdl .rest c = some .rest from if_pos hc] at e; cases e
    ·have := hT c
     rw [if_neg hc] at this
     exact this
   ·by_cases hc : tagP c
    ·rw [show zdl .rest c = some .rest from if_pos hc] at e
     cases e
     have := hT c
     rw [if_pos hc] at this
     exact ⟨j, [], by rw [List.append_nil]; exact this, b1, b2, by rw [List.append_nil]; exact q1, by rw [List.append_nil]; exact q2, by rw [List.append_nil]; exact q3⟩
    ·rw [show zdl .rest c = none from if_neg hc] at e; cases e
theorem KU1 : Yla (Spec Tryz.prog) Xcf := ⟨YkZ, Y3r, trivial⟩
def tagV (s : List UInt8) : AV := if (64 : Int) < (s.length : Int) then .ag [.i .i64 4, .i .i64 64] else fltA 7 (runB zdl z0i s 0 .first)
noncomputable def qGK : List AV → List AB → Option (AV × List AB)
 | [.s s], h => if s.length ≤ 1000000 then some (tagV s, h) else none
 | _, _ => none
open Classical in
noncomputable def Zdr : List AV → List AB → Option (AV × List AB)
 | [.s s, .p j 0, .i .i64 e], h => if repT h j .first ∧ s.length ≤ 1000000 then some (fltA e (runB zdl z0i s 0 .first), h) else none
 | _, _ => none
theorem Xu6 : Spec Tryz.prog 184 Zdr := by
 intro args h v h' e
 unfold Zdr at e
 split at e
 ·split at e
  ·rename_i hc
   cases e
   exact FnAt.c (runA KU1 autT (q0 := .first) hc.1 hc.2)
  ·cases e
 ·cases e
theorem qPE : Spec Tryz.prog 123 qGK := by
 intro args h v h' e
 unfold qGK at e
 split at e
 ·rename_i s
  split at e
  ·rename_i hs
   cases e
   refine FnAt.c (FnAt.run (by kernel_rfl) (T := ⟨[⟨180, XjM, fun _ => []⟩, ⟨184, Zdr, fun _ => []⟩], []⟩) ⟨⟨qlF, Xu6, trivial⟩, trivial⟩ Tryz.func123 QzU fun ho hh => ?_)
   unfold w123 tagV
   by_cases g : (64 : Int) < (s.length : Int)
   ·have g' := eq_true g
    simp only [QhU, YqB, z16, KHD, Xq6, simprocAttr, CO.tmps, Opd.tmps, optT, Nat.reducePow, Nat.reduceDiv, Nat.reduceMod, XjM, g', decide_true, decide_false, ne_eq, not_false_eq_true, not_true_eq_false, false_implies, forall_const, and_true, true_and, if_true]
    exact Bt.drop _ hh rfl rfl
   ·have g' := eq_false g
    have hq : ∀ B C : AB, repT (h ++ [B, C, .blk false true [.f (.func 181) [] [], .b false]]) (h.length + 2) .first = True := fun B C => eq_true (Qzf _ _ 2 _ _ _ rfl)
    have hs' := eq_true hs
    obtain ⟨a, b, hab⟩ := KUw 7 (runB zdl z0i s 0 .first)
    rw [if_neg g]
    simp only [QhU, YqB, z16, KHD, Xq6, simprocAttr, CO.tmps, Opd.tmps, optT, Nat.reducePow, Nat.reduceDiv, Nat.reduceMod, XjM, g', Zdr, hq, hs', hab, decide_true, decide_false, ne_eq, not_false_eq_true, not_true_eq_false, false_implies, forall_const, and_true, true_and, if_false, if_true]
    exact Bt.drop _ hh rfl rfl
  ·cases e
 ·cases e
end Go.Proofs.YtebcngelgdpbjaaGreat
end
section
namespace Go.Proofs.YtebcngelgdpbjaaGreat
set_option maxRecDepth 100000
def JaQ (a b : Int × Int) : Prop := a.1 < b.1 ∨ a.1 = b.1 ∧ a.2 < b.2
instance (a b : Int × Int) : Decidable (JaQ a b) := by unfold JaQ; infer_instance
end Go.Proofs.YtebcngelgdpbjaaGreat
end
section
namespace Go.Proofs.YtebcngelgdpbjaaGreat
theorem YtW (a b : Int × Int) : cmpD a b < 0 ↔ JaQ a b := by
 obtain ⟨a1, a2⟩ := a
 obtain ⟨b1, b2⟩ := b
 simp only [cmpD, cmpI, JaQ]
 repeat' split
 all_goals omega
theorem JW8 (a : Int × Int) : ¬ JaQ a a := by simp [JaQ]
theorem q5V {a b c : Int × Int} (h : JaQ a b) (k : JaQ b c) : JaQ a c := by simp only [JaQ] at *; omega
theorem YZu (a b : Int × Int) : JaQ a b ∨ a = b ∨ JaQ b a := by
 obtain ⟨a1, a2⟩ := a
 obtain ⟨b1, b2⟩ := b
 simp only [JaQ, Prod.mk.injEq]
 omega
def srtD (l : Dots) : Dots := l.mergeSort fun x y => !(decide (cmpD y x < 0))
theorem QL5 (l : Dots) : (srtD l).Perm l := List.mergeSort_perm l _
theorem Qv5 (l : Dots) : (srtD l).length = l.length := (QL5 l).length_eq
end Go.Proofs.YtebcngelgdpbjaaGreat
end
section
namespace Go.Proofs.YtebcngelgdpbjaaGreat
set_option maxRecDepth 100000
set_option maxHeartbeats 4000000
def dotK : KeyR (Int × Int) := ⟨true, [.i, .i], fun d => .ag (dotR.f d), inferInstance, zlA⟩
theorem Yzk (q : Nat → Bool) (f : Nat → Nat) (n : Nat) (s : List Nat) (mid : Nat) : BWk q f (itM n s mid) (itM n s mid) = (q mid = true ∧ Wk (.m (f mid)) (.m mid)) := by
 simp [BWk, itM, okL, AV.ok, renL, AV.ren, WkL]
def kA : CC := .reg 2 [⟨some 5, none, .new true [.i .i64 0, .i .i64 0]⟩, ⟨none, none, .st (some 2) (.t 5) (.t 7)⟩]
def kB : CC := .block 1 (.reg 3 [⟨some 8, none, .ld none (.t 2)⟩, ⟨some 9, none, .ld (some 2) (.t 5)⟩, ⟨some 10, none, .bls true 1 [.i .i64 0, .i .i64 0] [(0, 2, .t 9)]⟩, ⟨some 11, none, .app false true 2 16 (.t 8) (.t 10)⟩, ⟨none, none, .st none (.t 2) (.t 11)⟩])
def kFr (p : Nat) (f : AV) : List AV := [.ns, f, .p (p + 0) 0, .tu [], .ns, .tu [], f, .tu [], .tu [], .tu [], .tu [], .tu [], .tu []]
def kL (p : Nat) (f acc : AV) (B C : AB) : List AB := [.blk false true [acc], .lp .ready .n (kFr p f) [7] kA kB, B, C]
def kR (p : Nat) (f : AV) (B : AB) (l : List (Int × Int)) (x : Int × Int) : List AB := kL p f (.sl (p + 7) 0 (l.length + 1) (l.length + 1) (some 2)) B .dead ++ [.blk true true (dotR.f x), .blk true true (dotR.f x), .blk true true (dotR.f x), .blk true true (dotR.cells l ++ dotR.f x)]
theorem Z70 {h : List AB} {f : AV} {B : AB} (x : Int × Int) :
  RdAt' Tryz.prog (h.length + 1) [.ag (dotR.f x)] (h ++ (kL h.length f .ns B .dead ++ [.blk true true (dotR.f x)])) (.b true) (h ++ kR h.length f B [] x) := by
 refine RdAt'.run (by kernel_rfl) (T := ⟨[], []⟩) ⟨trivial, trivial⟩ (by rw [qu4]; rfl) rfl ?_
 have z3 : (1 * 16 ≤ 140737488355328 ∧ 1 ≤ maxLen) = True := eq_true ⟨by decide, by unfold maxLen; omega⟩
 simp only [kFr, ZuR, kA, kL, zBU, z16, Xq6, simprocAttr, List.length_cons, List.length_nil]
 refine ⟨_, _, _, _, _, by rw [qu4]; rfl, ?_⟩
 simp only [kB, z16, Xq6, simprocAttr, zBU, List.length_cons, List.length_nil, z3]
 exact ⟨by unfold maxLen; omega, _, _, _, _, _, _, by rw [qu4]; rfl, rfl, by unfold qZF; dsimp only; rw [Yie]; rfl⟩
theorem Zb2 {h : List AB} {f : AV} {B : AB} {l : List (Int × Int)} (h0 : l ≠ []) (x : Int × Int) (hl : l.length ≤ 1000000) :
  RdAt' Tryz.prog (h.length + 1) [.ag (dotR.f x)] (h ++ (kL h.length f (apS dotR (h.length + 3) l) B (resB dotR true l) ++ [.blk true true (dotR.f x)])) (.b true) (h ++ kR h.length f B l x) := by
 refine RdAt'.run (by kernel_rfl) (T := ⟨[], []⟩) ⟨trivial, trivial⟩ (by rw [qu4]; rfl) rfl ?_
 have hn : l.length ≠ 0 := fun q => h0 (List.eq_nil_of_length_eq_zero q)
 have gr : ∀ id, apS dotR id l = rsl dotR id l := fun id => YM1 _ hn
 have fa := fun L k ys hb => q9y (h := h) (p := h.length) rfl (r := dotR) (sz := 2) rfl L k l 16 1 ys hn hb (by decide) (by omega) (by unfold maxLen; omega)
 simp only [gr, kFr, ZuR, kA, kL, zBU, z16, Xq6, simprocAttr, List.length_cons, List.length_nil]
 refine ⟨_, _, _, _, _, by rw [qu4]; rfl, ?_⟩
 simp only [kB, z16, Xq6, simprocAttr, zBU, List.length_cons, List.length_nil, fa]
 exact ⟨_, _, _, _, _, _, by rw [qu4]; rfl, rfl, by unfold qZF; dsimp only; rw [Yie]; rfl⟩
def kQ (h : List AB) (f : AV) (x : Int × Int) (hh r : List AB) : Prop :=
 ∃ l B, l.length ≤ 1000000 ∧ hh = h ++ (kL h.length f (apS dotR (h.length + 3) l) B (resB dotR true l) ++ [.blk true true (dotR.f x)]) ∧ r = h ++ kR h.length f B l x
open Classical in
noncomputable def kT (h : List AB) (f : AV) : List AV → List AB → Option (AV × List AB)
 | [.ag [.i .i64 a, .i .i64 b]], hh => if c : ∃ r, kQ h f (a, b) hh r then some (.b true, c.choose) else none
 | _, _ => none
open Classical in
theorem zg6 {h : List AB} {f : AV} {B : AB} {l : List (Int × Int)} (x : Int × Int) (hl : l.length ≤ 1000000) : kT h f [.ag (dotR.f x)] (h ++ (kL h.length f (apS dotR (h.length + 3) l) B (resB dotR true l) ++ [.blk true true (dotR.f x)])) = some (.b true, h ++ kR h.length f B l x) := by
 have hc : ∃ r, kQ h f x (h ++ (kL h.length f (apS dotR (h.length + 3) l) B (resB dotR true l) ++ [.blk true true (dotR.f x)])) r := ⟨_, l, B, hl, rfl, rfl⟩
 show (if c : ∃ r, kQ h f (x.1, x.2) _ r then some (AV.b true, c.choose) else none) = _
 rw [dif_pos hc]
 obtain ⟨l', B', _, e, e2⟩ := hc.choose_spec
 rw [e2]
 have := List.append_cancel_left e
 simp only [kL, List.cons_append, List.nil_append, List.cons.injEq, AB.blk.injEq, true_and, and_true] at this
 rw [Q7A this.1 this.2.2, this.2.1]
theorem ZjD {h : List AB} {f : AV} : qBU Tryz.prog (h.length + 1) (kT h f) := by
 intro args hh v h' e
 unfold kT at e
 split at e
 ·rename_i a b
  split at e
  ·rename_i hc
   cases e
   obtain ⟨l, B, h2, e1, e2⟩ := hc.choose_spec
   rw [e2, e1]
   by_cases h0 : l = []
   ·subst h0
    exact Z70 (a, b)
   ·exact Zb2 h0 (a, b) h2
  ·cases e
 ·cases e
theorem ZlU : ∀ (n : Nat) (s : List Nat), s.Nodup → (∀ i ∈ s, i < n) → s.length ≤ n
 | 0, s, _, h => by
  cases s with
  | nil => exact Nat.le_refl _
  | cons a l => exact absurd (h a (List.mem_cons_self ..)) (Nat.not_lt_zero _)
 | n + 1, s, hn, h => by
  have := ZlU n (s.erase n) (hn.erase n) fun i hi => by
   have h1 := h i (List.mem_of_mem_erase hi)
   have h2 : i ≠ n := fun z => by
    rw [z] at hi
    exact hn.not_mem_erase hi
   omega
  have h3 : s.length ≤ (s.erase n).length + 1 := by
   by_cases hm : n ∈ s
   ·rw [List.length_erase_of_mem hm]; omega
   ·rw [List.erase_of_not_mem hm]; omega
  omega
def kO (l : List ((Int × Int) × AV)) (s : List Nat) : List (Int × Int) := s.map fun i => (l.map (·.1)).getD i (0, 0)
theorem qVS (l : List ((Int × Int) × AV)) (s : List Nat) : (kO l s).length = s.length := List.length_map _
theorem qS2 (l : List ((Int × Int) × AV)) (s : List Nat) {i : Nat} (hi : i < l.length) : kO l (s ++ [i]) = kO l s ++ [(l[i]).1] := by
 unfold kO
 rw [List.map_append]
 simp [hi]
theorem Kn2 {l : List ((Int × Int) × AV)} {s : List Nat} (hn : s.Nodup) (hl : ∀ i ∈ s, i < l.length) (ha : ∀ i < l.length, i ∈ s) : (kO l s).Perm (l.map (·.1)) := by
 have h1 : s.Perm (List.range l.length) := (List.perm_ext_iff_of_nodup hn List.nodup_range).2 fun a => ⟨fun h => List.mem_range.2 (hl a h), fun h => ha a (List.mem_range.1 h)⟩
 have h2 : (List.range l.length).map (fun i => (l.map (·.1)).getD i (0, 0)) = l.map (·.1) := by
  refine List.ext_getElem (by simp) fun i h1 h2 => ?_
  simp at h2
  simp [h2]
 have h3 := h1.map (fun i => (l.map (·.1)).getD i (0, 0))
 rw [h2] at h3
 exact h3
def kH (h : List AB) (f : AV) (n mid : Nat) (o : List (Int × Int)) (seen : List Nat) : List AB := h ++ kL h.length f (apS dotR (h.length + 3) o) (itM n seen mid) (resB dotR true o)
def kX (h : List AB) (f : AV) (l : List ((Int × Int) × AV)) : AV → List AB → Prop := fun v h2 => v = .tu [] ∧ ∃ o : List (Int × Int), o.Perm (l.map (·.1)) ∧
 h2 = h ++ [.blk false true [apS dotR (h.length + 2) o], .lp .ready .n (kFr h.length f) [7] kA kB, resB dotR true o]
theorem JZZ {h : List AB} (hh : HOk h) {j mid : Nat} {m : Bool} {l : List ((Int × Int) × AV)} (b1 : ZMh h j = some [.m mid]) (hm : h[mid]? = some (mpB dotK m l)) (hl : l.length ≤ 100000) (f : AV) (of : f.ok (fun i => decide (i < h.length)) = true) :
  FnAtS Tryz.prog 148 [.y (h.length + 1), .p j 0] (h ++ [.blk false true [.ns], .lp .ready .n (kFr h.length f) [7] kA kB]) (kX h f l) := by
 refine FnAtS.run (by kernel_rfl) (T := ⟨[], [⟨h.length + 1, kT h f, fun _ => []⟩]⟩) ⟨trivial, ⟨ZjD, trivial⟩⟩ Tryz.func148 Z4X fun _ _ => ?_
 have f1 := qbm b1
 have hmid : mid < h.length := (List.getElem?_eq_some_iff.1 hm).1
 have f2 : ∀ L, rgV (h ++ L) (.m mid) = some (.p (h.length + L.length) 0, h ++ (L ++ [itM l.length [] mid])) := fun L => by
  have := Ygz dotK (h := h ++ L) (id := mid) (m := m) (l := l) (by rw [List.getElem?_append_left hmid]; exact hm)
  rw [this, List.length_append, List.append_assoc]
  rfl
 have e1i : j < h.length := Kvu b1
 unfold w148
 simp only [QhU, YqB, z16, Xq6, simprocAttr, zWs, f1, f2]
 have up : ∀ (t : AV), t.ok (fun i => decide (i < h.length)) = true → ∀ c, t.ok (fun i => decide (i < h.length + c)) = true := fun t ht c => AV.ok_mono (fun i q => by simp only [decide_eq_true_eq] at q ⊢; omega) t ht
 have rn : ∀ (t : AV), t.ok (fun i => decide (i < h.length)) = true → ∀ sel, Wk (t.ren (selN h.length sel)) t := fun t ht sel => Wk.ren (fun i hi => ZiE hi) ht
 have fo := fun c => And.intro (up f of c) (And.intro (decide_eq_true (p := mid < h.length + c) (by omega)) (decide_eq_true (p := j < h.length + c) (by omega)))
 have fr := fun sel => And.intro (rn f of sel) (And.intro (ZiE (sel := sel) hmid) (ZiE (sel := sel) e1i))
 have ao : ∀ (n : Nat) (L : List (Int × Int)), (apS dotR (n + 3) L).ok (fun i => decide (i < n + 4)) = true := fun n L => Yv9 _ _ _ (by simp)
 have ao2 : ∀ (n : Nat) (L : List (Int × Int)), (apS dotR (n + 2) L).ok (fun i => decide (i < n + 3)) = true := fun n L => Yv9 _ _ _ (by simp)
 refine q2X (S := List Nat) (fun s => l.length - s.length) (fun s => [.y (h.length + 1)] ++ tp 4 ++ [.p (h.length + 2) 0] ++ tp 8) (fun s => kH h f l.length mid (kO l s) s) (fun s => s.Nodup ∧ ∀ i ∈ s, i < l.length) [] ⟨List.nodup_nil, fun i hi => by simp at hi⟩ ?_ fun s hs => ?_
 ·show Bt _ _ _ _ _ (h ++ [.blk false true [.ns], .lp .ready .n (kFr h.length f) [7] kA kB, itM l.length [] mid, .dead])
  have e : h ++ [AB.blk false true [AV.ns], AB.lp .ready .n (kFr h.length f) [7] kA kB, itM l.length [] mid, AB.dead] = h ++ [AB.blk false true [AV.ns], AB.lp .ready .n (kFr h.length f) [7] kA kB, itM l.length [] mid] ++ List.replicate 1 .dead := by
   rw [List.append_assoc]
   rfl
  rw [e]
  refine Bt.trans (Bt.wk ?_) (Bt.pad _ _ 1)
  simp only [z16, Xq6, simprocAttr]
 obtain ⟨hnd, hlt⟩ := hs
 have hn := ZlU l.length s hnd hlt
 unfold kH
 have key : ∀ (L : List AB) (k : Nat), (h ++ L)[h.length + k]? = L[k]? := fun L k => qu4 L k
 obtain ⟨cands, hc1, hc2⟩ := zoI dotK (h := h ++ kL h.length f (apS dotR (h.length + 3) (kO l s)) (itM l.length s mid) (resB dotR true (kO l s))) (k := h.length + 2) (mid := mid) (m := m) (seen := s) (l := l) (by rw [key]; rfl) (by rw [List.getElem?_append_left hmid]; exact hm)
 rw [Qq5, zUN, qcP]
 refine ⟨cands, hc1, fun c hc => ?_⟩
 rcases hc2 c hc with ⟨hall, rfl⟩ | ⟨i, hi, hni, rfl⟩
 ·simp only [kL, z16, Xq6, simprocAttr, zOX]
  refine ⟨_, .tu [], _, rfl, Bt.selL 2 [0, 1, 3] hh (by decide) (by decide) (by decide) (by decide) (by simp only [KlC, FrSel, BlkSel, AV.ren, renL, AV.ok, okL, Option.some.injEq, exists_eq_left', List.length_cons, List.length_nil, Nat.reduceAdd, Nat.reduceLT, reduceCtorEq, implies_true, exists_eq', kFr, fo, fr, ao, ao2, Yzk, zKP]) (by simp only [KlC, FrSel, BlkSel, AV.ren, renL, AV.ok, okL, Option.some.injEq, exists_eq_left', List.length_cons, List.length_nil, Nat.reduceAdd, Nat.reduceLT, reduceCtorEq, implies_true, exists_eq', kFr, fo, fr, ao]), rfl, kO l s, Kn2 hnd hlt hall, rfl⟩
 ·rw [Yie]
  have he : ∀ (x : List AB), entV (h ++ (kL h.length f (apS dotR (h.length + 3) (kO l s)) (itM l.length (s ++ [i]) mid) (resB dotR true (kO l s)) ++ x)) (.p (h.length + 2) 0) = some (.tu [dotK.f (l[i]).1, (l[i]).2]) := fun x => X2J dotK hi (by rw [key]; rfl) (by rw [List.getElem?_append_left hmid]; exact hm)
  have he0 := he []
  have ht := zg6 (h := h) (f := f) (B := itM l.length (s ++ [i]) mid) (l := kO l s) (l[i]).1 (by rw [qVS]; omega)
  simp only [kL, zfn, Z1h, zBU] at he0 ht
  simp only [kL, z16, Xq6, simprocAttr, Qcs, he0, dotK, zBU, ht, List.set_cons_succ, List.set_cons_zero, XJx, Bool.not_true, Bool.not_false]
  have hnd' : (s ++ [i]).Nodup := List.nodup_append.2 ⟨hnd, by simp, fun a ha b hb => by rw [List.mem_singleton.1 hb]; exact fun z => hni (z ▸ ha)⟩
  have hlt' : ∀ x ∈ s ++ [i], x < l.length := fun x hx => by
   rcases List.mem_append.1 hx with hx | hx
   ·exact hlt x hx
   ·rw [List.mem_singleton.1 hx]; exact hi
  have hn' := ZlU l.length _ hnd' hlt'
  rw [List.length_append, List.length_singleton] at hn'
  refine ⟨s ++ [i], ⟨hnd', hlt'⟩, by dsimp only; rw [List.length_append, List.length_singleton]; omega, ?_⟩
  dsimp only
  rw [qS2 l s hi]
  simp only [kR, kL, zfn, Z1h, ZTK, YEl]
  exact Bt.selL 2 [0, 1, 2, 7] hh (by decide) (by decide) (by decide) (by decide) (by simp only [KlC, FrSel, BlkSel, AV.ren, renL, AV.ok, okL, Option.some.injEq, exists_eq_left', List.length_cons, List.length_nil, Nat.reduceAdd, Nat.reduceLT, reduceCtorEq, implies_true, exists_eq', kFr, fo, fr, ao, Yzk, zKP]) (by simp only [KlC, FrSel, BlkSel, AV.ren, renL, AV.ok, okL, Option.some.injEq, exists_eq_left', List.length_cons, List.length_nil, Nat.reduceAdd, Nat.reduceLT, reduceCtorEq, implies_true, exists_eq', kFr, fo, fr, ao])
end Go.Proofs.YtebcngelgdpbjaaGreat
end
