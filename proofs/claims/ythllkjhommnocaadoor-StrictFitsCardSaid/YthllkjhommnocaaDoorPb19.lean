/- Part 19 of what the laws' proofs rest on. No condition. -/
import Derived.Laws.RangeAny
import Derived.Test.YthllkjhommnocaaDoorPb18
set_option linter.all false
section
namespace Go.Proofs.YthllkjhommnocaaDoor
set_option maxRecDepth 100000
set_option maxHeartbeats 4000000
def lowP (c : Int) : Prop := (97 ≤ c ∧ c ≤ 122) ∨ (48 ≤ c ∧ c ≤ 57)
instance (c : Int) : Decidable (lowP c) := inferInstanceAs (Decidable (_ ∨ _))
def J6o : List AV → List AB → Option (AV × List AB)
 | [.i .i32 c], h => some (.b (decide (lowP c)), h)
 | _, _ => none
theorem qhc : Spec Tryd.prog 63 J6o := by
 intro args h v h' e
 unfold J6o at e
 split at e
 ·rename_i c
  cases e
  refine FnAt.c (FnAt.run (by kernel_rfl) (T := ⟨[], []⟩) ⟨trivial, trivial⟩ Tryd.func63 sw63 fun ho hh => ?_)
  unfold w63
  by_cases h1 : 97 ≤ c <;> by_cases h2 : c ≤ 122 <;> by_cases h3 : 48 ≤ c <;> by_cases h4 : c ≤ 57 <;>
   (simp only [XSG, YPr, XUb, KIu, Xgj, if_true, if_false, ↓reduceIte, Nat.reduceAdd, Nat.reduceSub, Nat.reduceLeDiff, Nat.reduceEqDiff, Nat.reduceMul, Nat.reduceLT, Int.reduceLT, Int.reduceLE, Int.reduceEq, CO.tmps, Opd.tmps, optT, Nat.reducePow, Nat.reduceDiv, Nat.reduceMod, h1, h2, h3, h4, decide_true, decide_false]; exact Bt.dropB _ hh (by simp [lowP, h1, h2, h3, h4]))
 ·cases e
theorem Xrz : Spec Tryd.prog 40 J6o := by
 intro args h v h' e
 unfold J6o at e
 split at e
 ·rename_i c
  cases e
  refine FnAt.c (FnAt.run (by kernel_rfl) (T := ⟨[], []⟩) ⟨trivial, trivial⟩ Tryd.func40 sw40 fun ho hh => ?_)
  unfold w40
  by_cases h1 : 97 ≤ c <;> by_cases h2 : c ≤ 122 <;> by_cases h3 : 48 ≤ c <;> by_cases h4 : c ≤ 57 <;>
   (simp only [XSG, YPr, XUb, KIu, Xgj, if_true, if_false, ↓reduceIte, Nat.reduceAdd, Nat.reduceSub, Nat.reduceLeDiff, Nat.reduceEqDiff, Nat.reduceMul, Nat.reduceLT, Int.reduceLT, Int.reduceLE, Int.reduceEq, CO.tmps, Opd.tmps, optT, Nat.reducePow, Nat.reduceDiv, Nat.reduceMod, h1, h2, h3, h4, decide_true, decide_false]; exact Bt.dropB _ hh (by simp [lowP, h1, h2, h3, h4]))
 ·cases e
end Go.Proofs.YthllkjhommnocaaDoor
end
section
namespace Go.Proofs.YthllkjhommnocaaDoor
set_option maxRecDepth 100000
set_option maxHeartbeats 4000000
def runB {Q : Type} (step : Q → Int → Option Q) (ends : Q → Bool) : List UInt8 → Nat → Q → Option Nat
 | [], pos, q => if ends q then none else some pos
 | b :: l, pos, q => match (if b.toNat < 128 then step q b.toNat else none) with
  | none => some pos
  | some q' => runB step ends l (pos + 1) q'
theorem J9H (x : List UInt8) : lenV (.s x) = some (x.length : Int) := _root_.id rfl
theorem qiS (x : List UInt8) : (AV.s x).isStr = true := _root_.id rfl
def fltA (e : Int) : Option Nat → AV
 | none => .ag [.i .i64 0, .i .i64 0]
 | some at' => .ag [.i .i64 e, .i .i64 at']
theorem XKe {l : List UInt8} {pos : Nat} (h : pos < l.length) (ha : ¬ (l[pos]).toNat < 128) : 128 ≤ (Utf8.decode ⟨l.toArray⟩ pos).1 := by
 have hs : pos < (⟨l.toArray⟩ : ByteArray).size := by simpa [ByteArray.size] using h
 exact (decode_high ⟨l.toArray⟩ pos hs (by show 128 ≤ (l[pos]).toNat; omega)).1
theorem Qit {Q : Type} {step : Q → Int → Option Q} {ends : Q → Bool} {s : List UInt8} {pos : Nat} {q : Q} (h : pos < s.length) : runB step ends (s.drop pos) pos q = match (if (s[pos]).toNat < 128 then step q (s[pos]).toNat else none) with
  | none => some pos
  | some q' => runB step ends (s.drop (pos + 1)) (pos + 1) q' := by
 rw [List.drop_eq_getElem_cons h]
 rfl
theorem Qww {Q : Type} {step : Q → Int → Option Q} (hbig : ∀ q c, 128 ≤ c → step q c = none) {s : List UInt8} {pos : Nat} (h : pos < s.length) (q : Q) :
  (if (s[pos]).toNat < 128 then step q (s[pos]).toNat else none) = step q ((Utf8.decode ⟨s.toArray⟩ pos).1 : Int) ∧ (∀ q', step q ((Utf8.decode ⟨s.toArray⟩ pos).1 : Int) = some q' → (Utf8.decode ⟨s.toArray⟩ pos).2 = 1) := by
 by_cases ha : (s[pos]).toNat < 128
 ·rw [if_pos ha, ZLa h ha]
  exact ⟨rfl, fun _ _ => rfl⟩
 ·rw [if_neg ha]
  have := hbig q _ (show (128 : Int) ≤ ((Utf8.decode ⟨s.toArray⟩ pos).1 : Int) by have := XKe h ha; omega)
  exact ⟨this.symm, fun q' e => by rw [this] at e; cases e⟩
end Go.Proofs.YthllkjhommnocaaDoor
end
section
namespace Go.Proofs.YthllkjhommnocaaDoor
set_option maxRecDepth 100000
set_option maxHeartbeats 4000000
def zHI : List AV → List AB → Option (AV × List AB)
 | [.s s, .i .i64 m], h => some (.tu [(if m < (s.length : Int) then .ag [.i .i64 4, .i .i64 m] else .ag [.i .i64 0, .i .i64 0]), .b (decide (m < (s.length : Int)))], h)
 | _, _ => none
theorem z9a : Spec Tryd.prog 35 zHI := by
 intro args h v h' e
 unfold zHI at e
 split at e
 ·rename_i s m
  cases e
  refine FnAt.c (FnAt.run (by kernel_rfl) (T := ⟨[], []⟩) ⟨trivial, trivial⟩ Tryd.func35 sw35 fun ho hh => ?_)
  unfold w35
  by_cases g : m < (s.length : Int)
  ·have g' := eq_true g
   simp only [XSG, YPr, XUb, KIu, Xgj, if_true, if_false, ↓reduceIte, Nat.reduceAdd, Nat.reduceSub, Nat.reduceLeDiff, Nat.reduceEqDiff, Nat.reduceMul, Nat.reduceLT, Int.reduceLT, Int.reduceLE, Int.reduceEq, CO.tmps, Opd.tmps, optT, Nat.reducePow, Nat.reduceDiv, Nat.reduceMod, g', J9H, qiS, decide_true, decide_false, false_implies, forall_const, and_true, true_and, not_true_eq_false, not_false_eq_true]
   exact Bt.drop _ hh rfl rfl
  ·have g' := eq_false g
   simp only [XSG, YPr, XUb, KIu, Xgj, if_true, if_false, ↓reduceIte, Nat.reduceAdd, Nat.reduceSub, Nat.reduceLeDiff, Nat.reduceEqDiff, Nat.reduceMul, Nat.reduceLT, Int.reduceLT, Int.reduceLE, Int.reduceEq, CO.tmps, Opd.tmps, optT, Nat.reducePow, Nat.reduceDiv, Nat.reduceMod, g', J9H, qiS, decide_true, decide_false, false_implies, forall_const, and_true, true_and, not_true_eq_false, not_false_eq_true]
   exact Bt.drop _ hh rfl rfl
 ·cases e
theorem ZZ1 (e : Int) (o : Option Nat) : ∃ a b, fltA e o = .ag [.i .i64 a, .i .i64 b] := by
 cases o <;> exact ⟨_, _, rfl⟩
end Go.Proofs.YthllkjhommnocaaDoor
end
section
namespace Go.Proofs.YthllkjhommnocaaDoor
set_option maxRecDepth 100000
set_option maxHeartbeats 4000000
def qdi : List AV → List AB → Option (AV × List AB)
 | [.i .i64 e, .i .i64 a], h => some (.ag [.i .i64 e, .i .i64 a], h)
 | _, _ => none
theorem qxG : Spec Tryd.prog 39 qdi := by
 intro args h v h' e
 unfold qdi at e
 split at e
 ·rename_i x a
  cases e
  refine FnAt.c (FnAt.run (by kernel_rfl) (T := ⟨[], []⟩) ⟨trivial, trivial⟩ Tryd.func39 sw39 fun ho hh => ?_)
  unfold w39
  simp only [XSG, YPr, XUb, KIu, Xgj, if_true, if_false, ↓reduceIte, Nat.reduceAdd, Nat.reduceSub, Nat.reduceLeDiff, Nat.reduceEqDiff, Nat.reduceMul, Nat.reduceLT, Int.reduceLT, Int.reduceLE, Int.reduceEq, CO.tmps, Opd.tmps, optT, Nat.reducePow, Nat.reduceDiv, Nat.reduceMod]
  exact Bt.drop _ hh rfl rfl
 ·cases e
end Go.Proofs.YthllkjhommnocaaDoor
end
section
namespace Go.Proofs.YthllkjhommnocaaDoor
set_option maxRecDepth 100000
set_option maxHeartbeats 4000000
def SameRd (H H' : List AB) : Prop := ∀ i cs, JZy H i = some cs → JZy H' i = some cs
theorem SameRd.app (H L : List AB) : SameRd H (H ++ L) := fun i cs e => by
 unfold JZy at e ⊢
 by_cases hi : i < H.length
 ·rw [List.getElem?_append_left hi]; exact e
 ·rw [List.getElem?_eq_none (by omega)] at e; cases e
theorem SameRd.it (h M : List AB) (A : AB) (s : List UInt8) (p p' : Nat) : SameRd (h ++ A :: itr s p :: M) (h ++ A :: itr s p' :: M) := fun i cs e => by
 unfold JZy at e ⊢
 by_cases hi : i < h.length
 ·rw [List.getElem?_append_left hi] at e ⊢; exact e
 ·rw [List.getElem?_append_right (by omega)] at e ⊢
  generalize i - h.length = k at e ⊢
  match k with
  | 0 => exact e
  | 1 => cases e
  | k + 2 => exact e
structure Aut (Tb : Tab) (Q : Type) where
 step : Q → Int → Option Q
 ends : Q → Bool
 Rep : List AB → Nat → Q → Prop
 big : ∀ q c, 128 ≤ c → step q c = none
 mono : ∀ {H H' j q}, SameRd H H' → Rep H j q → Rep H' j q
 cel : ∀ {H j q}, Rep H j q → ∃ g fst cap, JZy H j = some [.f (.func g) fst cap, .b (ends q)] ∧ ∀ c : Int,
  (step q c = none → Tb.at g (fst ++ [.i .i32 c] ++ cap) H = some (.np, H)) ∧
  ∀ q', step q c = some q' → ∃ j' L, Tb.at g (fst ++ [.i .i32 c] ++ cap) H = some (.p j' 0, H ++ L) ∧ Rep (H ++ L) j' q'
theorem runA {Tb : Tab} (hTb : Qkp (Spec Tryd.prog) Tb) {Q : Type} (A : Aut Tb Q) {h : List AB} {s : List UInt8} {j0 : Nat} {e : Int} {q0 : Q} (hj : A.Rep h j0 q0) (hs : s.length ≤ 1000000) :
  FnAt Tryd.prog 36 [.s s, .p j0 0, .i .i64 e] h (fltA e (runB A.step A.ends s 0 q0)) h := by
 refine FnAt.run (by kernel_rfl) (T := ⟨Tb, []⟩) ⟨hTb, trivial⟩ Tryd.func36 sw36 fun ho hh => ?_
 unfold w36
 have en0 : KoA .np .np = some true := rfl
 have en1 : ∀ a b, KoA (.p a b) .np = some false := fun _ _ => rfl
 simp only [XSG, YPr, XUb, KIu, Xgj, if_true, if_false, ↓reduceIte, Nat.reduceAdd, Nat.reduceSub, Nat.reduceLeDiff, Nat.reduceEqDiff, Nat.reduceMul, Nat.reduceLT, Int.reduceLT, Int.reduceLE, Int.reduceEq, CO.tmps, Opd.tmps, optT, Nat.reducePow, Nat.reduceDiv, Nat.reduceMod, qlo]
 refine q2Y (S := Nat × Q × Nat × List AB) (fun σ => s.length - σ.1) (fun σ => [.s s, .p σ.2.2.1 0, .i .i64 e] ++ tp 3 ++ [.p (h.length + 0) 0] ++ tp 3 ++ [.p (h.length + 1) 0] ++ tp 25) (fun σ => h ++ .blk true true [.i .i64 0, .i .i64 0] :: itr s σ.1 :: σ.2.2.2)
  (fun σ => σ.1 ≤ s.length ∧ A.Rep (h ++ .blk true true [.i .i64 0, .i .i64 0] :: itr s σ.1 :: σ.2.2.2) σ.2.2.1 σ.2.1 ∧ runB A.step A.ends (s.drop σ.1) σ.1 σ.2.1 = runB A.step A.ends s 0 q0) (0, q0, j0, []) ⟨Nat.zero_le _, A.mono (SameRd.app _ _) hj, rfl⟩ ?_ fun σ hσ => ?_
 ·refine Bt.wk ?_
  simp only [XUb, Xgj, if_true, if_false, reduceIte, Nat.reduceAdd, Nat.reduceSub, Nat.reduceLeDiff, Nat.reduceEqDiff, Nat.reduceMul, Nat.reduceLT, Int.reduceLT, Int.reduceLE, Int.reduceEq]
 obtain ⟨pos, q, j, M⟩ := σ
 obtain ⟨h1, h2, h4⟩ := hσ
 dsimp only at h1 h2 h4 ⊢
 have hn : nxV (h ++ .blk true true [.i .i64 0, .i .i64 0] :: itr s pos :: M) (.p (h.length + 1) 0) = if pos < s.length then some (.tu [.b true, .i .i64 (pos : Int), .i .i32 ((Utf8.decode ⟨s.toArray⟩ pos).1 : Int)], h ++ .blk true true [.i .i64 0, .i .i64 0] :: itr s (pos + (Utf8.decode ⟨s.toArray⟩ pos).2) :: M) else some (.tu [.b false], h ++ .blk true true [.i .i64 0, .i .i64 0] :: itr s pos :: M) := Jhu _ 1 s pos rfl
 by_cases g : pos < s.length
 ·have hd := Qit (step := A.step) (ends := A.ends) (q := q) g
  rw [h4] at hd
  obtain ⟨e1, e2⟩ := Qww (step := A.step) A.big g q
  rw [e1] at hd
  have h2' := A.mono (SameRd.it h M (.blk true true [.i .i64 0, .i .i64 0]) s pos (pos + (Utf8.decode ⟨s.toArray⟩ pos).2)) h2
  obtain ⟨gf, fst, cap, r1, r2⟩ := A.cel h2'
  obtain ⟨r3, r4⟩ := r2 ((Utf8.decode ⟨s.toArray⟩ pos).1 : Int)
  have lj0 : ldV (h ++ .blk true true [.i .i64 0, .i .i64 0] :: itr s (pos + (Utf8.decode ⟨s.toArray⟩ pos).2) :: M) none (.p j 0) = some (.f (.func gf) fst cap) := by
   simp only [ldV, r1, Option.bind_some]
   rfl
  cases hst : A.step q ((Utf8.decode ⟨s.toArray⟩ pos).1 : Int) with
  | none =>
   rw [hst] at hd
   dsimp only at hd
   have r5 := r3 hst
   simp only [XSG, YPr, XUb, KIu, Xgj, if_true, if_false, ↓reduceIte, Nat.reduceAdd, Nat.reduceSub, Nat.reduceLeDiff, Nat.reduceEqDiff, Nat.reduceMul, Nat.reduceLT, Int.reduceLT, Int.reduceLE, Int.reduceEq, CO.tmps, Opd.tmps, optT, Nat.reducePow, Nat.reduceDiv, Nat.reduceMod, Y1Q, hn, g, lj0, r5, en0, en1, decide_true, decide_false, ne_eq, not_false_eq_true, not_true_eq_false, false_implies, forall_const, and_true, true_and]
   rw [hd]
   exact Bt.drop _ hh rfl rfl
  | some q' =>
   have e3 := e2 q' hst
   rw [hst] at hd
   dsimp only at hd
   obtain ⟨j', L, r5, r6⟩ := r4 q' hst
   rw [e3] at hn lj0 r5 r6
   simp only [XSG, YPr, XUb, KIu, Xgj, if_true, if_false, ↓reduceIte, Nat.reduceAdd, Nat.reduceSub, Nat.reduceLeDiff, Nat.reduceEqDiff, Nat.reduceMul, Nat.reduceLT, Int.reduceLT, Int.reduceLE, Int.reduceEq, CO.tmps, Opd.tmps, optT, Nat.reducePow, Nat.reduceDiv, Nat.reduceMod, Y1Q, hn, g, lj0, r5, en0, en1, decide_true, decide_false, ne_eq, not_false_eq_true, not_true_eq_false, false_implies, forall_const, and_true, true_and]
   refine ⟨(pos + 1, q', j', M ++ L), ⟨g, ?_, hd.symm⟩, by dsimp only; omega, ?_⟩
   ·dsimp only
    rw [List.append_assoc, List.cons_append, List.cons_append] at r6
    exact r6
   ·dsimp only
    refine Bt.wk ?_
    simp only [XUb, Xgj, if_true, if_false, reduceIte, Nat.reduceAdd, Nat.reduceSub, Nat.reduceLeDiff, Nat.reduceEqDiff, Nat.reduceMul, Nat.reduceLT, Int.reduceLT, Int.reduceLE, Int.reduceEq]
 ·have hpos : pos = s.length := by omega
  have hd : runB A.step A.ends s 0 q0 = if A.ends q then none else some s.length := by
   rw [← h4, hpos, List.drop_length]
   rfl
  obtain ⟨gf, fst, cap, r1, _⟩ := A.cel h2
  have lj1 : ldV (h ++ .blk true true [.i .i64 0, .i .i64 0] :: itr s pos :: M) none (.p j 1) = some (.b (A.ends q)) := by
   simp only [ldV, r1, Option.bind_some]
   rfl
  cases he : A.ends q with
  | true =>
   rw [he] at hd lj1
   simp only [XSG, YPr, XUb, KIu, Xgj, if_true, if_false, ↓reduceIte, Nat.reduceAdd, Nat.reduceSub, Nat.reduceLeDiff, Nat.reduceEqDiff, Nat.reduceMul, Nat.reduceLT, Int.reduceLT, Int.reduceLE, Int.reduceEq, CO.tmps, Opd.tmps, optT, Nat.reducePow, Nat.reduceDiv, Nat.reduceMod, Y1Q, hn, g, lj1, zQy, Bool.not_true, Bool.not_false, J9H, qiS, decide_true, decide_false, ne_eq, not_false_eq_true, not_true_eq_false, false_implies, forall_const, and_true, true_and]
   rw [hd]
   exact Bt.drop _ hh rfl rfl
  | false =>
   rw [he] at hd lj1
   simp only [XSG, YPr, XUb, KIu, Xgj, if_true, if_false, ↓reduceIte, Nat.reduceAdd, Nat.reduceSub, Nat.reduceLeDiff, Nat.reduceEqDiff, Nat.reduceMul, Nat.reduceLT, Int.reduceLT, Int.reduceLE, Int.reduceEq, CO.tmps, Opd.tmps, optT, Nat.reducePow, Nat.reduceDiv, Nat.reduceMod, Y1Q, hn, g, lj1, zQy, Bool.not_true, Bool.not_false, J9H, qiS, decide_true, decide_false, ne_eq, not_false_eq_true, not_true_eq_false, false_implies, forall_const, and_true, true_and]
   rw [hd]
   exact Bt.drop _ hh rfl rfl
end Go.Proofs.YthllkjhommnocaaDoor
end
section
namespace Go.Proofs.YthllkjhommnocaaDoor
set_option maxRecDepth 100000
set_option maxHeartbeats 4000000
theorem emE (p : Prop) : p = True ∨ p = False := Classical.propComplete p
theorem zYT (h L : List AB) (k : Nat) (fl m : Bool) (xs : List AV) (e : L[k]? = some (.blk fl m xs)) : JZy (h ++ L) (h.length + k) = some xs := by
 unfold JZy
 rw [List.getElem?_append_right (by omega), Nat.add_sub_cancel_left, e]
end Go.Proofs.YthllkjhommnocaaDoor
end
section
namespace Go.Proofs.YthllkjhommnocaaDoor
inductive QP where
 | f1
 | i1
 | f2
 | i2
deriving DecidableEq
def QQo : QP → Int → Option QP
 | .f1, c => if lowP c then some .i1 else none
 | .i1, c => if c = 47 then some .f2 else if lowP c then some .i1 else none
 | .f2, c => if lowP c then some .i2 else none
 | .i2, c => if lowP c then some .i2 else none
def J6x (q : QP) : Bool := decide (q = .i2)
theorem ZYe (q : QP) (c : Int) (h : 128 ≤ c) : QQo q c = none := by
 have h1 : ¬ lowP c := by unfold lowP; omega
 have h2 : ¬ c = 47 := by omega
 cases q <;> simp [QQo, h1, h2]
def cutL : List UInt8 → Option (List UInt8 × List UInt8)
 | [] => none
 | b :: l => if b = 47 then some ([], l) else (cutL l).map fun (x, y) => (b :: x, y)
def lows (s : List UInt8) : Prop := ∀ b ∈ s, lowP (b.toNat : Int)
theorem Yct {b : UInt8} (h : lowP (b.toNat : Int)) : b ≠ 47 ∧ b ≠ 42 ∧ b.toNat < 128 := by
 refine ⟨fun e => ?_, fun e => ?_, ?_⟩
 ·subst e; unfold lowP at h; simp at h
 ·subst e; unfold lowP at h; simp at h
 ·unfold lowP at h; omega
theorem QmE {b c : UInt8} (e : (b.toNat : Int) = (c.toNat : Int)) : b = c := UInt8.toNat_inj.1 (by omega)
theorem Zow : ∀ (x y : List UInt8), (∀ b ∈ x, b ≠ 47) → cutL (x ++ 47 :: y) = some (x, y)
 | [], y, _ => by simp [cutL]
 | b :: x, y, h => by
  have h1 := h b (List.mem_cons_self ..)
  rw [List.cons_append, cutL, if_neg h1, Zow x y fun c hc => h c (List.mem_cons_of_mem _ hc)]
  rfl
theorem JhV : ∀ (s x y : List UInt8), cutL s = some (x, y) → s = x ++ 47 :: y ∧ ∀ b ∈ x, b ≠ 47
 | [], x, y, e => by cases e
 | b :: l, x, y, e => by
  rw [cutL] at e
  split at e
  ·rename_i hb
   cases e
   exact ⟨by rw [hb]; rfl, fun b h => by simp at h⟩
  ·rename_i hb
   obtain ⟨⟨x', y'⟩, h1, h2⟩ := Option.map_eq_some_iff.1 e
   cases h2
   obtain ⟨q1, q2⟩ := JhV l x' _ h1
   refine ⟨by rw [q1]; rfl, fun c hc => ?_⟩
   rcases List.mem_cons.1 hc with hc | hc
   ·rw [hc]; exact hb
   ·exact q2 c hc
theorem ZqJ : ∀ (s : List UInt8), cutL s = none → ∀ b ∈ s, b ≠ 47
 | [], _ => fun b h => by simp at h
 | b :: l, e => by
  rw [cutL] at e
  split at e
  ·cases e
  ·rename_i hb
   have e' : cutL l = none := by
    cases hc : cutL l with
    | none => rfl
    | some p => rw [hc] at e; cases e
   intro c hc
   rcases List.mem_cons.1 hc with hc | hc
   ·rw [hc]; exact hb
   ·exact ZqJ l e' c hc
def Yq8 : QP → List UInt8 → Prop
 | .f1, s => ∃ x y, s = x ++ 47 :: y ∧ lows x ∧ x ≠ [] ∧ lows y ∧ y ≠ []
 | .i1, s => ∃ x y, s = x ++ 47 :: y ∧ lows x ∧ lows y ∧ y ≠ []
 | .f2, s => lows s ∧ s ≠ []
 | .i2, s => lows s
theorem YKu : ∀ (s : List UInt8) (pos : Nat) (q : QP), runB QQo J6x s pos q = none → Yq8 q s
 | [], pos, q, e => by
  unfold runB at e
  cases q <;> simp [J6x] at e
  exact fun b h => by simp at h
 | b :: l, pos, q, e => by
  unfold runB at e
  by_cases hb : b.toNat < 128
  ·rw [if_pos hb] at e
   have lc : ∀ {l : List UInt8}, lowP (b.toNat : Int) → lows l → lows (b :: l) := fun h1 h2 c hc => by
    rcases List.mem_cons.1 hc with hc | hc
    ·rw [hc]; exact h1
    ·exact h2 c hc
   cases q with
   | f1 =>
    by_cases h1 : lowP (b.toNat : Int)
    ·simp only [QQo, if_pos h1] at e
     obtain ⟨x, y, q1, q2, q3, q4⟩ := YKu l _ _ e
     exact ⟨b :: x, y, by rw [q1]; rfl, lc h1 q2, by simp, q3, q4⟩
    ·simp only [QQo, if_neg h1] at e; cases e
   | i1 =>
    by_cases h0 : ((b.toNat : Int) = 47)
    ·simp only [QQo, if_pos h0] at e
     obtain ⟨q1, q2⟩ := YKu l _ _ e
     have hb' : b = 47 := by
      have : b.toNat = 47 := by omega
      exact UInt8.toNat_inj.1 this
     exact ⟨[], l, by rw [hb']; rfl, fun c hc => by simp at hc, q1, q2⟩
    ·by_cases h1 : lowP (b.toNat : Int)
     ·simp only [QQo, if_neg h0, if_pos h1] at e
      obtain ⟨x, y, q1, q2, q3, q4⟩ := YKu l _ _ e
      exact ⟨b :: x, y, by rw [q1]; rfl, lc h1 q2, q3, q4⟩
     ·simp only [QQo, if_neg h0, if_neg h1] at e; cases e
   | f2 =>
    by_cases h1 : lowP (b.toNat : Int)
    ·simp only [QQo, if_pos h1] at e
     exact ⟨lc h1 (YKu l _ _ e), by simp⟩
    ·simp only [QQo, if_neg h1] at e; cases e
   | i2 =>
    by_cases h1 : lowP (b.toNat : Int)
    ·simp only [QQo, if_pos h1] at e
     exact lc h1 (YKu l _ _ e)
    ·simp only [QQo, if_neg h1] at e; cases e
  ·rw [if_neg hb] at e
   cases e
def QRE (s : List UInt8) : Prop := s.length ≤ 64 ∧ runB QQo J6x s 0 .f1 = none
instance (s : List UInt8) : Decidable (QRE s) := inferInstanceAs (Decidable (_ ∧ _))
theorem Yz6 {s : List UInt8} (h : QRE s) : ∃ x y, cutL s = some (x, y) ∧ lows x ∧ x ≠ [] ∧ lows y ∧ y ≠ [] := by
 obtain ⟨x, y, q1, q2, q3, q4, q5⟩ := YKu s 0 .f1 h.2
 exact ⟨x, y, by rw [q1]; exact Zow x y fun b hb => (Yct (q2 b hb)).1, q2, q3, q4, q5⟩
def patR : List UInt8 → Nat → List UInt8 → Bool
 | [], n, part => decide (n = 1 ∧ part ≠ [])
 | b :: l, n, part => if (b.toNat : Int) = 47 ∧ part ≠ [] then patR l (n + 1) [] else if (b.toNat : Int) = 42 ∧ part = [] then patR l n [42] else if lowP (b.toNat : Int) ∧ part ≠ [42] then patR l n (part ++ [b]) else false
theorem Y3b : ∀ (a r : List UInt8) (n : Nat) (part : List UInt8), lows a → lows part → patR (a ++ r) n part = patR r n (part ++ a)
 | [], r, n, part, _, _ => by rw [List.append_nil]; rfl
 | b :: a, r, n, part, ha, hp => by
  have hb := ha b (List.mem_cons_self ..)
  obtain ⟨n1, n2, _⟩ := Yct hb
  have m1 : ¬ ((b.toNat : Int) = 47) := fun e => n1 (QmE (c := 47) e)
  have m2 : ¬ ((b.toNat : Int) = 42) := fun e => n2 (QmE (c := 42) e)
  have m3 : part ≠ [42] := fun e => by
   subst e
   exact (Yct (hp 42 (List.mem_cons_self ..))).2.1 rfl
  rw [List.cons_append, patR, if_neg (fun z => m1 z.1), if_neg (fun z => m2 z.1), if_pos ⟨hb, m3⟩, Y3b a r n (part ++ [b]) (fun c hc => ha c (List.mem_cons_of_mem _ hc)) (fun c hc => ?_), List.append_assoc]
  ·rfl
  ·rcases List.mem_append.1 hc with hc | hc
   ·exact hp c hc
   ·rw [List.mem_singleton.1 hc]; exact hb
theorem Yvm {a r : List UInt8} {n : Nat} (h : a = [42] ∨ (lows a ∧ a ≠ [])) : patR (a ++ r) n [] = patR r n a := by
 rcases h with h | h
 ·subst h
  show patR (42 :: r) n [] = _
  rw [patR, if_neg (fun z => z.2 rfl), if_pos ⟨rfl, rfl⟩]
 ·rw [Y3b a r n [] h.1 (fun b hb => by simp at hb), List.nil_append]
theorem Xk2 {a b x y : List UInt8} (hx : lows x) (hx0 : x ≠ []) (hy : lows y) (hy0 : y ≠ []) (ha : a = [42] ∨ a = x) (hb : b = [42] ∨ b = y) : patR (a ++ 47 :: b) 0 [] = true := by
 have a1 : a = [42] ∨ (lows a ∧ a ≠ []) := ha.imp (fun h => h) fun h => by rw [h]; exact ⟨hx, hx0⟩
 have b1 : b = [42] ∨ (lows b ∧ b ≠ []) := hb.imp (fun h => h) fun h => by rw [h]; exact ⟨hy, hy0⟩
 have a0 : a ≠ [] := by rcases a1 with h | h; rw [h]; simp; exact h.2
 have b0 : b ≠ [] := by rcases b1 with h | h; rw [h]; simp; exact h.2
 rw [Yvm a1, patR, if_pos ⟨rfl, a0⟩]
 have := Yvm (r := []) (n := 0 + 1) b1
 rw [List.append_nil] at this
 rw [this, patR]
 exact decide_eq_true ⟨rfl, b0⟩
theorem Y7C : ∀ (s : List UInt8) (n : Nat) (part : List UInt8), (∀ b ∈ s, b ≠ 47) → n ≠ 1 → patR s n part = false
 | [], n, part, _, hn => by rw [patR]; exact decide_eq_false fun z => hn z.1
 | b :: l, n, part, h, hn => by
  have m1 : ¬ ((b.toNat : Int) = 47) := fun e => h b (List.mem_cons_self ..) (QmE (c := 47) e)
  have h' : ∀ c ∈ l, c ≠ 47 := fun c hc => h c (List.mem_cons_of_mem _ hc)
  rw [patR, if_neg (fun z => m1 z.1)]
  split
  ·exact Y7C l n _ h' hn
  ·split
   ·exact Y7C l n _ h' hn
   ·rfl
def splV (s : List UInt8) : List UInt8 × List UInt8 × Bool := if QRE s then match cutL s with
 | some (x, y) => (x, y, true)
 | none => ([], [], false) else ([], [], false)
def cutP (s : List UInt8) : List UInt8 × List UInt8 × Bool := match cutL s with
 | some (x, y) => (x, y, true)
 | none => (s, [], false)
def cutR (s : List UInt8) : List UInt8 × List UInt8 × Bool := match cutL s with
 | some (x, y) => (x, y, true)
 | none => ([], [], false)
theorem KVx (s : List UInt8) : splV s = ([], [], false) ∨ ∃ x y, splV s = (x, y, true) ∧ lows x ∧ x ≠ [] ∧ lows y ∧ y ≠ [] := by
 unfold splV
 by_cases h : QRE s
 ·rw [if_pos h]
  obtain ⟨x, y, q1, q2⟩ := Yz6 h
  rw [q1]
  exact .inr ⟨x, y, rfl, q2⟩
 ·rw [if_neg h]; exact .inl rfl
def zN7 (p s : List UInt8) : Bool := (splV s).2.2 && patR p 0 [] && (decide ((cutP p).1 = [42]) || decide ((cutP p).1 = (splV s).1)) && (decide ((cutP p).2.1 = [42]) || decide ((cutP p).2.1 = (splV s).2.1))
def zIf (p s : List UInt8) : Bool := (cutR p).2.2 && (splV s).2.2 && (decide ((cutR p).1 = [42]) || decide ((cutR p).1 = (splV s).1)) && (decide ((cutR p).2.1 = [42]) || decide ((cutR p).2.1 = (splV s).2.1))
theorem Jnh (p s : List UInt8) : zN7 p s = zIf p s := by
 unfold zN7 zIf
 rcases KVx s with h | ⟨x, y, h, q1, q2, q3, q4⟩
 ·rw [h]; simp
 ·rw [h]
  cases hp : cutL p with
  | none =>
   have e1 : cutR p = ([], [], false) := by unfold cutR; rw [hp]
   rw [e1, Y7C p 0 [] (ZqJ p hp) (by decide)]
   simp
  | some ab =>
   obtain ⟨a, b⟩ := ab
   have e1 : cutR p = (a, b, true) := by unfold cutR; rw [hp]
   have e2 : cutP p = (a, b, true) := by unfold cutP; rw [hp]
   rw [e1, e2]
   by_cases ha : a = [42] ∨ a = x
   ·by_cases hb : b = [42] ∨ b = y
    ·rw [(JhV p a b hp).1, Xk2 q1 q2 q3 q4 ha hb]
     first | done | simp
    ·have hb' : (decide (b = [42]) || decide (b = y)) = false := by simpa using hb
     simp only [hb', Bool.and_false]
   ·have ha' : (decide (a = [42]) || decide (a = x)) = false := by simpa using ha
    simp only [ha', Bool.and_false, Bool.false_and]
theorem KQt {s : List UInt8} {f : UInt8 → Bool} : (List.range s.length).find? (fun i => f (s.getD i 0)) = s.findIdx? f := by
 induction s with
 | nil => rfl
 | cons b l ih =>
  rw [List.length_cons, List.range_succ_eq_map, List.find?_cons, List.findIdx?_cons]
  simp only [List.getD_cons_zero]
  cases f b with
  | true => rfl
  | false =>
   simp only [Bool.false_eq_true, if_false]
   rw [List.find?_map, ← ih]
   rfl
theorem J9n (s : List UInt8) : bixV s 47 = match cutL s with
 | some (x, _) => (x.length : Int)
 | none => -1 := by
 have h1 : ((List.range s.length).find? fun i => (⟨s.toArray⟩ : ByteArray)[i]! == UInt8.ofNat (47 : Int).toNat) = s.findIdx? (· == 47) := by
  rw [← KQt]
  refine congrArg (fun f => List.find? f (List.range s.length)) ?_
  funext i
  have : (⟨s.toArray⟩ : ByteArray)[i]! = s.getD i 0 := by
   rw [getElem!_def, getElem?_def, List.getD_eq_getElem?_getD]
   by_cases hi : i < s.length
   ·rw [dif_pos (show i < (⟨s.toArray⟩ : ByteArray).size by simpa [ByteArray.size] using hi), List.getElem?_eq_getElem hi]
    rfl
   ·rw [dif_neg (show ¬ i < (⟨s.toArray⟩ : ByteArray).size by simpa [ByteArray.size] using hi), List.getElem?_eq_none (by omega)]
    rfl
  rw [this]
  rfl
 unfold bixV
 rw [h1]
 have h2 : ∀ s : List UInt8, s.findIdx? (· == 47) = (cutL s).map fun p => p.1.length := fun s => by
  induction s with
  | nil => rfl
  | cons b l ih =>
   rw [List.findIdx?_cons, cutL]
   by_cases hb : b = 47
   ·simp [hb]
   ·rw [if_neg hb, ih]
    simp [hb, Option.map_map]
    rfl
 rw [h2]
 cases cutL s with
 | none => rfl
 | some p => rfl
end Go.Proofs.YthllkjhommnocaaDoor
end
section
namespace Go.Proofs.YthllkjhommnocaaDoor
set_option maxRecDepth 100000
set_option maxHeartbeats 4000000
def stW (b : Bool) : AB := .blk false true [.f (.func 37) [.ag [.b b]] [], .b false]
def stI (b : Bool) : AB := .blk false true [.f (.func 64) [.ag [.b b]] [], .b b]
def T_pw : List AV → List AB → Option (AV × List AB)
 | [.ag [.b b], .i .i32 c], h => if lowP c then some (.p h.length 0, h ++ [stI b]) else some (.np, h)
 | _, _ => none
theorem Zcy : Spec Tryd.prog 37 T_pw := by
 intro args h v h' e
 unfold T_pw at e
 split at e
 ·rename_i b c
  refine FnAt.c (FnAt.run (by kernel_rfl) (T := ⟨[⟨63, J6o, fun _ => []⟩], []⟩) ⟨⟨qhc, trivial⟩, trivial⟩ Tryd.func37 sw37 fun ho hh => ?_)
  unfold w37
  by_cases h1 : lowP c
  ·rw [if_pos h1] at e
   cases e
   simp only [XSG, YPr, XUb, KIu, Xgj, if_true, if_false, ↓reduceIte, Nat.reduceAdd, Nat.reduceSub, Nat.reduceLeDiff, Nat.reduceEqDiff, Nat.reduceMul, Nat.reduceLT, Int.reduceLT, Int.reduceLE, Int.reduceEq, CO.tmps, Opd.tmps, optT, Nat.reducePow, Nat.reduceDiv, Nat.reduceMod, J6o, eq_true h1, decide_true, decide_false, ne_eq, not_false_eq_true, not_true_eq_false, false_implies, forall_const, and_true, true_and]
   unfold stI
   exact Bt.sel [1] hh (by decide) (by simp only [YvX, FrSel, BlkSel, AV.ren, renL, AV.ok, okL, Option.some.injEq, exists_eq_left', List.length_cons, List.length_nil, Nat.reduceAdd, Nat.reduceLT, reduceCtorEq, implies_true, exists_eq']) (by simp only [YvX, FrSel, BlkSel, AV.ren, renL, AV.ok, okL, Option.some.injEq, exists_eq_left', List.length_cons, List.length_nil, Nat.reduceAdd, Nat.reduceLT, reduceCtorEq, implies_true, exists_eq'])
  ·rw [if_neg h1] at e
   cases e
   simp only [XSG, YPr, XUb, KIu, Xgj, if_true, if_false, ↓reduceIte, Nat.reduceAdd, Nat.reduceSub, Nat.reduceLeDiff, Nat.reduceEqDiff, Nat.reduceMul, Nat.reduceLT, Int.reduceLT, Int.reduceLE, Int.reduceEq, CO.tmps, Opd.tmps, optT, Nat.reducePow, Nat.reduceDiv, Nat.reduceMod, J6o, eq_false h1, decide_true, decide_false, ne_eq, not_false_eq_true, not_true_eq_false, false_implies, forall_const, and_true, true_and]
   exact Bt.drop _ hh rfl rfl
 ·cases e
def ZUt : List AV → List AB → Option (AV × List AB)
 | [.ag [.b b], .i .i32 c], h => if c = 47 ∧ b = false then some (.p h.length 0, h ++ [stW true]) else if lowP c then some (.p h.length 0, h ++ [stI b]) else some (.np, h)
 | _, _ => none
theorem zfi : Spec Tryd.prog 64 ZUt := by
 intro args h v h' e
 unfold ZUt at e
 split at e
 ·rename_i b c
  refine FnAt.c (FnAt.run (by kernel_rfl) (T := ⟨[⟨37, T_pw, fun _ => []⟩], []⟩) ⟨⟨Zcy, trivial⟩, trivial⟩ Tryd.func64 sw64 fun ho hh => ?_)
  unfold w64
  by_cases h0 : c = 47
  ·have h1 : ¬ lowP c := by unfold lowP; omega
   cases b with
   | false =>
    rw [if_pos ⟨h0, rfl⟩] at e
    cases e
    simp only [XSG, YPr, XUb, KIu, Xgj, if_true, if_false, ↓reduceIte, Nat.reduceAdd, Nat.reduceSub, Nat.reduceLeDiff, Nat.reduceEqDiff, Nat.reduceMul, Nat.reduceLT, Int.reduceLT, Int.reduceLE, Int.reduceEq, CO.tmps, Opd.tmps, optT, Nat.reducePow, Nat.reduceDiv, Nat.reduceMod, T_pw, eq_true h0, zQy, Bool.not_true, Bool.not_false, decide_true, decide_false, ne_eq, not_false_eq_true, not_true_eq_false, false_implies, forall_const, and_true, true_and]
    unfold stW
    exact Bt.sel [1] hh (by decide) (by simp only [YvX, FrSel, BlkSel, AV.ren, renL, AV.ok, okL, Option.some.injEq, exists_eq_left', List.length_cons, List.length_nil, Nat.reduceAdd, Nat.reduceLT, reduceCtorEq, implies_true, exists_eq']) (by simp only [YvX, FrSel, BlkSel, AV.ren, renL, AV.ok, okL, Option.some.injEq, exists_eq_left', List.length_cons, List.length_nil, Nat.reduceAdd, Nat.reduceLT, reduceCtorEq, implies_true, exists_eq'])
   | true =>
    rw [if_neg (fun z => by cases z.2), if_neg h1] at e
    cases e
    simp only [XSG, YPr, XUb, KIu, Xgj, if_true, if_false, ↓reduceIte, Nat.reduceAdd, Nat.reduceSub, Nat.reduceLeDiff, Nat.reduceEqDiff, Nat.reduceMul, Nat.reduceLT, Int.reduceLT, Int.reduceLE, Int.reduceEq, CO.tmps, Opd.tmps, optT, Nat.reducePow, Nat.reduceDiv, Nat.reduceMod, T_pw, eq_true h0, eq_false h1, zQy, Bool.not_true, Bool.not_false, decide_true, decide_false, ne_eq, not_false_eq_true, not_true_eq_false, false_implies, forall_const, and_true, true_and]
    exact Bt.drop _ hh rfl rfl
  ·rw [if_neg (fun z => h0 z.1)] at e
   by_cases h1 : lowP c
   ·rw [if_pos h1] at e
    cases e
    simp only [XSG, YPr, XUb, KIu, Xgj, if_true, if_false, ↓reduceIte, Nat.reduceAdd, Nat.reduceSub, Nat.reduceLeDiff, Nat.reduceEqDiff, Nat.reduceMul, Nat.reduceLT, Int.reduceLT, Int.reduceLE, Int.reduceEq, CO.tmps, Opd.tmps, optT, Nat.reducePow, Nat.reduceDiv, Nat.reduceMod, T_pw, eq_false h0, eq_true h1, zQy, Bool.not_true, Bool.not_false, decide_true, decide_false, ne_eq, not_false_eq_true, not_true_eq_false, false_implies, forall_const, and_true, true_and]
    unfold stI
    exact Bt.sel [1] hh (by decide) (by simp only [YvX, FrSel, BlkSel, AV.ren, renL, AV.ok, okL, Option.some.injEq, exists_eq_left', List.length_cons, List.length_nil, Nat.reduceAdd, Nat.reduceLT, reduceCtorEq, implies_true, exists_eq']) (by simp only [YvX, FrSel, BlkSel, AV.ren, renL, AV.ok, okL, Option.some.injEq, exists_eq_left', List.length_cons, List.length_nil, Nat.reduceAdd, Nat.reduceLT, reduceCtorEq, implies_true, exists_eq'])
   ·rw [if_neg h1] at e
    cases e
    simp only [XSG, YPr, XUb, KIu, Xgj, if_true, if_false, ↓reduceIte, Nat.reduceAdd, Nat.reduceSub, Nat.reduceLeDiff, Nat.reduceEqDiff, Nat.reduceMul, Nat.reduceLT, Int.reduceLT, Int.reduceLE, Int.reduceEq, CO.tmps, Opd.tmps, optT, Nat.reducePow, Nat.reduceDiv, Nat.reduceMod, T_pw, eq_false h0, eq_false h1, zQy, Bool.not_true, Bool.not_false, decide_true, decide_false, ne_eq, not_false_eq_true, not_true_eq_false, false_implies, forall_const, and_true, true_and]
    exact Bt.drop _ hh rfl rfl
 ·cases e
def J2n : Tab := [⟨37, T_pw, fun _ => []⟩, ⟨64, ZUt, fun _ => []⟩]
theorem Z81 : Qkp (Spec Tryd.prog) J2n := ⟨Zcy, zfi, trivial⟩
def repP (h : List AB) (j : Nat) : QP → Prop
 | .f1 => JZy h j = some [.f (.func 37) [.ag [.b false]] [], .b false]
 | .i1 => JZy h j = some [.f (.func 64) [.ag [.b false]] [], .b false]
 | .f2 => JZy h j = some [.f (.func 37) [.ag [.b true]] [], .b false]
 | .i2 => JZy h j = some [.f (.func 64) [.ag [.b true]] [], .b true]
theorem zqC (b : Bool) (c : Int) (H : List AB) : Tab.at J2n 37 ([.ag [.b b]] ++ [.i .i32 c] ++ []) H = if lowP c then some (.p H.length 0, H ++ [stI b]) else some (.np, H) := rfl
theorem Qok (b : Bool) (c : Int) (H : List AB) : Tab.at J2n 64 ([.ag [.b b]] ++ [.i .i32 c] ++ []) H = if c = 47 ∧ b = false then some (.p H.length 0, H ++ [stW true]) else if lowP c then some (.p H.length 0, H ++ [stI b]) else some (.np, H) := rfl
def autP : Aut J2n QP where
  step := QQo
  ends := J6x
  Rep := repP
  big := ZYe
  mono {H H' j q} hs h := by cases q <;> exact hs _ _ h
  cel {H j q} h := by
    cases q
    all_goals refine ⟨_, _, _, h, fun c => ⟨fun e => ?_, fun q' e => ?_⟩⟩
    all_goals simp only [QQo] at e
    all_goals (first | rw [zqC] | rw [Qok])
    all_goals rcases emE (c = 47) with h0 | h0
    all_goals rcases emE (lowP c) with h1 | h1
    all_goals first
      | (exact absurd (of_eq_true h1) (by rw [of_eq_true h0]; unfold lowP; omega))
      | (simp only [h0, h1, if_true, if_false, reduceCtorEq] at e; done)
      | (simp only [h0, h1, if_true, if_false, true_and, false_and, reduceCtorEq]; done)
      | (simp only [h0, h1, if_true, if_false, Option.some.injEq] at e
         subst e
         simp only [h0, h1, if_true, if_false, true_and, false_and, reduceCtorEq]
         exact ⟨H.length, [_], rfl, zYT H [_] 0 _ _ _ rfl⟩)
def QUq (s : List UInt8) : AV := if (64 : Int) < (s.length : Int) then .ag [.i .i64 4, .i .i64 64] else fltA 7 (runB QQo J6x s 0 .f1)
noncomputable def KRl : List AV → List AB → Option (AV × List AB)
 | [.s s], h => if s.length ≤ 1000000 then some (QUq s, h) else none
 | _, _ => none
open Classical in
noncomputable def qFU : List AV → List AB → Option (AV × List AB)
 | [.s s, .p j 0, .i .i64 e], h => if repP h j .f1 ∧ s.length ≤ 1000000 then some (fltA e (runB QQo J6x s 0 .f1), h) else none
 | _, _ => none
theorem J10 : Spec Tryd.prog 36 qFU := by
 intro args h v h' e
 unfold qFU at e
 split at e
 ·split at e
  ·rename_i hc
   cases e
   exact FnAt.c (runA Z81 autP (q0 := .f1) hc.1 hc.2)
  ·cases e
 ·cases e
theorem Zi5 : Spec Tryd.prog 21 KRl := by
 intro args h v h' e
 unfold KRl at e
 split at e
 ·rename_i s
  split at e
  ·rename_i hs
   cases e
   refine FnAt.c (FnAt.run (by kernel_rfl) (T := ⟨[⟨35, zHI, fun _ => []⟩, ⟨36, qFU, fun _ => []⟩], []⟩) ⟨⟨z9a, J10, trivial⟩, trivial⟩ Tryd.func21 sw21 fun ho hh => ?_)
   unfold w21 QUq
   by_cases g : (64 : Int) < (s.length : Int)
   ·have g' := eq_true g
    simp only [XSG, YPr, XUb, KIu, Xgj, if_true, if_false, ↓reduceIte, Nat.reduceAdd, Nat.reduceSub, Nat.reduceLeDiff, Nat.reduceEqDiff, Nat.reduceMul, Nat.reduceLT, Int.reduceLT, Int.reduceLE, Int.reduceEq, CO.tmps, Opd.tmps, optT, Nat.reducePow, Nat.reduceDiv, Nat.reduceMod, zHI, g', decide_true, decide_false, ne_eq, not_false_eq_true, not_true_eq_false, false_implies, forall_const, and_true, true_and, if_true]
    exact Bt.drop _ hh rfl rfl
   ·have g' := eq_false g
    have hq : ∀ B C : AB, repP (h ++ [B, C, .blk false true [.f (.func 37) [.ag [.b false]] [], .b false]]) (h.length + 2) .f1 = True := fun B C => eq_true (zYT _ _ 2 _ _ _ rfl)
    have hs' := eq_true hs
    obtain ⟨a, b, hab⟩ := ZZ1 7 (runB QQo J6x s 0 .f1)
    rw [if_neg g]
    simp only [XSG, YPr, XUb, KIu, Xgj, if_true, if_false, ↓reduceIte, Nat.reduceAdd, Nat.reduceSub, Nat.reduceLeDiff, Nat.reduceEqDiff, Nat.reduceMul, Nat.reduceLT, Int.reduceLT, Int.reduceLE, Int.reduceEq, CO.tmps, Opd.tmps, optT, Nat.reducePow, Nat.reduceDiv, Nat.reduceMod, zHI, g', qFU, hq, hs', hab, decide_true, decide_false, ne_eq, not_false_eq_true, not_true_eq_false, false_implies, forall_const, and_true, true_and, if_false, if_true]
    exact Bt.drop _ hh rfl rfl
  ·cases e
 ·cases e
end Go.Proofs.YthllkjhommnocaaDoor
end
section
namespace Go.Proofs.YthllkjhommnocaaDoor
set_option maxRecDepth 100000
set_option maxHeartbeats 4000000
def slP (pos : Nat) (z : Int) : QP → Prop
 | .f1 => pos = 0 ∧ z = -1
 | .i1 => 0 < pos ∧ z = -1
 | .f2 => z = (pos : Int) - 1 ∧ 1 ≤ z
 | .i2 => 0 ≤ z ∧ z < (pos : Int) - 1
theorem KHf : Spec Tryd.prog 23 KRl := by
 intro args h v h' e
 unfold KRl at e
 split at e
 ·rename_i s
  split at e
  ·rename_i hs
   cases e
   refine FnAt.c (FnAt.run (by kernel_rfl) (T := ⟨[⟨39, qdi, fun _ => []⟩, ⟨40, J6o, fun _ => []⟩], []⟩) ⟨⟨qxG, Xrz, trivial⟩, trivial⟩ Tryd.func23 sw23 fun ho hh => ?_)
   unfold w23 QUq
   by_cases g : (64 : Int) < (s.length : Int)
   ·have g' := eq_true g
    simp only [XSG, YPr, XUb, KIu, Xgj, if_true, if_false, ↓reduceIte, Nat.reduceAdd, Nat.reduceSub, Nat.reduceLeDiff, Nat.reduceEqDiff, Nat.reduceMul, Nat.reduceLT, Int.reduceLT, Int.reduceLE, Int.reduceEq, CO.tmps, Opd.tmps, optT, Nat.reducePow, Nat.reduceDiv, Nat.reduceMod, qdi, J9H, qiS, g', decide_true, decide_false, ne_eq, not_false_eq_true, not_true_eq_false, false_implies, forall_const, and_true, true_and, if_true]
    exact Bt.drop _ hh rfl rfl
   have g' := eq_false g
   rw [if_neg g]
   simp only [XSG, YPr, XUb, KIu, Xgj, if_true, if_false, ↓reduceIte, Nat.reduceAdd, Nat.reduceSub, Nat.reduceLeDiff, Nat.reduceEqDiff, Nat.reduceMul, Nat.reduceLT, Int.reduceLT, Int.reduceLE, Int.reduceEq, CO.tmps, Opd.tmps, optT, Nat.reducePow, Nat.reduceDiv, Nat.reduceMod, qlo, J9H, qiS, g', decide_true, decide_false, ne_eq, not_false_eq_true, not_true_eq_false, false_implies, forall_const, and_true, true_and]
   refine q2Y (S := Nat × QP × Int) (fun σ => s.length - σ.1) (fun σ => [.s s] ++ tp 1 ++ [.p (h.length + 0) 0, .i .i64 σ.2.2] ++ tp 7 ++ [.p (h.length + 1) 0] ++ tp 34) (fun σ => h ++ [.blk true true [.i .i64 0, .i .i64 0], itr s σ.1])
    (fun σ => σ.1 ≤ s.length ∧ slP σ.1 σ.2.2 σ.2.1 ∧ runB QQo J6x (s.drop σ.1) σ.1 σ.2.1 = runB QQo J6x s 0 .f1) (0, .f1, -1) ⟨Nat.zero_le _, ⟨rfl, rfl⟩, rfl⟩ ?_ fun σ hσ => ?_
   ·refine Bt.wk ?_
    simp only [XUb, Xgj, if_true, if_false, reduceIte, Nat.reduceAdd, Nat.reduceSub, Nat.reduceLeDiff, Nat.reduceEqDiff, Nat.reduceMul, Nat.reduceLT, Int.reduceLT, Int.reduceLE, Int.reduceEq]
   obtain ⟨pos, q, z⟩ := σ
   obtain ⟨h1, h3, h4⟩ := hσ
   dsimp only at h1 h3 h4 ⊢
   have hn : nxV (h ++ [.blk true true [.i .i64 0, .i .i64 0], itr s pos]) (.p (h.length + 1) 0) = if pos < s.length then some (.tu [.b true, .i .i64 (pos : Int), .i .i32 ((Utf8.decode ⟨s.toArray⟩ pos).1 : Int)], h ++ [.blk true true [.i .i64 0, .i .i64 0], itr s (pos + (Utf8.decode ⟨s.toArray⟩ pos).2)]) else some (.tu [.b false], h ++ [.blk true true [.i .i64 0, .i .i64 0], itr s pos]) := Jhu _ 1 s pos rfl
   by_cases g : pos < s.length
   ·have hd := Qit (step := QQo) (ends := J6x) (q := q) g
    rw [h4] at hd
    obtain ⟨e1, e2⟩ := Qww (step := QQo) ZYe g q
    rw [e1] at hd
    generalize hC : ((Utf8.decode ⟨s.toArray⟩ pos).1 : Int) = c at *
    cases q with
    | f1 =>
     have h3' := h3
     unfold slP at h3'
     dsimp only at h3'
     have bz : (z < 0) = True := eq_true (by omega)
     have bp : ((0 : Int) < (pos : Int)) = False := eq_false (by omega)
     rcases emE (lowP c) with a1 | a1 <;> rcases emE (c = 47) with a2 | a2
     ·exact absurd (of_eq_true a1) (by rw [of_eq_true a2]; unfold lowP; omega)
     ·have hst : QQo .f1 c = some .i1 := by simp only [QQo, a1, a2, if_true, if_false]
      have e3 := e2 _ hst
      rw [hst] at hd
      dsimp only at hd
      simp only [XSG, YPr, XUb, KIu, Xgj, if_true, if_false, ↓reduceIte, Nat.reduceAdd, Nat.reduceSub, Nat.reduceLeDiff, Nat.reduceEqDiff, Nat.reduceMul, Nat.reduceLT, Int.reduceLT, Int.reduceLE, Int.reduceEq, CO.tmps, Opd.tmps, optT, Nat.reducePow, Nat.reduceDiv, Nat.reduceMod, Y1Q, hn, g, J6o, qdi, e3, zQy, a1, a2, bz, bp, Bool.not_true, Bool.not_false, decide_true, decide_false, ne_eq, not_false_eq_true, not_true_eq_false, false_implies, forall_const, and_true, true_and, if_true]
      refine ⟨(pos + 1, .i1, z), ⟨g, by unfold slP; dsimp only; omega, hd.symm⟩, by dsimp only; omega, ?_⟩
      dsimp only
      exact Bt.sel [0, 1] hh (by decide) (by simp only [YvX, FrSel, BlkSel, AV.ren, renL, AV.ok, okL, Option.some.injEq, exists_eq_left', List.length_cons, List.length_nil, Nat.reduceAdd, Nat.reduceLT, reduceCtorEq, implies_true, exists_eq', itr, XdS, and_self]) (by simp only [YvX, FrSel, BlkSel, AV.ren, renL, AV.ok, okL, Option.some.injEq, exists_eq_left', List.length_cons, List.length_nil, Nat.reduceAdd, Nat.reduceLT, reduceCtorEq, implies_true, exists_eq'])
     ·have hst : QQo .f1 c = none := by simp only [QQo, a1, a2, if_true, if_false]
      rw [hst] at hd
      dsimp only at hd
      simp only [XSG, YPr, XUb, KIu, Xgj, if_true, if_false, ↓reduceIte, Nat.reduceAdd, Nat.reduceSub, Nat.reduceLeDiff, Nat.reduceEqDiff, Nat.reduceMul, Nat.reduceLT, Int.reduceLT, Int.reduceLE, Int.reduceEq, CO.tmps, Opd.tmps, optT, Nat.reducePow, Nat.reduceDiv, Nat.reduceMod, Y1Q, hn, g, J6o, qdi, zQy, a1, a2, bz, bp, Bool.not_true, Bool.not_false, decide_true, decide_false, ne_eq, not_false_eq_true, not_true_eq_false, false_implies, forall_const, and_true, true_and, if_true]
      rw [hd]
      exact Bt.drop _ hh rfl rfl
     ·have hst : QQo .f1 c = none := by simp only [QQo, a1, a2, if_true, if_false]
      rw [hst] at hd
      dsimp only at hd
      simp only [XSG, YPr, XUb, KIu, Xgj, if_true, if_false, ↓reduceIte, Nat.reduceAdd, Nat.reduceSub, Nat.reduceLeDiff, Nat.reduceEqDiff, Nat.reduceMul, Nat.reduceLT, Int.reduceLT, Int.reduceLE, Int.reduceEq, CO.tmps, Opd.tmps, optT, Nat.reducePow, Nat.reduceDiv, Nat.reduceMod, Y1Q, hn, g, J6o, qdi, zQy, a1, a2, bz, bp, Bool.not_true, Bool.not_false, decide_true, decide_false, ne_eq, not_false_eq_true, not_true_eq_false, false_implies, forall_const, and_true, true_and, if_true]
      rw [hd]
      exact Bt.drop _ hh rfl rfl
    | i1 =>
     have h3' := h3
     unfold slP at h3'
     dsimp only at h3'
     have bz : (z < 0) = True := eq_true (by omega)
     have bp : ((0 : Int) < (pos : Int)) = True := eq_true (by omega)
     rcases emE (lowP c) with a1 | a1 <;> rcases emE (c = 47) with a2 | a2
     ·exact absurd (of_eq_true a1) (by rw [of_eq_true a2]; unfold lowP; omega)
     ·have hst : QQo .i1 c = some .i1 := by simp only [QQo, a1, a2, if_true, if_false]
      have e3 := e2 _ hst
      rw [hst] at hd
      dsimp only at hd
      simp only [XSG, YPr, XUb, KIu, Xgj, if_true, if_false, ↓reduceIte, Nat.reduceAdd, Nat.reduceSub, Nat.reduceLeDiff, Nat.reduceEqDiff, Nat.reduceMul, Nat.reduceLT, Int.reduceLT, Int.reduceLE, Int.reduceEq, CO.tmps, Opd.tmps, optT, Nat.reducePow, Nat.reduceDiv, Nat.reduceMod, Y1Q, hn, g, J6o, qdi, e3, zQy, a1, a2, bz, bp, Bool.not_true, Bool.not_false, decide_true, decide_false, ne_eq, not_false_eq_true, not_true_eq_false, false_implies, forall_const, and_true, true_and, if_true]
      refine ⟨(pos + 1, .i1, z), ⟨g, by unfold slP; dsimp only; omega, hd.symm⟩, by dsimp only; omega, ?_⟩
      dsimp only
      exact Bt.sel [0, 1] hh (by decide) (by simp only [YvX, FrSel, BlkSel, AV.ren, renL, AV.ok, okL, Option.some.injEq, exists_eq_left', List.length_cons, List.length_nil, Nat.reduceAdd, Nat.reduceLT, reduceCtorEq, implies_true, exists_eq', itr, XdS, and_self]) (by simp only [YvX, FrSel, BlkSel, AV.ren, renL, AV.ok, okL, Option.some.injEq, exists_eq_left', List.length_cons, List.length_nil, Nat.reduceAdd, Nat.reduceLT, reduceCtorEq, implies_true, exists_eq'])
     ·have hst : QQo .i1 c = some .f2 := by simp only [QQo, a1, a2, if_true, if_false]
      have e3 := e2 _ hst
      rw [hst] at hd
      dsimp only at hd
      simp only [XSG, YPr, XUb, KIu, Xgj, if_true, if_false, ↓reduceIte, Nat.reduceAdd, Nat.reduceSub, Nat.reduceLeDiff, Nat.reduceEqDiff, Nat.reduceMul, Nat.reduceLT, Int.reduceLT, Int.reduceLE, Int.reduceEq, CO.tmps, Opd.tmps, optT, Nat.reducePow, Nat.reduceDiv, Nat.reduceMod, Y1Q, hn, g, J6o, qdi, e3, zQy, a1, a2, bz, bp, Bool.not_true, Bool.not_false, decide_true, decide_false, ne_eq, not_false_eq_true, not_true_eq_false, false_implies, forall_const, and_true, true_and, if_true]
      refine ⟨(pos + 1, .f2, (pos : Int)), ⟨g, by unfold slP; dsimp only; omega, hd.symm⟩, by dsimp only; omega, ?_⟩
      dsimp only
      exact Bt.sel [0, 1] hh (by decide) (by simp only [YvX, FrSel, BlkSel, AV.ren, renL, AV.ok, okL, Option.some.injEq, exists_eq_left', List.length_cons, List.length_nil, Nat.reduceAdd, Nat.reduceLT, reduceCtorEq, implies_true, exists_eq', itr, XdS, and_self]) (by simp only [YvX, FrSel, BlkSel, AV.ren, renL, AV.ok, okL, Option.some.injEq, exists_eq_left', List.length_cons, List.length_nil, Nat.reduceAdd, Nat.reduceLT, reduceCtorEq, implies_true, exists_eq'])
     ·have hst : QQo .i1 c = none := by simp only [QQo, a1, a2, if_true, if_false]
      rw [hst] at hd
      dsimp only at hd
      simp only [XSG, YPr, XUb, KIu, Xgj, if_true, if_false, ↓reduceIte, Nat.reduceAdd, Nat.reduceSub, Nat.reduceLeDiff, Nat.reduceEqDiff, Nat.reduceMul, Nat.reduceLT, Int.reduceLT, Int.reduceLE, Int.reduceEq, CO.tmps, Opd.tmps, optT, Nat.reducePow, Nat.reduceDiv, Nat.reduceMod, Y1Q, hn, g, J6o, qdi, zQy, a1, a2, bz, bp, Bool.not_true, Bool.not_false, decide_true, decide_false, ne_eq, not_false_eq_true, not_true_eq_false, false_implies, forall_const, and_true, true_and, if_true]
      rw [hd]
      exact Bt.drop _ hh rfl rfl
    | f2 =>
     have h3' := h3
     unfold slP at h3'
     dsimp only at h3'
     have bz : (z < 0) = False := eq_false (by omega)
     have bp : ((0 : Int) < (pos : Int)) = True := eq_true (by omega)
     rcases emE (lowP c) with a1 | a1 <;> rcases emE (c = 47) with a2 | a2
     ·exact absurd (of_eq_true a1) (by rw [of_eq_true a2]; unfold lowP; omega)
     ·have hst : QQo .f2 c = some .i2 := by simp only [QQo, a1, a2, if_true, if_false]
      have e3 := e2 _ hst
      rw [hst] at hd
      dsimp only at hd
      simp only [XSG, YPr, XUb, KIu, Xgj, if_true, if_false, ↓reduceIte, Nat.reduceAdd, Nat.reduceSub, Nat.reduceLeDiff, Nat.reduceEqDiff, Nat.reduceMul, Nat.reduceLT, Int.reduceLT, Int.reduceLE, Int.reduceEq, CO.tmps, Opd.tmps, optT, Nat.reducePow, Nat.reduceDiv, Nat.reduceMod, Y1Q, hn, g, J6o, qdi, e3, zQy, a1, a2, bz, bp, Bool.not_true, Bool.not_false, decide_true, decide_false, ne_eq, not_false_eq_true, not_true_eq_false, false_implies, forall_const, and_true, true_and, if_true]
      refine ⟨(pos + 1, .i2, z), ⟨g, by unfold slP; dsimp only; omega, hd.symm⟩, by dsimp only; omega, ?_⟩
      dsimp only
      exact Bt.sel [0, 1] hh (by decide) (by simp only [YvX, FrSel, BlkSel, AV.ren, renL, AV.ok, okL, Option.some.injEq, exists_eq_left', List.length_cons, List.length_nil, Nat.reduceAdd, Nat.reduceLT, reduceCtorEq, implies_true, exists_eq', itr, XdS, and_self]) (by simp only [YvX, FrSel, BlkSel, AV.ren, renL, AV.ok, okL, Option.some.injEq, exists_eq_left', List.length_cons, List.length_nil, Nat.reduceAdd, Nat.reduceLT, reduceCtorEq, implies_true, exists_eq'])
     ·have hst : QQo .f2 c = none := by simp only [QQo, a1, a2, if_true, if_false]
      rw [hst] at hd
      dsimp only at hd
      simp only [XSG, YPr, XUb, KIu, Xgj, if_true, if_false, ↓reduceIte, Nat.reduceAdd, Nat.reduceSub, Nat.reduceLeDiff, Nat.reduceEqDiff, Nat.reduceMul, Nat.reduceLT, Int.reduceLT, Int.reduceLE, Int.reduceEq, CO.tmps, Opd.tmps, optT, Nat.reducePow, Nat.reduceDiv, Nat.reduceMod, Y1Q, hn, g, J6o, qdi, zQy, a1, a2, bz, bp, Bool.not_true, Bool.not_false, decide_true, decide_false, ne_eq, not_false_eq_true, not_true_eq_false, false_implies, forall_const, and_true, true_and, if_true]
      rw [hd]
      exact Bt.drop _ hh rfl rfl
     ·have hst : QQo .f2 c = none := by simp only [QQo, a1, a2, if_true, if_false]
      rw [hst] at hd
      dsimp only at hd
      simp only [XSG, YPr, XUb, KIu, Xgj, if_true, if_false, ↓reduceIte, Nat.reduceAdd, Nat.reduceSub, Nat.reduceLeDiff, Nat.reduceEqDiff, Nat.reduceMul, Nat.reduceLT, Int.reduceLT, Int.reduceLE, Int.reduceEq, CO.tmps, Opd.tmps, optT, Nat.reducePow, Nat.reduceDiv, Nat.reduceMod, Y1Q, hn, g, J6o, qdi, zQy, a1, a2, bz, bp, Bool.not_true, Bool.not_false, decide_true, decide_false, ne_eq, not_false_eq_true, not_true_eq_false, false_implies, forall_const, and_true, true_and, if_true]
      rw [hd]
      exact Bt.drop _ hh rfl rfl
    | i2 =>
     have h3' := h3
     unfold slP at h3'
     dsimp only at h3'
     have bz : (z < 0) = False := eq_false (by omega)
     have bp : ((0 : Int) < (pos : Int)) = True := eq_true (by omega)
     rcases emE (lowP c) with a1 | a1 <;> rcases emE (c = 47) with a2 | a2
     ·exact absurd (of_eq_true a1) (by rw [of_eq_true a2]; unfold lowP; omega)
     ·have hst : QQo .i2 c = some .i2 := by simp only [QQo, a1, a2, if_true, if_false]
      have e3 := e2 _ hst
      rw [hst] at hd
      dsimp only at hd
      simp only [XSG, YPr, XUb, KIu, Xgj, if_true, if_false, ↓reduceIte, Nat.reduceAdd, Nat.reduceSub, Nat.reduceLeDiff, Nat.reduceEqDiff, Nat.reduceMul, Nat.reduceLT, Int.reduceLT, Int.reduceLE, Int.reduceEq, CO.tmps, Opd.tmps, optT, Nat.reducePow, Nat.reduceDiv, Nat.reduceMod, Y1Q, hn, g, J6o, qdi, e3, zQy, a1, a2, bz, bp, Bool.not_true, Bool.not_false, decide_true, decide_false, ne_eq, not_false_eq_true, not_true_eq_false, false_implies, forall_const, and_true, true_and, if_true]
      refine ⟨(pos + 1, .i2, z), ⟨g, by unfold slP; dsimp only; omega, hd.symm⟩, by dsimp only; omega, ?_⟩
      dsimp only
      exact Bt.sel [0, 1] hh (by decide) (by simp only [YvX, FrSel, BlkSel, AV.ren, renL, AV.ok, okL, Option.some.injEq, exists_eq_left', List.length_cons, List.length_nil, Nat.reduceAdd, Nat.reduceLT, reduceCtorEq, implies_true, exists_eq', itr, XdS, and_self]) (by simp only [YvX, FrSel, BlkSel, AV.ren, renL, AV.ok, okL, Option.some.injEq, exists_eq_left', List.length_cons, List.length_nil, Nat.reduceAdd, Nat.reduceLT, reduceCtorEq, implies_true, exists_eq'])
     ·have hst : QQo .i2 c = none := by simp only [QQo, a1, a2, if_true, if_false]
      rw [hst] at hd
      dsimp only at hd
      simp only [XSG, YPr, XUb, KIu, Xgj, if_true, if_false, ↓reduceIte, Nat.reduceAdd, Nat.reduceSub, Nat.reduceLeDiff, Nat.reduceEqDiff, Nat.reduceMul, Nat.reduceLT, Int.reduceLT, Int.reduceLE, Int.reduceEq, CO.tmps, Opd.tmps, optT, Nat.reducePow, Nat.reduceDiv, Nat.reduceMod, Y1Q, hn, g, J6o, qdi, zQy, a1, a2, bz, bp, Bool.not_true, Bool.not_false, decide_true, decide_false, ne_eq, not_false_eq_true, not_true_eq_false, false_implies, forall_const, and_true, true_and, if_true]
      rw [hd]
      exact Bt.drop _ hh rfl rfl
     ·have hst : QQo .i2 c = none := by simp only [QQo, a1, a2, if_true, if_false]
      rw [hst] at hd
      dsimp only at hd
      simp only [XSG, YPr, XUb, KIu, Xgj, if_true, if_false, ↓reduceIte, Nat.reduceAdd, Nat.reduceSub, Nat.reduceLeDiff, Nat.reduceEqDiff, Nat.reduceMul, Nat.reduceLT, Int.reduceLT, Int.reduceLE, Int.reduceEq, CO.tmps, Opd.tmps, optT, Nat.reducePow, Nat.reduceDiv, Nat.reduceMod, Y1Q, hn, g, J6o, qdi, zQy, a1, a2, bz, bp, Bool.not_true, Bool.not_false, decide_true, decide_false, ne_eq, not_false_eq_true, not_true_eq_false, false_implies, forall_const, and_true, true_and, if_true]
      rw [hd]
      exact Bt.drop _ hh rfl rfl
   ·have hpos : pos = s.length := by omega
    have hd : runB QQo J6x s 0 .f1 = if J6x q then none else some s.length := by
     rw [← h4, hpos, List.drop_length]
     rfl
    have hw : IntKind.i64.wrap ((s.length : Int) - 1) = (s.length : Int) - 1 := IntWalk.i64_in _ (by omega)
    rw [hd]
    cases q with
    | f1 =>
     unfold slP at h3
     dsimp only at h3
     have bz : (z < 0) = True := eq_true (by omega)
     simp only [XSG, YPr, XUb, KIu, Xgj, if_true, if_false, ↓reduceIte, Nat.reduceAdd, Nat.reduceSub, Nat.reduceLeDiff, Nat.reduceEqDiff, Nat.reduceMul, Nat.reduceLT, Int.reduceLT, Int.reduceLE, Int.reduceEq, CO.tmps, Opd.tmps, optT, Nat.reducePow, Nat.reduceDiv, Nat.reduceMod, Y1Q, hn, g, J9H, qiS, qdi, zQy, bz, Bool.not_true, Bool.not_false, decide_true, decide_false, ne_eq, not_false_eq_true, not_true_eq_false, false_implies, forall_const, and_true, true_and]
     exact Bt.drop _ hh rfl rfl
    | i1 =>
     unfold slP at h3
     dsimp only at h3
     have bz : (z < 0) = True := eq_true (by omega)
     simp only [XSG, YPr, XUb, KIu, Xgj, if_true, if_false, ↓reduceIte, Nat.reduceAdd, Nat.reduceSub, Nat.reduceLeDiff, Nat.reduceEqDiff, Nat.reduceMul, Nat.reduceLT, Int.reduceLT, Int.reduceLE, Int.reduceEq, CO.tmps, Opd.tmps, optT, Nat.reducePow, Nat.reduceDiv, Nat.reduceMod, Y1Q, hn, g, J9H, qiS, qdi, zQy, bz, Bool.not_true, Bool.not_false, decide_true, decide_false, ne_eq, not_false_eq_true, not_true_eq_false, false_implies, forall_const, and_true, true_and]
     exact Bt.drop _ hh rfl rfl
    | f2 =>
     unfold slP at h3
     dsimp only at h3
     have bz : (z < 0) = False := eq_false (by omega)
     have bl : (z = (s.length : Int) - 1) = True := eq_true (by omega)
     simp only [XSG, YPr, XUb, KIu, Xgj, if_true, if_false, ↓reduceIte, Nat.reduceAdd, Nat.reduceSub, Nat.reduceLeDiff, Nat.reduceEqDiff, Nat.reduceMul, Nat.reduceLT, Int.reduceLT, Int.reduceLE, Int.reduceEq, CO.tmps, Opd.tmps, optT, Nat.reducePow, Nat.reduceDiv, Nat.reduceMod, Y1Q, hn, g, J9H, qiS, qdi, zQy, bz, bl, hw, Bool.not_true, Bool.not_false, decide_true, decide_false, ne_eq, not_false_eq_true, not_true_eq_false, false_implies, forall_const, and_true, true_and]
     exact Bt.drop _ hh rfl rfl
    | i2 =>
     unfold slP at h3
     dsimp only at h3
     have bz : (z < 0) = False := eq_false (by omega)
     have bl : (z = (s.length : Int) - 1) = False := eq_false (by omega)
     simp only [XSG, YPr, XUb, KIu, Xgj, if_true, if_false, ↓reduceIte, Nat.reduceAdd, Nat.reduceSub, Nat.reduceLeDiff, Nat.reduceEqDiff, Nat.reduceMul, Nat.reduceLT, Int.reduceLT, Int.reduceLE, Int.reduceEq, CO.tmps, Opd.tmps, optT, Nat.reducePow, Nat.reduceDiv, Nat.reduceMod, Y1Q, hn, g, J9H, qiS, qdi, zQy, bz, bl, hw, Bool.not_true, Bool.not_false, decide_true, decide_false, ne_eq, not_false_eq_true, not_true_eq_false, false_implies, forall_const, and_true, true_and]
     exact Bt.drop _ hh rfl rfl
  ·cases e
 ·cases e
end Go.Proofs.YthllkjhommnocaaDoor
end
section
namespace Go.Proofs.YthllkjhommnocaaDoor
set_option maxRecDepth 100000
set_option maxHeartbeats 4000000
def qDK : List AV → List AB → Option (AV × List AB)
 | [.s l, .i .u8 n], h => some (.i .i64 (bixV l n), h)
 | _, _ => none
theorem q1k : Spec Tryd.prog 73 qDK := by
 intro args h v h' e
 unfold qDK at e
 split at e
 ·rename_i l n
  cases e
  refine FnAt.c (FnAt.run (by kernel_rfl) (T := ⟨[], []⟩) ⟨trivial, trivial⟩ Tryd.func73 sw73 fun ho hh => ?_)
  unfold w73
  simp only [XSG, YPr, XUb, KIu, Xgj, if_true, if_false, ↓reduceIte, Nat.reduceAdd, Nat.reduceSub, Nat.reduceLeDiff, Nat.reduceEqDiff, Nat.reduceMul, Nat.reduceLT, Int.reduceLT, Int.reduceLE, Int.reduceEq, CO.tmps, Opd.tmps, optT, Nat.reducePow, Nat.reduceDiv, Nat.reduceMod, qRe]
  exact Bt.drop _ hh rfl rfl
 ·cases e
end Go.Proofs.YthllkjhommnocaaDoor
end
