/- Part 18 of what the laws' proofs rest on. No condition. -/
import Derived.Test.YtbcpcjofkfgjoaaPg17
set_option linter.all false
section
namespace Go.Proofs.Ytbcpcjofkfgjoaa
set_option maxRecDepth 100000
set_option maxHeartbeats 4000000
def bsS (l : List (List UInt8)) (d : List UInt8) : Nat := bsG cmpB [] l d 0 l.length
noncomputable def XBR : List AV → List AB → Option (AV × List AB)
 | [s, .s d, .f (.func 35) [] []], h => (getS strR h s).bind fun l =>
   if l.length ≤ 1000000 then some (.tu [.i .i64 (bsS l d), .b (decide (bsS l d < l.length ∧ cmpB (l.getD (bsS l d) []) d = 0))], h) else none
 | _, _ => none
theorem qPo : Spec Try.prog 49 XBR := by
 intro args h v h' e
 unfold XBR at e
 split at e
 ·rename_i s d
  obtain ⟨l, hs, e⟩ := Yc7 e
  split at e
  ·rename_i hl
   cases e
   refine FnAt.c (FnAt.run (by kernel_rfl) (T := ⟨[⟨35, XVE, fun _ => []⟩], []⟩) ⟨⟨J43, trivial⟩, trivial⟩ Try.func49 sw49 fun ho hh => ?_)
   simp only [Qlf, Bool.and_eq_true] at ho
   have f1 := hs.fx ho.1 (sz := 1) rfl
   unfold w49
   simp only [QZz, KkX, KtL, Kg0, simprocAttr, f1]
   refine ZiF (S := Nat × Nat) (fun x => x.2 - x.1) (fun x => [s, .s d, .f (.func 35) [] []] ++ tp 5 ++ [.i .i64 l.length, .i .i64 x.1, .i .i64 x.2] ++ tp 38) (fun x => x.1 ≤ x.2 ∧ x.2 ≤ l.length ∧ bsG cmpB [] l d x.1 x.2 = bsS l d) (0, l.length) ⟨Nat.zero_le _, Nat.le_refl _, rfl⟩ (by simp only [KtL, Kg0, simprocAttr]) fun x hx => ?_
   obtain ⟨lo, hi⟩ := x
   obtain ⟨x1, x2, x3⟩ := hx
   dsimp only at x1 x2 x3
   by_cases g : lo < hi
   ·have hm : (lo + hi) / 2 < l.length := by omega
    have e1 : IntKind.i64.wrap ((lo : Int) + (hi : Int)) = ((lo + hi : Nat) : Int) := qfU (by unfold In64; omega)
    have e2 : IntKind.u64.wrap ((lo + hi : Nat) : Int) = ((lo + hi : Nat) : Int) := by
     have : ((lo + hi : Nat) : Int) % 18446744073709551616 = ((lo + hi : Nat) : Int) := Int.emod_eq_of_lt (by omega) (by omega)
     exact this
    have e3 : ∀ k', binV .shr (.i .u64 ((lo + hi : Nat) : Int)) (.i k' 1) = some (.i .u64 (((lo + hi) / 2 : Nat) : Int)) := fun k' => by
     show (if (1 : Int) < 0 then none else some (AV.i .u64 (Int.fdiv ((lo + hi : Nat) : Int) (2 ^ (min (1 : Int).toNat IntKind.u64.bits))))) = _
     rw [if_neg (by decide), show ((2 : Int) ^ (min (1 : Int).toNat IntKind.u64.bits)) = 2 from by decide, Int.fdiv_eq_ediv_of_nonneg _ (by decide)]
     rfl
    have e4 : IntKind.i64.wrap (((lo + hi) / 2 : Nat) : Int) = (((lo + hi) / 2 : Nat) : Int) := qfU (by unfold In64; omega)
    have e5 : IntKind.i64.wrap ((((lo + hi) / 2 : Nat) : Int) + 1) = (((lo + hi) / 2 + 1 : Nat) : Int) := qfU (by unfold In64; omega)
    have e6 : ∀ k x, (AV.i k x).int? = some x := fun _ _ => rfl
    simp only [KtL, Kg0, simprocAttr, f1, g, hm, e1, e2, e3, e4, e5, e6, zkT, ZjM, XVE, Nat.zero_lt_one, false_implies, forall_const, and_true, true_and, not_true_eq_false, not_false_eq_true, XHZ]
    have x4 : ∀ (_ : True), bsG cmpB [] l d lo hi = if cmpB (l.getD ((lo + hi) / 2) []) d < 0 then bsG cmpB [] l d ((lo + hi) / 2 + 1) hi else bsG cmpB [] l d lo ((lo + hi) / 2) := fun _ => by rw [bsG, if_pos g]
    refine ⟨fun q => ⟨((lo + hi) / 2 + 1, hi), ⟨by dsimp only; omega, x2, ?_⟩, by dsimp only; omega, Wk.refl _, Wk.refl _⟩, fun q => ⟨(lo, (lo + hi) / 2), ⟨by dsimp only; omega, by dsimp only; omega, ?_⟩, by dsimp only; omega, Wk.refl _, Wk.refl _⟩⟩
    ·rw [← x3, x4 trivial, if_pos q]
    ·rw [← x3, x4 trivial, if_neg q]
   ·obtain rfl : lo = hi := by omega
    have x4 : bsS l d = lo := by rw [← x3, bsG, if_neg (Nat.lt_irrefl _)]
    by_cases g2 : lo < l.length
    ·simp only [KtL, Kg0, simprocAttr, f1, g, g2, x4, zkT, ZjM, XVE, Nat.zero_lt_one, false_implies, forall_const, and_true, true_and, not_true_eq_false, not_false_eq_true, XHZ]
     exact Bt.drop _ hh rfl rfl
    ·simp only [KtL, Kg0, simprocAttr, f1, g, g2, x4, zkT, ZjM, XVE, Nat.zero_lt_one, false_implies, forall_const, and_true, true_and, not_true_eq_false, not_false_eq_true, XHZ]
     exact Bt.drop _ hh (by rw [decide_eq_false fun q => q.1]) rfl
  ·cases e
 ·cases e
theorem qK5 {s s' : AV} {sz : Nat} {x : AV} (hc : s.capOk = true) (e : slL sz s (some x) none none = some s') : s'.capOk = true := by
 cases s with
 | sl id off len cap k =>
  simp only [AV.capOk, decide_eq_true_eq] at hc
  have e' : ((bnd 0 len (some x)).map fun l => if l = 0 then AV.sl id off len cap k
   else if l < cap then .sl id (off + l * sz) (len - l) (cap - l) (kcut k sz)
   else if k = none then .sl id off 0 0 none else .se) = some s' := e
  obtain ⟨l, hl, e'⟩ := Option.map_eq_some_iff.1 e'
  split at e'
  ·subst e'; simpa [AV.capOk] using hc
  ·split at e'
   ·subst e'; simp only [AV.capOk, decide_eq_true_eq]; omega
   ·split at e'
    ·subst e'; rfl
    ·subst e'; rfl
 | ns =>
  have e' : ((bnd 0 0 (some x)).map fun _ => AV.ns) = some s' := e
  obtain ⟨l, hl, e'⟩ := Option.map_eq_some_iff.1 e'
  subst e'; rfl
 | se =>
  have e' : ((bnd 0 0 (some x)).map fun _ => AV.se) = some s' := e
  obtain ⟨l, hl, e'⟩ := Option.map_eq_some_iff.1 e'
  subst e'; rfl
 | _ => cases e
def risS (l : List (List UInt8)) : Prop := ∀ j, j + 1 < l.length → ltS (l.getD j []) (l.getD (j + 1) [])
def posS (l : List (List UInt8)) (d : List UInt8) : Nat := if bsS l d < l.length ∧ cmpB (l.getD (bsS l d) []) d = 0 then bsS l d + 1 else bsS l d
theorem QA0 (l : List (List UInt8)) (d : List UInt8) : posS l d ≤ l.length := by
 have := Y9u cmpB [] l d 0 l.length (Nat.zero_le _)
 unfold posS bsS at *
 split <;> omega
def JIC (l : List (List UInt8)) (d : List UInt8) (b : Bool) : List (List UInt8) := if b = true then l.drop (posS l d) else l
open Classical in
noncomputable def Q7B : List AV → List AB → Option (AV × List AB)
 | [s, .f (.func 35) [] [], .s d, .b b, .i .i64 m], h => (getS strR h s).bind fun l => if l.length ≤ 1000000 ∧ s.capOk = true then
   (if m < 1 ∨ 100 < m then some (.tu [.ns, .b false, .i .i64 3], h)
   else if ¬ risS l then some (.tu [.ns, .b false, .i .i64 25], h)
   else some (.tu [rsl strR h.length ((JIC l d b).take m.toNat), .b (decide (m < ((JIC l d b).length : Int))), .i .i64 0], h ++ [resB strR true ((JIC l d b).take m.toNat)]))
  else none
 | _, _ => none
theorem minM (n : Nat) (m : Int) (h : 0 ≤ m) : mmV false (.i .i64 (n : Int)) (.i .i64 m) = some (.i .i64 ((min n m.toNat : Nat) : Int)) := by
 show some (AV.i .i64 (if m < (n : Int) then m else n)) = _
 congr 2
 split <;> omega
theorem zSL {α : Type} (l : List α) (m : Nat) : l.take (min l.length m) = l.take m := by
 by_cases h : l.length ≤ m
 ·rw [Nat.min_eq_left h, List.take_length, List.take_of_length_le h]
 ·rw [Nat.min_eq_right (by omega)]
theorem q8F {l : List (List UInt8)} {i : Nat} (h1 : 0 < i) (h2 : i < l.length) (h3 : ¬ ltS (l.getD (i - 1) []) (l.getD i [])) : ¬ risS l := fun r => h3 (by
 have := r (i - 1) (by omega)
 rwa [show i - 1 + 1 = i by omega] at this)
open Classical in
noncomputable def cutO (n : Nat) (l : List (List UInt8)) (d : List UInt8) (b : Bool) (m : Int) : AV × List AB :=
 if m < 1 ∨ 100 < m then (.tu [.ns, .b false, .i .i64 3], [])
 else if ¬ risS l then (.tu [.ns, .b false, .i .i64 25], [])
 else (.tu [rsl strR n ((JIC l d b).take m.toNat), .b (decide (m < ((JIC l d b).length : Int))), .i .i64 0], [resB strR true ((JIC l d b).take m.toNat)])
theorem Xm1 {h : List AB} (hz : h.map AB.freeze = h) {s : AV} {l : List (List UInt8)} {d : List UInt8} {b : Bool} {m : Int} (hs : Rd strR h s l) (hl : l.length ≤ 1000000) (hc : s.capOk = true) {v : AV} {N h2 : List AB} (ev : cutO h.length l d b m = (v, N)) (e2 : h2 = h ++ N) :
  FnAt Try.prog 34 [s, .f (.func 35) [] [], .s d, .b b, .i .i64 m] h v h2 := by
 unfold cutO at ev
 refine FnAt.run (by kernel_rfl) (T := ⟨[⟨35, XVE, fun _ => []⟩, ⟨49, XBR, fun _ => []⟩, ⟨50, JU8, fun _ => []⟩], []⟩) ⟨⟨J43, qPo, YPZ, trivial⟩, trivial⟩ Try.func34 sw34 fun ho hh => ?_
 simp only [Qlf, Bool.and_eq_true] at ho
 have f1 := hs.fx ho.1 (sz := 1) rfl
 unfold w34
 by_cases g1 : m < 1
 ·have g1' := eq_true g1
  rw [if_pos (.inl g1)] at ev
  cases ev
  rw [List.append_nil] at e2
  subst e2
  simp only [QZz, KkX, KtL, Kg0, simprocAttr, f1, g1', false_implies, forall_const, and_true, true_and, not_true_eq_false, not_false_eq_true, XHZ]
  exact Bt.drop _ hh rfl rfl
 by_cases g2 : 100 < m
 ·have g1' := eq_false g1
  have g2' := eq_true g2
  rw [if_pos (.inr g2)] at ev
  cases ev
  rw [List.append_nil] at e2
  subst e2
  simp only [QZz, KkX, KtL, Kg0, simprocAttr, f1, g1', g2', false_implies, forall_const, and_true, true_and, not_true_eq_false, not_false_eq_true, XHZ]
  exact Bt.drop _ hh rfl rfl
 have g1' := eq_false g1
 have g2' := eq_false g2
 simp only [QZz, KkX, KtL, Kg0, simprocAttr, f1, g1', g2', false_implies, forall_const, and_true, true_and, not_true_eq_false, not_false_eq_true, XHZ]
 refine ZiF (S := Nat) (fun i => l.length - i) (fun i => [s, .f (.func 35) [] [], .s d, .b b, .i .i64 m] ++ tp 18 ++ [.i .i64 l.length, .i .i64 i] ++ tp 44) (fun i => i ≤ l.length ∧ ∀ j, j + 1 < i → ltS (l.getD j []) (l.getD (j + 1) [])) 0 ⟨Nat.zero_le _, fun j hj => by omega⟩ (by simp only [KtL, Kg0, simprocAttr]) fun i hi => ?_
 obtain ⟨i1, i2⟩ := hi
 by_cases g3 : i < l.length
 ·have e1 : IntKind.i64.wrap ((i : Int) + 1) = ((i + 1 : Nat) : Int) := qfU (by unfold In64; omega)
  by_cases g4 : 0 < i
  ·have e2 : IntKind.i64.wrap ((i : Int) - 1) = ((i - 1 : Nat) : Int) := by rw [qfU (by unfold In64; omega)]; omega
   have g5 : i - 1 < l.length := by omega
   have g4' : ((0 : Int) < (i : Int)) = True := eq_true (by omega)
   by_cases g6 : ltS (l.getD (i - 1) []) (l.getD i [])
   ·have g6' : (0 ≤ cmpB (l.getD (i - 1) []) (l.getD i [])) = False := eq_false (by unfold ltS at g6; omega)
    simp only [KtL, KED, Kg0, simprocAttr, CO.tmps, Opd.tmps, optT, Nat.reducePow, Nat.reduceDiv, Nat.reduceMod, f1, g3, g4', g5, e1, e2, g6', zkT, ZjM, XVE, Nat.zero_lt_one, Ja7 hh, YNX hz, zzR hz, QDS hz, false_implies, forall_const, and_true, true_and, not_true_eq_false, not_false_eq_true, XHZ]
    refine ⟨i + 1, ⟨by omega, fun j hj => ?_⟩, by omega, Wk.refl _⟩
    by_cases hji : j + 1 = i
    ·obtain rfl : j = i - 1 := by omega
     rwa [show i - 1 + 1 = i by omega]
    ·exact i2 j (by omega)
   ·have g6' : (0 ≤ cmpB (l.getD (i - 1) []) (l.getD i [])) = True := eq_true (by unfold ltS at g6; omega)
    simp only [KtL, KED, Kg0, simprocAttr, CO.tmps, Opd.tmps, optT, Nat.reducePow, Nat.reduceDiv, Nat.reduceMod, f1, g3, g4', g5, e1, e2, g6', zkT, ZjM, XVE, Nat.zero_lt_one, Ja7 hh, YNX hz, zzR hz, QDS hz, false_implies, forall_const, and_true, true_and, not_true_eq_false, not_false_eq_true, XHZ]
    rw [if_neg (fun q => q.elim g1 g2), if_pos (q8F g4 g3 g6)] at ev
    cases ev
    rw [List.append_nil] at e2
    subst e2
    exact Bt.drop _ hh rfl rfl
  ·obtain rfl : i = 0 := by omega
   have g3' : ((0 : Int) < (l.length : Int)) = True := eq_true (by omega)
   have e1' : IntKind.i64.wrap ((0 : Int) + 1) = ((0 + 1 : Nat) : Int) := rfl
   simp only [KtL, KED, Kg0, simprocAttr, CO.tmps, Opd.tmps, optT, Nat.reducePow, Nat.reduceDiv, Nat.reduceMod, f1, g3, g3', e1', zkT, ZjM, XVE, Nat.zero_lt_one, Ja7 hh, YNX hz, zzR hz, QDS hz, Int.natCast_zero, Int.lt_irrefl, false_implies, forall_const, and_true, true_and, not_true_eq_false, not_false_eq_true, XHZ]
   refine ⟨0 + 1, ⟨by omega, fun j hj => by omega⟩, by omega, Wk.refl _⟩
 ·have hr : risS l := fun j hj => i2 j (by omega)
  have g3' : ((i : Int) < (l.length : Int)) = False := eq_false (by omega)
  rw [if_neg (fun q => q.elim g1 g2), if_neg (fun q => q hr)] at ev
  cases ev
  subst e2
  cases b with
  | false =>
   obtain ⟨s2, t1, t2, t3⟩ := hs.takeS hc (i := min l.length m.toNat) (Nat.min_le_left _ _) (sz := 1) rfl
   rw [zSL] at t2
   have f2 := t2.fx (t3 _ ho.1) (sz := 1) rfl
   have e5 := minM l.length m (by omega)
   simp only [KtL, KED, Kg0, simprocAttr, CO.tmps, Opd.tmps, optT, Nat.reducePow, Nat.reduceDiv, Nat.reduceMod, f1, f2, g3, g3', t1, e5, JU8, Nat.zero_lt_one, Ja7 hh, YNX hz, zzR hz, QDS hz, false_implies, forall_const, and_true, true_and, not_true_eq_false, not_false_eq_true, XHZ]
   exact ⟨by rw [List.length_take]; omega, Bt.eq rfl rfl⟩
  | true =>
   have er : JIC l d true = l.drop (posS l d) := rfl
   rw [er]
   have hp := QA0 l d
   obtain ⟨s1, u1, u2, u3⟩ := hs.dropS hc (i := posS l d) hp (sz := 1) rfl
   have hc1 := qK5 hc u1
   have f3 := u2.fx (u3 _ ho.1) (sz := 1) rfl
   obtain ⟨s2, t1, t2, t3⟩ := u2.takeS hc1 (i := min (l.drop (posS l d)).length m.toNat) (Nat.min_le_left _ _) (sz := 1) rfl
   rw [zSL] at t2
   have f2 := t2.fx (t3 _ (u3 _ ho.1)) (sz := 1) rfl
   have e5 := minM (l.drop (posS l d)).length m (by omega)
   have hbl : bsS l d ≤ l.length := Y9u cmpB [] l d 0 l.length (Nat.zero_le _)
   by_cases gp : bsS l d < l.length ∧ cmpB (l.getD (bsS l d) []) d = 0
   ·have gp' := eq_true gp
    have ep : posS l d = bsS l d + 1 := by unfold posS; rw [if_pos gp]
    have e1 : IntKind.i64.wrap ((bsS l d : Int) + 1) = ((posS l d : Nat) : Int) := by rw [qfU (by unfold In64; omega)]; omega
    generalize posS l d = p at *
    simp only [KtL, KED, Kg0, simprocAttr, CO.tmps, Opd.tmps, optT, Nat.reducePow, Nat.reduceDiv, Nat.reduceMod, f1, f2, f3, g3, g3', gp', e1, t1, u1, e5, JU8, XBR, hl, Nat.zero_lt_one, Ja7 hh, YNX hz, zzR hz, QDS hz, decide_true, false_implies, forall_const, and_true, true_and, not_true_eq_false, not_false_eq_true, XHZ]
    exact ⟨by rw [List.length_take, List.length_drop]; omega, Bt.eq rfl rfl⟩
   ·have gp' := eq_false gp
    have ep : posS l d = bsS l d := by unfold posS; rw [if_neg gp]
    have u1' : slL 1 s (some (.i .i64 ((bsS l d : Nat) : Int))) none none = some s1 := by rw [← ep]; exact u1
    simp only [KtL, KED, Kg0, simprocAttr, CO.tmps, Opd.tmps, optT, Nat.reducePow, Nat.reduceDiv, Nat.reduceMod, f1, f2, f3, g3, g3', gp', t1, u1', e5, JU8, XBR, hl, Nat.zero_lt_one, Ja7 hh, YNX hz, zzR hz, QDS hz, decide_false, false_implies, forall_const, and_true, true_and, not_true_eq_false, not_false_eq_true, XHZ]
    exact ⟨by rw [List.length_take, List.length_drop]; omega, Bt.eq rfl rfl⟩
theorem XJm : Spec Try.prog 34 Q7B := by
 intro args h v h' e
 unfold Q7B at e
 split at e
 ·rename_i s d b m
  obtain ⟨l, hs, e⟩ := Yc7 e
  split at e
  ·rename_i hl
   obtain ⟨hl, hc⟩ := hl
   by_cases g1 : m < 1 ∨ 100 < m
   ·rw [if_pos g1] at e
    cases e
    exact FnAt.c (FnAt.frz0 fun hz => Xm1 hz hs.frz hl hc (by unfold cutO; rw [if_pos g1]) (List.append_nil _).symm)
   rw [if_neg g1] at e
   by_cases g2 : risS l
   ·rw [if_neg (fun q => q g2)] at e
    cases e
    refine FnAt.c (FnAt.frz fun hz => Xm1 hz hs.frz hl hc ?_ rfl)
    unfold cutO
    rw [if_neg g1, if_neg (fun q => q g2), List.length_map]
   ·rw [if_pos g2] at e
    cases e
    exact FnAt.c (FnAt.frz0 fun hz => Xm1 hz hs.frz hl hc (by unfold cutO; rw [if_neg g1, if_pos g2]) (List.append_nil _).symm)
  ·cases e
 ·cases e
end Go.Proofs.Ytbcpcjofkfgjoaa
end
section
namespace Go.Proofs.Ytbcpcjofkfgjoaa
set_option maxRecDepth 100000
set_option maxHeartbeats 4000000
noncomputable def X7U : List AV → List AB → Option (AV × List AB)
 | [s, .s d, .i .i64 m], h => Q7B [s, .f (.func 35) [] [], .s d, .b (decide (¬ d = [])), .i .i64 m] h
 | _, _ => none
theorem Xzn {s : AV} {d : List UInt8} {b : Bool} {m : Int} {h : List AB} {v : AV} {h' : List AB} (e : Q7B [s, .f (.func 35) [] [], .s d, .b b, .i .i64 m] h = some (v, h')) :
  ∃ a c k N, v = .tu [a, .b c, .i .i64 k] ∧ h' = h ++ N := by
 unfold Q7B at e
 split at e
 ·obtain ⟨l, hs, e⟩ := Yc7 e
  split at e
  ·split at e
   ·cases e; exact ⟨_, _, _, [], rfl, (List.append_nil _).symm⟩
   ·split at e
    ·cases e; exact ⟨_, _, _, [], rfl, (List.append_nil _).symm⟩
    ·cases e; exact ⟨_, _, _, _, rfl, rfl⟩
  ·cases e
 ·cases e
theorem KHO : Spec Try.prog 13 X7U := by
 intro args h v h' e
 unfold X7U at e
 split at e
 ·rename_i s d m
  obtain ⟨a, c, k, N, rfl, rfl⟩ := Xzn e
  refine FnAt.c (FnAt.run (by kernel_rfl) (T := ⟨[⟨34, Q7B, fun _ => []⟩], []⟩) ⟨⟨XJm, trivial⟩, trivial⟩ Try.func13 sw13 fun ho hh => ?_)
  have e1 : Q7B [s, .f (.func 35) [] [], .s d, .b (decide (¬ d = [])), .i .i64 m] (h ++ []) = some (.tu [a, .b c, .i .i64 k], h ++ N) := by rw [List.append_nil]; exact e
  unfold w13
  simp only [QZz, KkX, KtL, Kg0, simprocAttr, XAf, e1, XHZ]
  exact Bt.eq rfl rfl
 ·cases e
def Q9V (d : List UInt8) (l : List (List UInt8)) : List (List UInt8) := l.filter fun x => decide (d = [] ∨ ltS d x)
theorem XrP (d : List UInt8) {l : List (List UInt8)} {i : Nat} (h : i < l.length) : Q9V d (l.take (i + 1)) = Q9V d (l.take i) ++ (if d = [] ∨ ltS d (l.getD i []) then [l.getD i []] else []) := by
 unfold Q9V
 rw [List.take_succ_eq_append_getElem h, List.filter_append, List.getD_eq_getElem?_getD, List.getElem?_eq_getElem h]
 simp only [Option.getD_some, List.filter_cons, List.filter_nil, decide_eq_true_eq]
theorem QQj (d : List UInt8) (l : List (List UInt8)) (i : Nat) : (Q9V d (l.take i)).length ≤ i := by
 unfold Q9V
 exact Nat.le_trans (List.length_filter_le _ _) (by rw [List.length_take]; omega)
theorem QeY (d : List UInt8) (l : List (List UInt8)) (i : Nat) : ∃ r, Q9V d l = Q9V d (l.take i) ++ r := by
 refine ⟨Q9V d (l.drop i), ?_⟩
 unfold Q9V
 rw [← List.filter_append, List.take_append_drop]
open Classical in
noncomputable def X2f (n : Nat) (l : List (List UInt8)) (d : List UInt8) (m : Int) : AV × List AB :=
 if m < 1 ∨ 100 < m then (.tu [.ns, .b false, .i .i64 3], [])
 else if ¬ risS l then (.tu [.ns, .b false, .i .i64 25], [])
 else (.tu [apS strR n ((Q9V d l).take m.toNat), .b (decide (m < ((Q9V d l).length : Int))), .i .i64 0], [resB strR true ((Q9V d l).take m.toNat)])
open Classical in
noncomputable def QsM : List AV → List AB → Option (AV × List AB)
 | [s, .s d, .i .i64 m], h => (getS strR h s).bind fun l => if l.length ≤ 1000000 then
   (if m < 1 ∨ 100 < m then some (.tu [.ns, .b false, .i .i64 3], h)
   else if ¬ risS l then some (.tu [.ns, .b false, .i .i64 25], h)
   else some (.tu [apS strR h.length ((Q9V d l).take m.toNat), .b (decide (m < ((Q9V d l).length : Int))), .i .i64 0], h ++ [resB strR true ((Q9V d l).take m.toNat)]))
  else none
 | _, _ => none
theorem q6H {h : List AB} (hz : h.map AB.freeze = h) {s : AV} {l : List (List UInt8)} {d : List UInt8} {m : Int} (hs : Rd strR h s l) (hl : l.length ≤ 1000000) {v : AV} {N h2 : List AB} (ev : X2f h.length l d m = (v, N)) (e2 : h2 = h ++ N) :
  FnAt Try.prog 14 [s, .s d, .i .i64 m] h v h2 := by
 unfold X2f at ev
 refine FnAt.run (by kernel_rfl) (T := ⟨[], []⟩) ⟨trivial, trivial⟩ Try.func14 sw14 fun ho hh => ?_
 simp only [Qlf, Bool.and_eq_true] at ho
 have f1 := hs.fx ho.1 (sz := 1) rfl
 have fo : ∀ c, s.ok (fun i => decide (i < h.length + c)) = true := fun c => AV.ok_mono (fun i q => by simp only [decide_eq_true_eq] at q ⊢; omega) s ho.1
 have fr : ∀ sel, Wk (s.ren (selN h.length sel)) s := fun sel => Wk.ren (fun i hi => ZVh hi) ho.1
 unfold w14
 by_cases g1 : m < 1
 ·have g1' := eq_true g1
  rw [if_pos (.inl g1)] at ev
  cases ev
  rw [List.append_nil] at e2
  subst e2
  simp only [QZz, KkX, KtL, Kg0, simprocAttr, f1, g1', false_implies, forall_const, and_true, true_and, not_true_eq_false, not_false_eq_true, XHZ]
  exact Bt.drop _ hh rfl rfl
 by_cases g2 : 100 < m
 ·have g1' := eq_false g1
  have g2' := eq_true g2
  rw [if_pos (.inr g2)] at ev
  cases ev
  rw [List.append_nil] at e2
  subst e2
  simp only [QZz, KkX, KtL, Kg0, simprocAttr, f1, g1', g2', false_implies, forall_const, and_true, true_and, not_true_eq_false, not_false_eq_true, XHZ]
  exact Bt.drop _ hh rfl rfl
 have g1' := eq_false g1
 have g2' := eq_false g2
 rw [if_neg (fun q => q.elim g1 g2)] at ev
 simp only [QZz, KkX, KtL, Kg0, simprocAttr, f1, g1', g2', false_implies, forall_const, and_true, true_and, not_true_eq_false, not_false_eq_true, XHZ]
 refine ZiF (S := Nat) (fun i => l.length + 1 - i) (fun i => [s, .s d, .i .i64 m] ++ tp 6 ++ [.i .i64 i] ++ tp 53) (fun i => 1 ≤ i ∧ i ≤ l.length + 1 ∧ ∀ j, j + 1 < i → j + 1 < l.length → ltS (l.getD j []) (l.getD (j + 1) [])) 1 ⟨by omega, by omega, fun j hj => by omega⟩ (by simp only [KtL, Kg0, simprocAttr]) fun i hi => ?_
 obtain ⟨i0, i1, i2⟩ := hi
 by_cases g3 : i < l.length
 ·have e1 : IntKind.i64.wrap ((i : Int) + 1) = ((i + 1 : Nat) : Int) := qfU (by unfold In64; omega)
  have e2' : IntKind.i64.wrap ((i : Int) - 1) = ((i - 1 : Nat) : Int) := by rw [qfU (by unfold In64; omega)]; omega
  have g5 : i - 1 < l.length := by omega
  by_cases g6 : ltS (l.getD (i - 1) []) (l.getD i [])
  ·have g6' := eq_true g6
   simp only [KtL, KED, Kg0, simprocAttr, CO.tmps, Opd.tmps, optT, Nat.reducePow, Nat.reduceDiv, Nat.reduceMod, f1, g3, g5, e1, e2', g6', qWD, zkT, ZjM, Nat.zero_lt_one, Ja7 hh, YNX hz, zzR hz, QDS hz, false_implies, forall_const, and_true, true_and, not_true_eq_false, not_false_eq_true, XHZ]
   refine ⟨i + 1, ⟨by omega, by omega, fun j hj hjl => ?_⟩, by omega, Wk.refl _⟩
   by_cases hji : j + 1 = i
   ·obtain rfl : j = i - 1 := by omega
    rwa [show i - 1 + 1 = i by omega]
   ·exact i2 j (by omega) hjl
  ·have g6' := eq_false g6
   simp only [KtL, KED, Kg0, simprocAttr, CO.tmps, Opd.tmps, optT, Nat.reducePow, Nat.reduceDiv, Nat.reduceMod, f1, g3, g5, e1, e2', g6', qWD, zkT, ZjM, Nat.zero_lt_one, Ja7 hh, YNX hz, zzR hz, QDS hz, false_implies, forall_const, and_true, true_and, not_true_eq_false, not_false_eq_true, XHZ]
   rw [if_pos (q8F (by omega) g3 g6)] at ev
   cases ev
   rw [List.append_nil] at e2
   subst e2
   exact Bt.drop _ hh rfl rfl
 have hr : risS l := fun j hj => i2 j (by omega) hj
 have g3' : ((i : Int) < (l.length : Int)) = False := eq_false (by omega)
 rw [if_neg (fun q => q hr)] at ev
 cases ev
 subst e2
 simp only [KtL, KED, Kg0, simprocAttr, CO.tmps, Opd.tmps, optT, Nat.reducePow, Nat.reduceDiv, Nat.reduceMod, f1, g3', false_implies, forall_const, and_true, true_and, not_true_eq_false, not_false_eq_true]
 refine zIs (S := Nat) (fun i => l.length - i) (fun i => [s, .s d, .i .i64 m] ++ tp 7 ++ [apS strR (h.length + 0) (Q9V d (l.take i)), .i .i64 i] ++ tp 51) (fun i => h ++ [resB strR true (Q9V d (l.take i))]) (fun i => i ≤ l.length ∧ (Q9V d (l.take i)).length ≤ m.toNat) 0 ⟨Nat.zero_le _, by simp [Q9V]⟩ ?_ fun i hi => ?_
 ·show Bt _ _ _ _ _ (h ++ List.replicate 1 .dead)
  rw [List.append_nil]
  refine Bt.trans (Bt.wk ?_) (Bt.pad _ _ 1)
  rw [show apS strR (h.length + 0) (Q9V d (l.take 0)) = .ns from rfl]
  simp only [KtL, Kg0, simprocAttr]
 ·obtain ⟨i1, i2⟩ := hi
  have ln := QQj d l i
  by_cases g4 : i < l.length
  ·have g4' : ((i : Int) < (l.length : Int)) = True := eq_true (by omega)
   have e1 : IntKind.i64.wrap ((i : Int) + 1) = ((i + 1 : Nat) : Int) := qfU (by unfold In64; omega)
   have hst := XrP d g4
   by_cases hp : d = [] ∨ ltS d (l.getD i [])
   ·rw [if_pos hp] at hst
    by_cases hd : d = []
    ·have hd' := eq_true hd
     by_cases g5 : (Q9V d (l.take i)).length = m.toNat
     ·have g5' : (((Q9V d (l.take i)).length : Int) = m) = True := eq_true (by omega)
      obtain ⟨r, hr2⟩ := QeY d l (i + 1)
      rw [hst] at hr2
      have k1 : (Q9V d l).take m.toNat = Q9V d (l.take i) := by
       rw [hr2, ← g5, List.append_assoc, List.take_left]
      have k2 : m < ((Q9V d l).length : Int) := by
       rw [hr2, List.length_append, List.length_append, List.length_singleton]
       omega
      simp only [KtL, KED, Kg0, simprocAttr, CO.tmps, Opd.tmps, optT, Nat.reducePow, Nat.reduceDiv, Nat.reduceMod, f1, g4, g4', g5', hd', XAf, q65, e1, zkT, ZjM, Nat.zero_lt_one, false_implies, forall_const, and_true, true_and, not_true_eq_false, not_false_eq_true, XHZ]
      rw [k1, decide_eq_true k2]
      exact Bt.eq rfl rfl
     ·have g5' : (((Q9V d (l.take i)).length : Int) = m) = False := eq_false (by omega)
      by_cases hB : Q9V d (l.take i) = []
      ·rw [hB, List.nil_append] at hst
       have z3 : (1 * 16 ≤ 140737488355328 ∧ 1 ≤ maxLen) = True := eq_true ⟨by decide, by unfold maxLen; omega⟩
       have g5' : ((0 : Int) = m) = False := eq_false (by omega)
       simp only [hB, YtJ, KtL, KED, Kg0, simprocAttr, CO.tmps, Opd.tmps, optT, Nat.reducePow, Nat.reduceDiv, Nat.reduceMod, f1, g4, g4', g5', hd', XAf, q65, e1, z3, zkT, ZjM, XqR, List.length_cons, List.length_nil, Nat.zero_lt_one, Ja7 hh, YNX hz, zzR hz, QDS hz, false_implies, forall_const, and_true, true_and, not_true_eq_false, not_false_eq_true, XHZ]
       refine ⟨i + 1, ⟨g4, by rw [hst]; simp; omega⟩, by dsimp only; omega, ?_⟩
       dsimp only
       rw [hst]
       simp only [Q8K, qLQ]
       exact Bt.sel [2] hh (by decide) (by simp only [JsM, FrSel, BlkSel, AV.ren, renL, AV.ok, okL, Option.some.injEq, exists_eq_left', List.length_cons, List.length_nil, Nat.reduceAdd, Nat.reduceLT, reduceCtorEq, implies_true, exists_eq', fo, fr, zkT]) (by simp only [JsM, FrSel, BlkSel, AV.ren, renL, AV.ok, okL, Option.some.injEq, exists_eq_left', List.length_cons, List.length_nil, Nat.reduceAdd, Nat.reduceLT, reduceCtorEq, implies_true, exists_eq', fo, fr, X0K])
      ·have hlB : (Q9V d (l.take i)).length ≠ 0 := fun q => hB (List.eq_nil_of_length_eq_zero q)
       have gr : ∀ id, apS strR id (Q9V d (l.take i)) = rsl strR id (Q9V d (l.take i)) := fun id => Kte _ hlB
       have fa := fun L k ys hb => zWD (h := h) (p := h.length) rfl (r := strR) (sz := 1) rfl L k (Q9V d (l.take i)) 16 1 ys hlB hb (by decide) (by omega) (by unfold maxLen; omega)
       simp only [gr, KtL, KED, Kg0, simprocAttr, CO.tmps, Opd.tmps, optT, Nat.reducePow, Nat.reduceDiv, Nat.reduceMod, f1, g4, g4', g5', hd', XAf, q65, e1, fa, zkT, ZjM, XqR, List.length_cons, List.length_nil, Nat.zero_lt_one, Ja7 hh, YNX hz, zzR hz, QDS hz, false_implies, forall_const, and_true, true_and, not_true_eq_false, not_false_eq_true, XHZ]
       refine ⟨i + 1, ⟨g4, by rw [hst, List.length_append, List.length_singleton]; omega⟩, by dsimp only; omega, ?_⟩
       dsimp only
       rw [hst]
       simp only [zUW, zNU]
       exact Bt.sel [2] hh (by decide) (by simp only [JsM, FrSel, BlkSel, AV.ren, renL, AV.ok, okL, Option.some.injEq, exists_eq_left', List.length_cons, List.length_nil, Nat.reduceAdd, Nat.reduceLT, reduceCtorEq, implies_true, exists_eq', fo, fr, zkT]) (by simp only [JsM, FrSel, BlkSel, AV.ren, renL, AV.ok, okL, Option.some.injEq, exists_eq_left', List.length_cons, List.length_nil, Nat.reduceAdd, Nat.reduceLT, reduceCtorEq, implies_true, exists_eq', fo, fr, X0K])
    ·have hd' := eq_false hd
     have hlt : (ltS d (l.getD i [])) = True := eq_true (hp.resolve_left hd)
     by_cases g5 : (Q9V d (l.take i)).length = m.toNat
     ·have g5' : (((Q9V d (l.take i)).length : Int) = m) = True := eq_true (by omega)
      obtain ⟨r, hr2⟩ := QeY d l (i + 1)
      rw [hst] at hr2
      have k1 : (Q9V d l).take m.toNat = Q9V d (l.take i) := by
       rw [hr2, ← g5, List.append_assoc, List.take_left]
      have k2 : m < ((Q9V d l).length : Int) := by
       rw [hr2, List.length_append, List.length_append, List.length_singleton]
       omega
      simp only [KtL, KED, Kg0, simprocAttr, CO.tmps, Opd.tmps, optT, Nat.reducePow, Nat.reduceDiv, Nat.reduceMod, f1, g4, g4', g5', hd', hlt, XAf, q65, e1, zkT, ZjM, Nat.zero_lt_one, false_implies, forall_const, and_true, true_and, not_true_eq_false, not_false_eq_true, XHZ]
      rw [k1, decide_eq_true k2]
      exact Bt.eq rfl rfl
     ·have g5' : (((Q9V d (l.take i)).length : Int) = m) = False := eq_false (by omega)
      by_cases hB : Q9V d (l.take i) = []
      ·rw [hB, List.nil_append] at hst
       have z3 : (1 * 16 ≤ 140737488355328 ∧ 1 ≤ maxLen) = True := eq_true ⟨by decide, by unfold maxLen; omega⟩
       have g5' : ((0 : Int) = m) = False := eq_false (by omega)
       simp only [hB, YtJ, KtL, KED, Kg0, simprocAttr, CO.tmps, Opd.tmps, optT, Nat.reducePow, Nat.reduceDiv, Nat.reduceMod, f1, g4, g4', g5', hd', hlt, XAf, q65, e1, z3, zkT, ZjM, XqR, List.length_cons, List.length_nil, Nat.zero_lt_one, Ja7 hh, YNX hz, zzR hz, QDS hz, false_implies, forall_const, and_true, true_and, not_true_eq_false, not_false_eq_true, XHZ]
       refine ⟨i + 1, ⟨g4, by rw [hst]; simp; omega⟩, by dsimp only; omega, ?_⟩
       dsimp only
       rw [hst]
       simp only [Q8K, qLQ]
       exact Bt.sel [2] hh (by decide) (by simp only [JsM, FrSel, BlkSel, AV.ren, renL, AV.ok, okL, Option.some.injEq, exists_eq_left', List.length_cons, List.length_nil, Nat.reduceAdd, Nat.reduceLT, reduceCtorEq, implies_true, exists_eq', fo, fr, zkT]) (by simp only [JsM, FrSel, BlkSel, AV.ren, renL, AV.ok, okL, Option.some.injEq, exists_eq_left', List.length_cons, List.length_nil, Nat.reduceAdd, Nat.reduceLT, reduceCtorEq, implies_true, exists_eq', fo, fr, X0K])
      ·have hlB : (Q9V d (l.take i)).length ≠ 0 := fun q => hB (List.eq_nil_of_length_eq_zero q)
       have gr : ∀ id, apS strR id (Q9V d (l.take i)) = rsl strR id (Q9V d (l.take i)) := fun id => Kte _ hlB
       have fa := fun L k ys hb => zWD (h := h) (p := h.length) rfl (r := strR) (sz := 1) rfl L k (Q9V d (l.take i)) 16 1 ys hlB hb (by decide) (by omega) (by unfold maxLen; omega)
       simp only [gr, KtL, KED, Kg0, simprocAttr, CO.tmps, Opd.tmps, optT, Nat.reducePow, Nat.reduceDiv, Nat.reduceMod, f1, g4, g4', g5', hd', hlt, XAf, q65, e1, fa, zkT, ZjM, XqR, List.length_cons, List.length_nil, Nat.zero_lt_one, Ja7 hh, YNX hz, zzR hz, QDS hz, false_implies, forall_const, and_true, true_and, not_true_eq_false, not_false_eq_true, XHZ]
       refine ⟨i + 1, ⟨g4, by rw [hst, List.length_append, List.length_singleton]; omega⟩, by dsimp only; omega, ?_⟩
       dsimp only
       rw [hst]
       simp only [zUW, zNU]
       exact Bt.sel [2] hh (by decide) (by simp only [JsM, FrSel, BlkSel, AV.ren, renL, AV.ok, okL, Option.some.injEq, exists_eq_left', List.length_cons, List.length_nil, Nat.reduceAdd, Nat.reduceLT, reduceCtorEq, implies_true, exists_eq', fo, fr, zkT]) (by simp only [JsM, FrSel, BlkSel, AV.ren, renL, AV.ok, okL, Option.some.injEq, exists_eq_left', List.length_cons, List.length_nil, Nat.reduceAdd, Nat.reduceLT, reduceCtorEq, implies_true, exists_eq', fo, fr, X0K])
   ·have hd : (d = []) = False := eq_false fun q => hp (.inl q)
    have hlt : (ltS d (l.getD i [])) = False := eq_false fun q => hp (.inr q)
    rw [if_neg hp, List.append_nil] at hst
    simp only [KtL, KED, Kg0, simprocAttr, CO.tmps, Opd.tmps, optT, Nat.reducePow, Nat.reduceDiv, Nat.reduceMod, f1, g4, g4', hd, hlt, XAf, q65, e1, zkT, ZjM, Nat.zero_lt_one, false_implies, forall_const, and_true, true_and, not_true_eq_false, not_false_eq_true]
    refine ⟨i + 1, ⟨g4, by rw [hst]; exact i2⟩, by dsimp only; omega, ?_⟩
    dsimp only
    rw [hst]
    exact Bt.wk (by simp only [KtL, Kg0, simprocAttr])
  ·obtain rfl : i = l.length := by omega
   have g4' : ((l.length : Int) < (l.length : Int)) = False := eq_false (by omega)
   have hk : Q9V d (l.take l.length) = Q9V d l := by rw [List.take_length]
   rw [hk] at i2 ⊢
   simp only [KtL, KED, Kg0, simprocAttr, CO.tmps, Opd.tmps, optT, Nat.reducePow, Nat.reduceDiv, Nat.reduceMod, f1, g4', false_implies, forall_const, and_true, true_and, not_true_eq_false, not_false_eq_true, XHZ]
   rw [List.take_of_length_le i2, decide_eq_false (by omega : ¬ m < ((Q9V d l).length : Int))]
   exact Bt.eq rfl rfl
theorem qpG : Spec Try.prog 14 QsM := by
 intro args h v h' e
 unfold QsM at e
 split at e
 ·rename_i s d m
  obtain ⟨l, hs, e⟩ := Yc7 e
  split at e
  ·rename_i hl
   by_cases g1 : m < 1 ∨ 100 < m
   ·rw [if_pos g1] at e
    cases e
    exact FnAt.c (FnAt.frz0 fun hz => q6H hz hs.frz hl (by unfold X2f; rw [if_pos g1]) (List.append_nil _).symm)
   rw [if_neg g1] at e
   by_cases g2 : risS l
   ·rw [if_neg (fun q => q g2)] at e
    cases e
    refine FnAt.c (FnAt.frz fun hz => q6H hz hs.frz hl ?_ rfl)
    unfold X2f
    rw [if_neg g1, if_neg (fun q => q g2), List.length_map]
   ·rw [if_pos g2] at e
    cases e
    exact FnAt.c (FnAt.frz0 fun hz => q6H hz hs.frz hl (by unfold X2f; rw [if_neg g1, if_pos g2]) (List.append_nil _).symm)
  ·cases e
 ·cases e
end Go.Proofs.Ytbcpcjofkfgjoaa
end
section
namespace Go.Proofs.Ytbcpcjofkfgjoaa
section
variable {α : Type}
theorem K5C {P : α → Bool} {dv : α} : ∀ {l : List α} {p : Nat}, (∀ i, i < p → i < l.length → P (l.getD i dv) = false) → (∀ i, p ≤ i → i < l.length → P (l.getD i dv) = true) → l.filter P = l.drop p
 | [], p, _, _ => by simp
 | a :: l, 0, h1, h2 => by
  rw [List.drop_zero, List.filter_eq_self]
  intro x hx
  obtain ⟨i, hi, rfl⟩ := List.mem_iff_getElem.1 hx
  have := h2 i (Nat.zero_le _) hi
  rwa [List.getD_eq_getElem?_getD, List.getElem?_eq_getElem hi] at this
 | a :: l, p + 1, h1, h2 => by
  have h0 := h1 0 (by omega) (by simp)
  simp only [List.getD_cons_zero] at h0
  rw [List.filter_cons, h0, List.drop_succ_cons]
  simp only [Bool.false_eq_true, if_false]
  exact K5C (dv := dv) (fun i hi hl => by have := h1 (i + 1) (by omega) (by simpa using hl); simpa using this) (fun i hi hl => by have := h2 (i + 1) (by omega) (by simpa using hl); simpa using this)
variable {cf : α → α → Int} {dv : α}
theorem K7Y (tr : ∀ a b c, cf a b < 0 → cf b c < 0 → cf a c < 0) {l : List α} (hr : ∀ j, j + 1 < l.length → cf (l.getD j dv) (l.getD (j + 1) dv) < 0) (i : Nat) : ∀ k, i + (k + 1) < l.length → cf (l.getD i dv) (l.getD (i + (k + 1)) dv) < 0
 | 0, h => hr i h
 | k + 1, h => tr _ _ _ (K7Y tr hr i k (by omega)) (by have := hr (i + (k + 1)) (by omega); rwa [show i + (k + 1) + 1 = i + (k + 1 + 1) from by omega] at this)
theorem ZMg (tr : ∀ a b c, cf a b < 0 → cf b c < 0 → cf a c < 0) {l : List α} (hr : ∀ j, j + 1 < l.length → cf (l.getD j dv) (l.getD (j + 1) dv) < 0) {i j : Nat} (h : i < j) (hj : j < l.length) : cf (l.getD i dv) (l.getD j dv) < 0 := by
 have := K7Y tr hr i (j - i - 1) (by omega)
 rwa [show i + (j - i - 1 + 1) = j from by omega] at this
theorem YVR (sw : ∀ a b, cf b a = - cf a b) (tr : ∀ a b c, cf a b < 0 → cf b c < 0 → cf a c < 0) (eq0 : ∀ a b, cf a b = 0 → a = b) {l : List α} (hr : ∀ j, j + 1 < l.length → cf (l.getD j dv) (l.getD (j + 1) dv) < 0) (d : α) :
  l.drop (if bsG cf dv l d 0 l.length < l.length ∧ cf (l.getD (bsG cf dv l d 0 l.length) dv) d = 0 then bsG cf dv l d 0 l.length + 1 else bsG cf dv l d 0 l.length) = l.filter fun x => decide (cf d x < 0) := by
 obtain ⟨k1, k2⟩ := YuY cf dv l d (fun i j hij hj hc => by
  by_cases e : i = j
  ·subst e; exact hc
  ·exact tr _ _ _ (ZMg tr hr (by omega) hj) hc) 0 l.length (Nat.zero_le _) (Nat.le_refl _) (fun i hi => by omega) (fun i h1 h2 => by omega)
 generalize bsG cf dv l d 0 l.length = b at *
 refine (K5C (dv := dv) (fun i hi hl => decide_eq_false ?_) (fun i hi hl => decide_eq_true ?_)).symm
 ·intro hc
  by_cases e : i < b
  ·have h1 := k1 i e
   rw [sw] at hc
   omega
  ·split at hi
   ·rename_i h
    obtain rfl : i = b := by omega
    rw [sw] at hc
    omega
   ·omega
 ·split at hi
  ·rename_i h
   have he := eq0 _ _ h.2
   rw [← he]
   exact ZMg tr hr (by omega) hl
  ·rename_i h
   have h1 := k2 i (by omega) hl
   rw [sw]
   by_cases e0 : cf (l.getD i dv) d = 0
   ·exfalso
    by_cases e : i = b
    ·subst e; exact h ⟨hl, e0⟩
    ·have h2 := k2 b (Nat.le_refl _) (by omega)
     have h3 := ZMg tr hr (show b < i by omega) hl
     rw [eq0 _ _ e0] at h3
     exact h2 h3
   ·omega
end
end Go.Proofs.Ytbcpcjofkfgjoaa
end
