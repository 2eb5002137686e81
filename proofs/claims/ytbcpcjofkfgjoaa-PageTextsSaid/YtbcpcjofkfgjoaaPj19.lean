/- Part 19 of what the laws' proofs rest on. No condition. -/
import Derived.Shelf.Strings.OnBuilder
import Derived.Test.YtbcpcjofkfgjoaaPj18
set_option linter.all false
section
namespace Go.Proofs.Ytbcpcjofkfgjoaa
open Go.Shelf
def QuW : Go.Shelf.Ren := ⟨fun | 156 => 36 | 165 => 52 | 166 => 53 | 169 => 54 | 240 => 67 | 241 => 68 | 276 => 82 | 277 => 83 | n => n, fun | 31 => 22 | 9 => 9 | 3 => 3 | 4 => 4 | 0 => 0 | 20 => 20 | 72 => 79 | 76 => 83 | 70 => 76 | 37 => 77 | 75 => 82 | 127 => 94 | 164 => 112 | 5 => 5 | 80 => 85 | n => n, fun | n => n⟩
theorem XG0 : Go.Proofs.Lays.n156 Try.prog QuW := {
 mixed := by kernel_rfl
 f156 := Try.func36.trans (congrArg some (by kernel_rfl))
 f165 := Try.func52.trans (congrArg some (by kernel_rfl))
 f166 := Try.func53.trans (congrArg some (by kernel_rfl))
 f169 := Try.func54.trans (congrArg some (by kernel_rfl))
 f240 := Try.func67.trans (congrArg some (by kernel_rfl))
 f241 := Try.func68.trans (congrArg some (by kernel_rfl))
 f276 := Try.func82.trans (congrArg some (by kernel_rfl))
 f277 := Try.func83.trans (congrArg some (by kernel_rfl))
 t0 := Try.underlying0
 a0 := Try.isAgg0
 z0 := Try.sizeOf0
 v0 := Try.zeroValue0
 t3 := Try.underlying3
 a3 := Try.isAgg3
 z3 := Try.sizeOf3
 v3 := Try.zeroValue3
 t4 := Try.underlying4
 a4 := Try.isAgg4
 z4 := Try.sizeOf4
 v4 := Try.zeroValue4
 t9 := Try.underlying9
 a9 := Try.isAgg9
 z9 := Try.sizeOf9
 v9 := Try.zeroValue9
 t20 := Try.underlying20
 a20 := Try.isAgg20
 z20 := Try.sizeOf20
 v20 := Try.zeroValue20
 t31 := Try.underlying22
 a31 := Try.isAgg22
 z31 := Try.sizeOf22
 v31 := Try.zeroValue22
 t37 := Try.underlying77
 a37 := Try.isAgg77
 z37 := Try.sizeOf77
 v37 := Try.zeroValue77
 t70 := Try.underlying76
 a70 := Try.isAgg76
 z70 := Try.sizeOf76
 v70 := Try.zeroValue76
 t72 := Try.underlying79
 a72 := Try.isAgg79
 z72 := Try.sizeOf79
 v72 := Try.zeroValue79
 t75 := Try.underlying82
 a75 := Try.isAgg82
 z75 := Try.sizeOf82
 v75 := Try.zeroValue82
 t76 := Try.underlying83
 a76 := Try.isAgg83
 z76 := Try.sizeOf83
 v76 := Try.zeroValue83
 t127 := Try.underlying94
 a127 := Try.isAgg94
 z127 := Try.sizeOf94
 v127 := Try.zeroValue94
 t164 := Try.underlying112
 a164 := Try.isAgg112
 z164 := Try.sizeOf112
 v164 := Try.zeroValue112 }
theorem Zjz : Builder.Extra Try.prog QuW := {
 sizeBuilder := by kernel_rfl
 liesBuilder := by kernel_rfl
 t5 := Try.underlying5
 a5 := Try.isAgg5
 z5 := Try.sizeOf5
 v5 := Try.zeroValue5
 infoByte := by kernel_rfl
 cellsByte := by kernel_rfl
 sizeByte := by kernel_rfl
 neB5 := by decide }
open Go.RowKit in
theorem Yyc (bk o c : Nat) (xs : List ByteArray) (sep : ByteArray) (w : World) (hcells : ∀ (j : Nat) x, xs[j]? = some x → w.cell? ⟨bk, o + j, none⟩ = some (.string x)) (hbk : bk < w.heap.size) (hN : xs.length ≤ 140737488355328) (hcap : xs.length ≤ c) (hlen : (Lib.join (xs.map (·.data.toList)) sep.data.toList).length ≤ 140737488355328) :
  Calls Try.prog 36 #[.slice (some ⟨bk, o, none⟩) xs.length c, .string sep] w fun e w' => e = .returned (.string ⟨(Lib.join (xs.map (·.data.toList)) sep.data.toList).toArray⟩) ∧ Below w.heap.size w w' := Any.strings_Join XG0 Zjz bk o c xs sep w hcells hbk hN hcap hlen
end Go.Proofs.Ytbcpcjofkfgjoaa
end
section
namespace Go.Proofs.Ytbcpcjofkfgjoaa
open Go.RowKit
theorem Rel.below {K : Code → CC → Prop} {ρ : Mp} {h : List AB} {w w' : World} (r : Rel K ρ h w) (b : Below w.heap.size w w') (hd : dr w ≤ dr w') : Rel K ρ h w' ∧ Eff ρ h w ρ h w' :=
  ⟨⟨r.len, fun i B bb o n h1 h2 => (r.blk i B bb o n h1 h2).same (Ext.refl _) fun hl => b.block bb ((r.blk i B bb o n h1 h2).lt hl), r.sep⟩,
   b.os, b.tape, ⟨b.output, hd⟩, b.size, fun k hk _ => b.block k hk, fun _ q => .inl q, fun _ _ q => .inl q⟩
def qfI : List AV → Option (List (List UInt8))
 | [] => some []
 | .s l :: r => (qfI r).map (l :: ·)
 | _ => none
theorem YXZ : ∀ (xs : List AV) (l : List (List UInt8)), qfI xs = some l → l.length = xs.length ∧ ∀ (j : Nat) x, l[j]? = some x → xs[j]? = some (.s x)
 | [], l, e => by cases e; exact ⟨rfl, fun j x h => by simp at h⟩
 | .s a :: r, l, e => by
  simp only [qfI] at e
  obtain ⟨m, hm, rfl⟩ := Option.map_eq_some_iff.1 e
  obtain ⟨h1, h2⟩ := YXZ r m hm
  refine ⟨by simp [h1], fun j x h => ?_⟩
  cases j with
  | zero => simp at h; simp [h]
  | succ j => simp at h ⊢; exact h2 j x h
 | .b _ :: _, _, e | .i _ _ :: _, _, e | .p _ _ :: _, _, e | .np :: _, _, e | .sl _ _ _ _ _ :: _, _, e | .se :: _, _, e | .ns :: _, _, e | .f _ _ _ :: _, _, e | .nf :: _, _, e | .ifc _ _ :: _, _, e | .ni :: _, _, e | .ag _ :: _, _, e | .tu _ :: _, _, e | .top :: _, _, e | .y _ :: _, _, e => by cases e
theorem KWc {ρ : Mp} {id off len cap : Nat} {k : Option Nat} {v : Value} (e : VR ρ (.sl id off len cap k) v) (h : len ≠ 0) :
  ∃ b o n cap', ρ[id]? = some (b, o, n) ∧ v = .slice (some ⟨b, o + off, none⟩) len cap' ∧ len ≤ cap ∧ cap ≤ cap' ∧ cap' ≤ maxLen ∧ (∀ z, k = some z → z ≠ 0 → o + off + cap' * z ≤ n) := by
 cases e with
 | sl id off len cap k b o n cap' hρ h1 h2 h3 h4 h5 => exact ⟨b, o, n, cap', hρ, rfl, h1, h2, h3, h5⟩
 | sz id off a c hc hn => exact absurd rfl h
theorem XNn {ρ : Mp} {a b : AV} {vals : Array Value} (h : VL ρ [a, b] vals) : ∃ x y, vals = #[x, y] ∧ VR ρ a x ∧ VR ρ b y := by
 obtain ⟨hs, hv⟩ := h
 obtain ⟨l⟩ := vals
 match l, hs with
 | [x, y], _ => exact ⟨x, y, rfl, hv 0 a x rfl rfl, hv 1 b y rfl rfl⟩
theorem Xqb {h : List AB} {id off n cap : Nat} {k : Option Nat} {fl mu : Bool} {xs : List AV} {l : List (List UInt8)} {sep : List UInt8} (h0 : n ≠ 0) (hb : h[id]? = some (.blk fl mu xs)) (hle : off + n ≤ xs.length)
  (hl : qfI ((xs.drop off).take n) = some l) (hN : n ≤ 140737488355328) (hlen : (Lib.join l sep).length ≤ 140737488355328) :
  FnC Try.prog 36 [.sl id off n cap k, .s sep] h (.s (Lib.join l sep)) h := by
 refine ⟨⟨_, _, Try.func36, by decide, rfl⟩, fun ρ w vals hr hv => ?_⟩
 obtain ⟨v, f, rfl, hv1, hv2⟩ := XNn hv
 obtain ⟨b, o, m, cap', hρ, rfl, hlc, hcc, hcm, -⟩ := KWc hv1 h0
 cases hv2 with
 | s sl bs hbs =>
 obtain ⟨hll, hget⟩ := YXZ _ _ hl
 have hll' : l.length = n := by rw [hll, List.length_take, List.length_drop]; omega
 have hB := hr.blk id _ b o m hb hρ
 obtain ⟨cs, e, fz, hheap, hm, hsz, hcells⟩ := hB
 have hblk : b < w.heap.size := (Array.getElem?_eq_some_iff.1 hheap).1
 have hmap : (l.map fun x => (⟨x.toArray⟩ : ByteArray)).map (·.data.toList) = l := by
  rw [List.map_map]
  exact (List.map_congr_left fun x _ => by simp).trans (List.map_id l)
 have hJ := Yyc b (o + off) cap' (l.map fun x => (⟨x.toArray⟩ : ByteArray)) bs w (fun j x hx => by
  rw [List.getElem?_map] at hx
  obtain ⟨y, hy, rfl⟩ := Option.map_eq_some_iff.1 hx
  have h1 := hget j y hy
  have hj : j < n := by rw [← hll']; exact (List.getElem?_eq_some_iff.1 hy).1
  rw [List.getElem?_take, if_pos hj, List.getElem?_drop] at h1
  have hoj : o + (off + j) < cs.size := by omega
  have hv := hcells (off + j) _ _ h1 (Array.getElem?_eq_getElem hoj)
  unfold World.cell?
  simp only [hheap, Option.isSome_none, Bool.false_eq_true, if_false]
  rw [show o + off + j = o + (off + j) by omega, Array.getElem?_eq_getElem hoj]
  generalize cs[o + (off + j)] = u at hv
  cases hv with
  | s l' bs' h' =>
   congr 2
   apply ByteArray.ext
   rw [← h']) hblk (by simpa [hll'] using hN) (by simp [hll']; omega) (by rw [hmap, hbs]; exact hlen)
 rw [hmap, hbs, List.length_map, hll'] at hJ
 refine hJ.mono ?_
 rintro e' w' ⟨rfl, hbel⟩
 obtain ⟨r1, r2⟩ := hr.below hbel (Nat.le_refl _)
 exact ⟨_, ρ, rfl, .s _ _ (by simp), r1, r2.p (Ext.refl _) (by rw [hr.len]; exact Nat.le_refl _)⟩
def zMA (args : List AV) (g : GT) (_ : Nat) : Option (AV × HE) :=
 match args with
 | [.sl id off n _ _, .s sep] => match g id with
  | some (.blk _ _ xs) => match Nat.beq n 0 with
   | true => none
   | false => match Nat.ble (off + n) xs.length && Nat.ble n 1000 with
    | true => match qfI ((xs.drop off).take n) with
     | some l => match Nat.ble (Lib.join l sep).length 140737488355328 with
      | true => some (.s (Lib.join l sep), .z)
      | false => none
     | none => none
    | false => none
  | _ => none
 | _ => none
theorem zSO : NvOk Try.prog 36 zMA := fun args g h v e hg q => by
 unfold zMA at q
 split at q
 ·rename_i id off n cap k sep
  split at q
  ·rename_i fl mu xs hB
   split at q
   ·cases q
   ·rename_i h0
    split at q
    ·rename_i h1
     split at q
     ·rename_i l hl
      split at q
      ·rename_i h2
       cases q
       rw [Bool.and_eq_true, Nat.ble_eq, Nat.ble_eq] at h1
       rw [Nat.ble_eq] at h2
       exact ⟨Xqb (Nat.ne_of_beq_eq_false h0) (Y2G (hg id) hB) h1.1 hl (by omega) h2, trivial⟩
      ·cases q
     ·cases q
    ·cases q
  ·cases q
 ·cases q
end Go.Proofs.Ytbcpcjofkfgjoaa
end
section
namespace Go.Proofs.Ytbcpcjofkfgjoaa
set_option maxRecDepth 100000
set_option maxHeartbeats 4000000
theorem Yo6 {h : List AB} {b : Nat} {v : AV} (L : List AB) (e : ldV h none (.p b 0) = some v) : ldV (h ++ L) none (.p b 0) = some v := by
 have hb := JkB e
 simp only [ldV, z16] at e ⊢
 rw [List.getElem?_append_left hb]
 exact e
def JO5 (s : List UInt8) (h : List AB) (g : Nat) (c : List AV) : Option Int := match c with
 | [.p b 0] => if g = 69 then (match ldV h none (.p b 0) with
  | some (.f (.func k) [] []) => namE k s
  | _ => none) else none
 | [] => if g = 58 then some (errI s) else if g = 59 then some (errN s) else none
 | _ => none
def qG9 : List AV → List AB → Option (AV × List AB)
 | [.ag [.s _, .f (.func _) [] _, .f (.func g) [] c], .s s], h => if s.length ≤ 1000000 then (JO5 s h g c).map fun e => (.i .i64 (if s = [] then 0 else e), h) else none
 | _, _ => none
theorem zD0 : Spec Try.prog 42 qG9 := by
 intro args h v h' e
 unfold qG9 at e
 split at e
 ·rename_i w g1 c1 g c s
  split at e
  ·rename_i hs
   have hs' := eq_true hs
   obtain ⟨x, hx, e⟩ := Option.map_eq_some_iff.1 e
   cases e
   unfold JO5 at hx
   refine FnAt.c (FnAt.run (by kernel_rfl) (T := ⟨[⟨69, QdS, fun _ => []⟩, ⟨58, YAS, fun _ => []⟩, ⟨59, zp0, fun _ => []⟩], []⟩) ⟨⟨Ksc, YW8, Z5t, trivial⟩, trivial⟩ Try.func42 sw42 fun ho hh => ?_)
   unfold w42
   split at hx
   ·rename_i b
    split at hx
    ·rename_i hg
     subst hg
     split at hx
     ·rename_i k l1
      have m1 := fun L => Yo6 L l1
      by_cases hz : s = []
      ·rw [if_pos hz]
       simp only [KXL, JuQ, QbA, KI8, qi4, if_true, if_false, ↓reduceIte, Nat.reduceAdd, Nat.reduceSub, Nat.reduceLeDiff, Nat.reduceEqDiff, Nat.reduceMul, Nat.reduceLT, Int.reduceLT, Int.reduceLE, Int.reduceEq, CO.tmps, Opd.tmps, optT, Nat.reducePow, Nat.reduceDiv, Nat.reduceMod, XsR, eq_true hz, decide_true, decide_false, ne_eq, not_false_eq_true, not_true_eq_false, false_implies, forall_const, and_true, true_and]
       exact Bt.drop _ hh rfl rfl
      ·rw [if_neg hz]
       simp only [KXL, JuQ, QbA, KI8, qi4, if_true, if_false, ↓reduceIte, Nat.reduceAdd, Nat.reduceSub, Nat.reduceLeDiff, Nat.reduceEqDiff, Nat.reduceMul, Nat.reduceLT, Int.reduceLT, Int.reduceLE, Int.reduceEq, CO.tmps, Opd.tmps, optT, Nat.reducePow, Nat.reduceDiv, Nat.reduceMod, XsR, eq_false hz, QdS, m1, hs', hx, Option.map_some, decide_true, decide_false, ne_eq, not_false_eq_true, not_true_eq_false, false_implies, forall_const, and_true, true_and]
       exact Bt.drop _ hh rfl rfl
     ·cases hx
    ·cases hx
   ·split at hx
    ·rename_i hg
     subst hg
     cases hx
     by_cases hz : s = []
     ·rw [if_pos hz]
      simp only [KXL, JuQ, QbA, KI8, qi4, if_true, if_false, ↓reduceIte, Nat.reduceAdd, Nat.reduceSub, Nat.reduceLeDiff, Nat.reduceEqDiff, Nat.reduceMul, Nat.reduceLT, Int.reduceLT, Int.reduceLE, Int.reduceEq, CO.tmps, Opd.tmps, optT, Nat.reducePow, Nat.reduceDiv, Nat.reduceMod, XsR, eq_true hz, decide_true, decide_false, ne_eq, not_false_eq_true, not_true_eq_false, false_implies, forall_const, and_true, true_and]
      exact Bt.drop _ hh rfl rfl
     ·rw [if_neg hz]
      simp only [KXL, JuQ, QbA, KI8, qi4, if_true, if_false, ↓reduceIte, Nat.reduceAdd, Nat.reduceSub, Nat.reduceLeDiff, Nat.reduceEqDiff, Nat.reduceMul, Nat.reduceLT, Int.reduceLT, Int.reduceLE, Int.reduceEq, CO.tmps, Opd.tmps, optT, Nat.reducePow, Nat.reduceDiv, Nat.reduceMod, XsR, eq_false hz, YAS, hs', decide_true, decide_false, ne_eq, not_false_eq_true, not_true_eq_false, false_implies, forall_const, and_true, true_and]
      exact Bt.drop _ hh rfl rfl
    ·split at hx
     ·rename_i hg
      subst hg
      cases hx
      by_cases hz : s = []
      ·rw [if_pos hz]
       simp only [KXL, JuQ, QbA, KI8, qi4, if_true, if_false, ↓reduceIte, Nat.reduceAdd, Nat.reduceSub, Nat.reduceLeDiff, Nat.reduceEqDiff, Nat.reduceMul, Nat.reduceLT, Int.reduceLT, Int.reduceLE, Int.reduceEq, CO.tmps, Opd.tmps, optT, Nat.reducePow, Nat.reduceDiv, Nat.reduceMod, XsR, eq_true hz, decide_true, decide_false, ne_eq, not_false_eq_true, not_true_eq_false, false_implies, forall_const, and_true, true_and]
       exact Bt.drop _ hh rfl rfl
      ·rw [if_neg hz]
       simp only [KXL, JuQ, QbA, KI8, qi4, if_true, if_false, ↓reduceIte, Nat.reduceAdd, Nat.reduceSub, Nat.reduceLeDiff, Nat.reduceEqDiff, Nat.reduceMul, Nat.reduceLT, Int.reduceLT, Int.reduceLE, Int.reduceEq, CO.tmps, Opd.tmps, optT, Nat.reducePow, Nat.reduceDiv, Nat.reduceMod, XsR, eq_false hz, zp0, decide_true, decide_false, ne_eq, not_false_eq_true, not_true_eq_false, false_implies, forall_const, and_true, true_and]
       exact Bt.drop _ hh rfl rfl
     ·cases hx
   ·cases hx
  ·cases e
 ·cases e
theorem q98 {h : List AB} (hz : h.map AB.freeze = h) {k : Int} {r a : List UInt8} (hl : r.length ≤ 1000000 ∧ a.length ≤ 1000000) : FnAt Try.prog 21 [.ag [.i .i64 k, .s r, .s a]] h (.i .i64 (chkE k r a)) h := by
 refine FnAt.run (by kernel_rfl) (T := ⟨[⟨37, Kqb, fun _ => []⟩, ⟨69, QdS, fun _ => []⟩, ⟨59, zp0, fun _ => []⟩, ⟨42, qG9, fun _ => []⟩], []⟩) ⟨⟨qTR, Ksc, Z5t, zD0, trivial⟩, trivial⟩ Try.func21 sw21 fun ho hh => ?_
 unfold w21
 have hr' := eq_true hl.1
 have ha' := eq_true hl.2
 by_cases k1 : k < 1
 ·rw [show chkE k r a = 5 from if_pos (.inl k1)]
  simp only [KXL, JuQ, QbA, KI8, qi4, if_true, if_false, ↓reduceIte, Nat.reduceAdd, Nat.reduceSub, Nat.reduceLeDiff, Nat.reduceEqDiff, Nat.reduceMul, Nat.reduceLT, Int.reduceLT, Int.reduceLE, Int.reduceEq, CO.tmps, Opd.tmps, optT, Nat.reducePow, Nat.reduceDiv, Nat.reduceMod, eq_true k1, decide_true, decide_false, ne_eq, not_false_eq_true, not_true_eq_false, false_implies, forall_const, and_true, true_and]
  exact Bt.drop _ hh rfl rfl
 by_cases k3 : 3 < k
 ·rw [show chkE k r a = 5 from if_pos (.inr k3)]
  simp only [KXL, JuQ, QbA, KI8, qi4, if_true, if_false, ↓reduceIte, Nat.reduceAdd, Nat.reduceSub, Nat.reduceLeDiff, Nat.reduceEqDiff, Nat.reduceMul, Nat.reduceLT, Int.reduceLT, Int.reduceLE, Int.reduceEq, CO.tmps, Opd.tmps, optT, Nat.reducePow, Nat.reduceDiv, Nat.reduceMod, eq_false k1, eq_true k3, decide_true, decide_false, ne_eq, not_false_eq_true, not_true_eq_false, false_implies, forall_const, and_true, true_and]
  exact Bt.drop _ hh rfl rfl
 rcases (show k = 1 ∨ k = 2 ∨ k = 3 by omega) with rfl | rfl | rfl
 ·have w0 : IntKind.i64.wrap (1 - 1) = 0 := by decide
  have e1 : chkE 1 r a = if errR r = 0 then (if a = [] then 0 else errT a) else errR r := rfl
  rw [e1]
  by_cases he : errR r = 0
  ·rw [if_pos he]
   simp only [KXL, JuQ, QbA, KI8, qi4, if_true, if_false, ↓reduceIte, Nat.reduceAdd, Nat.reduceSub, Nat.reduceLeDiff, Nat.reduceEqDiff, Nat.reduceMul, Nat.reduceLT, Int.reduceLT, Int.reduceLE, Int.reduceEq, CO.tmps, Opd.tmps, optT, Nat.reducePow, Nat.reduceDiv, Nat.reduceMod, Kqb, qrD, nmdV, QdS, zp0, qG9, JO5, namE, hr', ha', he, w0, tn_0, tn_1, tn_2, Nat.mul_one, Nat.zero_add, K6Y hh, ZbP hz, qyN hz, KN7 hz, Option.map_some, decide_true, decide_false, ne_eq, not_false_eq_true, not_true_eq_false, false_implies, forall_const, and_true, true_and, if_true, if_false]
   exact ⟨rfl, Bt.drop _ hh rfl rfl⟩
  ·rw [if_neg he]
   simp only [KXL, JuQ, QbA, KI8, qi4, if_true, if_false, ↓reduceIte, Nat.reduceAdd, Nat.reduceSub, Nat.reduceLeDiff, Nat.reduceEqDiff, Nat.reduceMul, Nat.reduceLT, Int.reduceLT, Int.reduceLE, Int.reduceEq, CO.tmps, Opd.tmps, optT, Nat.reducePow, Nat.reduceDiv, Nat.reduceMod, Kqb, qrD, nmdV, QdS, zp0, qG9, JO5, namE, hr', ha', eq_false he, w0, tn_0, tn_1, tn_2, Nat.mul_one, Nat.zero_add, K6Y hh, ZbP hz, qyN hz, KN7 hz, Option.map_some, decide_true, decide_false, ne_eq, not_false_eq_true, not_true_eq_false, false_implies, forall_const, and_true, true_and, if_true, if_false]
   exact ⟨rfl, Bt.drop _ hh rfl rfl⟩
 ·have w0 : IntKind.i64.wrap (2 - 1) = 1 := by decide
  have e1 : chkE 2 r a = if errR r = 0 then (if a = [] then 0 else errI a) else errR r := rfl
  rw [e1]
  by_cases he : errR r = 0
  ·rw [if_pos he]
   simp only [KXL, JuQ, QbA, KI8, qi4, if_true, if_false, ↓reduceIte, Nat.reduceAdd, Nat.reduceSub, Nat.reduceLeDiff, Nat.reduceEqDiff, Nat.reduceMul, Nat.reduceLT, Int.reduceLT, Int.reduceLE, Int.reduceEq, CO.tmps, Opd.tmps, optT, Nat.reducePow, Nat.reduceDiv, Nat.reduceMod, Kqb, qrD, nmdV, QdS, zp0, qG9, JO5, namE, hr', ha', he, w0, tn_0, tn_1, tn_2, Nat.mul_one, Nat.zero_add, K6Y hh, ZbP hz, qyN hz, KN7 hz, Option.map_some, decide_true, decide_false, ne_eq, not_false_eq_true, not_true_eq_false, false_implies, forall_const, and_true, true_and, if_true, if_false]
   exact ⟨rfl, Bt.drop _ hh rfl rfl⟩
  ·rw [if_neg he]
   simp only [KXL, JuQ, QbA, KI8, qi4, if_true, if_false, ↓reduceIte, Nat.reduceAdd, Nat.reduceSub, Nat.reduceLeDiff, Nat.reduceEqDiff, Nat.reduceMul, Nat.reduceLT, Int.reduceLT, Int.reduceLE, Int.reduceEq, CO.tmps, Opd.tmps, optT, Nat.reducePow, Nat.reduceDiv, Nat.reduceMod, Kqb, qrD, nmdV, QdS, zp0, qG9, JO5, namE, hr', ha', eq_false he, w0, tn_0, tn_1, tn_2, Nat.mul_one, Nat.zero_add, K6Y hh, ZbP hz, qyN hz, KN7 hz, Option.map_some, decide_true, decide_false, ne_eq, not_false_eq_true, not_true_eq_false, false_implies, forall_const, and_true, true_and, if_true, if_false]
   exact ⟨rfl, Bt.drop _ hh rfl rfl⟩
 ·have w0 : IntKind.i64.wrap (3 - 1) = 2 := by decide
  have e1 : chkE 3 r a = if errN r = 0 then (if a = [] then 0 else errR a) else errN r := rfl
  rw [e1]
  by_cases he : errN r = 0
  ·rw [if_pos he]
   simp only [KXL, JuQ, QbA, KI8, qi4, if_true, if_false, ↓reduceIte, Nat.reduceAdd, Nat.reduceSub, Nat.reduceLeDiff, Nat.reduceEqDiff, Nat.reduceMul, Nat.reduceLT, Int.reduceLT, Int.reduceLE, Int.reduceEq, CO.tmps, Opd.tmps, optT, Nat.reducePow, Nat.reduceDiv, Nat.reduceMod, Kqb, qrD, nmdV, QdS, zp0, qG9, JO5, namE, hr', ha', he, w0, tn_0, tn_1, tn_2, Nat.mul_one, Nat.zero_add, K6Y hh, ZbP hz, qyN hz, KN7 hz, Option.map_some, decide_true, decide_false, ne_eq, not_false_eq_true, not_true_eq_false, false_implies, forall_const, and_true, true_and, if_true, if_false]
   exact ⟨rfl, Bt.drop _ hh rfl rfl⟩
  ·rw [if_neg he]
   simp only [KXL, JuQ, QbA, KI8, qi4, if_true, if_false, ↓reduceIte, Nat.reduceAdd, Nat.reduceSub, Nat.reduceLeDiff, Nat.reduceEqDiff, Nat.reduceMul, Nat.reduceLT, Int.reduceLT, Int.reduceLE, Int.reduceEq, CO.tmps, Opd.tmps, optT, Nat.reducePow, Nat.reduceDiv, Nat.reduceMod, Kqb, qrD, nmdV, QdS, zp0, qG9, JO5, namE, hr', ha', eq_false he, w0, tn_0, tn_1, tn_2, Nat.mul_one, Nat.zero_add, K6Y hh, ZbP hz, qyN hz, KN7 hz, Option.map_some, decide_true, decide_false, ne_eq, not_false_eq_true, not_true_eq_false, false_implies, forall_const, and_true, true_and, if_true, if_false]
   exact ⟨rfl, Bt.drop _ hh rfl rfl⟩
theorem Xta : Spec Try.prog 21 JqV := by
 intro args h v h' e
 unfold JqV at e
 split at e
 ·split at e
  ·rename_i hl
   cases e
   exact FnAt.c (FnAt.frz0 fun hz => q98 hz hl)
  ·cases e
 ·cases e
def Jir : List AV → List AB → Option (AV × List AB)
 | [.sl id 0 3 3 none, .s sep], h => match z16 h id with
  | some [.s x, .s y, .s z] => if x.length + y.length + z.length + sep.length ≤ 10000000 then some (.s (x ++ sep ++ y ++ sep ++ z), h) else none
  | _ => none
 | _, _ => none
theorem QEG : Spec Try.prog 36 Jir := by
 intro args h v h' e
 unfold Jir at e
 split at e
 ·rename_i id sep
  split at e
  ·rename_i x y z hb
   split at e
   ·rename_i hl
    cases e
    unfold z16 at hb
    split at hb
    ·rename_i fl mu xs hg
     cases hb
     have hj : Lib.join [x, y, z] sep = x ++ sep ++ y ++ sep ++ z := by simp [Lib.join]
     have := Xqb (h := h) (id := id) (off := 0) (n := 3) (cap := 3) (k := none) (sep := sep) (l := [x, y, z]) (by decide) hg (by simp) rfl (by decide) (by rw [hj]; simp; omega)
     rw [hj] at this
     exact this
    ·cases hb
   ·cases e
  ·cases e
 ·cases e
theorem zMm {h : List AB} (hz : h.map AB.freeze = h) {k : Int} {r a : List UInt8} (hl : r.length ≤ 1000000 ∧ a.length ≤ 1000000) : FnAt Try.prog 17 [.ag [.i .i64 k, .s r, .s a]] h (txtV k r a) h := by
 refine FnAt.run (by kernel_rfl) (T := ⟨[⟨21, JqV, fun _ => []⟩, ⟨37, Kqb, fun _ => []⟩, ⟨36, Jir, fun _ => []⟩], []⟩) ⟨⟨Xta, qTR, QEG, trivial⟩, trivial⟩ Try.func17 sw17 fun ho hh => ?_
 unfold w17 txtV
 have hr' := eq_true hl.1
 have ha' := eq_true hl.2
 by_cases hc : chkE k r a = 0
 ·rw [if_pos hc]
  have t3 : ∀ (w : List UInt8), w.length ≤ 9 → (w.length + (r.length + (a.length + 1)) ≤ 10000000) = True := fun w hw => eq_true (by omega)
  rcases Q74 hc with rfl | rfl | rfl
  ·have w0 : IntKind.i64.wrap (1 - 1) = 0 := by decide
   have t4 := t3 YNH (by decide)
   have t5 : Ygt 1 r a = YNH ++ [58] ++ r ++ [58] ++ a := rfl
   rw [t5]
   simp only [KXL, JuQ, QbA, KI8, qi4, if_true, if_false, ↓reduceIte, Nat.reduceAdd, Nat.reduceSub, Nat.reduceLeDiff, Nat.reduceEqDiff, Nat.reduceMul, Nat.reduceLT, Int.reduceLT, Int.reduceLE, Int.reduceEq, CO.tmps, Opd.tmps, optT, Nat.reducePow, Nat.reduceDiv, Nat.reduceMod, JqV, Kqb, qrD, nmdV, Jir, hr', ha', hc, w0, t4, tn_0, tn_1, tn_2, Nat.mul_one, Nat.zero_add, K6Y hh, ZbP hz, qyN hz, KN7 hz, decide_true, decide_false, ne_eq, not_false_eq_true, not_true_eq_false, false_implies, forall_const, and_true, true_and]
   exact ⟨of_eq_true t4, Bt.drop _ hh rfl rfl⟩
  ·have w0 : IntKind.i64.wrap (2 - 1) = 1 := by decide
   have t4 := t3 ZJf (by decide)
   have t5 : Ygt 2 r a = ZJf ++ [58] ++ r ++ [58] ++ a := rfl
   rw [t5]
   simp only [KXL, JuQ, QbA, KI8, qi4, if_true, if_false, ↓reduceIte, Nat.reduceAdd, Nat.reduceSub, Nat.reduceLeDiff, Nat.reduceEqDiff, Nat.reduceMul, Nat.reduceLT, Int.reduceLT, Int.reduceLE, Int.reduceEq, CO.tmps, Opd.tmps, optT, Nat.reducePow, Nat.reduceDiv, Nat.reduceMod, JqV, Kqb, qrD, nmdV, Jir, hr', ha', hc, w0, t4, tn_0, tn_1, tn_2, Nat.mul_one, Nat.zero_add, K6Y hh, ZbP hz, qyN hz, KN7 hz, decide_true, decide_false, ne_eq, not_false_eq_true, not_true_eq_false, false_implies, forall_const, and_true, true_and]
   exact ⟨of_eq_true t4, Bt.drop _ hh rfl rfl⟩
  ·have w0 : IntKind.i64.wrap (3 - 1) = 2 := by decide
   have t4 := t3 Kkh (by decide)
   have t5 : Ygt 3 r a = Kkh ++ [58] ++ r ++ [58] ++ a := rfl
   rw [t5]
   simp only [KXL, JuQ, QbA, KI8, qi4, if_true, if_false, ↓reduceIte, Nat.reduceAdd, Nat.reduceSub, Nat.reduceLeDiff, Nat.reduceEqDiff, Nat.reduceMul, Nat.reduceLT, Int.reduceLT, Int.reduceLE, Int.reduceEq, CO.tmps, Opd.tmps, optT, Nat.reducePow, Nat.reduceDiv, Nat.reduceMod, JqV, Kqb, qrD, nmdV, Jir, hr', ha', hc, w0, t4, tn_0, tn_1, tn_2, Nat.mul_one, Nat.zero_add, K6Y hh, ZbP hz, qyN hz, KN7 hz, decide_true, decide_false, ne_eq, not_false_eq_true, not_true_eq_false, false_implies, forall_const, and_true, true_and]
   exact ⟨of_eq_true t4, Bt.drop _ hh rfl rfl⟩
 ·rw [if_neg hc]
  simp only [KXL, JuQ, QbA, KI8, qi4, if_true, if_false, ↓reduceIte, Nat.reduceAdd, Nat.reduceSub, Nat.reduceLeDiff, Nat.reduceEqDiff, Nat.reduceMul, Nat.reduceLT, Int.reduceLT, Int.reduceLE, Int.reduceEq, CO.tmps, Opd.tmps, optT, Nat.reducePow, Nat.reduceDiv, Nat.reduceMod, JqV, Y17, hr', ha', eq_false hc, decide_true, decide_false, ne_eq, not_false_eq_true, not_true_eq_false, false_implies, forall_const, and_true, true_and]
  exact Bt.drop _ hh rfl rfl
theorem Jtv : Spec Try.prog 17 Kzg := by
 intro args h v h' e
 unfold Kzg at e
 split at e
 ·split at e
  ·rename_i hl
   cases e
   exact FnAt.c (FnAt.frz0 fun hz => zMm hz hl)
  ·cases e
 ·cases e
end Go.Proofs.Ytbcpcjofkfgjoaa
end
section
namespace Go.Proofs.Ytbcpcjofkfgjoaa
set_option maxRecDepth 100000
set_option maxHeartbeats 4000000
def rd1V (h : List AB) (p : Nat) : List AV → Option AV
 | [.p b1 0, .p b2 0, .p b3 0] => match ldV h none (.p b1 0), ldV h none (.p b2 p), ldV h none (.p b3 p) with
  | some (.s s), some (.i .i64 x), some (.i .i64 y) => slS s (some (.i .i64 x)) (some (.i .i64 y))
  | _, _, _ => none
 | _ => none
def ZA2 : List AV → List AB → Option (AV × List AB)
 | .i .i64 p :: cap, h => if 0 ≤ p ∧ p < 3 then (rd1V h p.toNat cap).map (·, h) else none
 | _, _ => none
theorem z5m {h : List AB} {b o : Nat} {v : AV} (L : List AB) (e : ldV h none (.p b o) = some v) : ldV (h ++ L) none (.p b o) = some v := by
 have hb : b < h.length := by
  simp only [ldV, z16] at e
  by_cases hi : b < h.length
  ·exact hi
  ·rw [List.getElem?_eq_none (by omega)] at e
   cases e
 simp only [ldV, z16] at e ⊢
 rw [List.getElem?_append_left hb]
 exact e
theorem JMb {h : List AB} {i o : Nat} {v : AV} (e : ldV h none (.p i o) = some v) : i < h.length := by
 simp only [ldV, z16] at e
 by_cases hi : i < h.length
 ·exact hi
 ·rw [List.getElem?_eq_none (by omega)] at e
  cases e
theorem ZY5 {h : List AB} {p : Nat} {cap : List AV} {v : AV} (e : rd1V h p cap = some v) : ∃ b1 b2 b3 s x y, cap = [.p b1 0, .p b2 0, .p b3 0] ∧ ldV h none (.p b1 0) = some (.s s) ∧ ldV h none (.p b2 p) = some (.i .i64 x) ∧ ldV h none (.p b3 p) = some (.i .i64 y) ∧ slS s (some (.i .i64 x)) (some (.i .i64 y)) = some v := by
 unfold rd1V at e
 split at e
 ·split at e
  ·rename_i h1 h2 h3
   exact ⟨_, _, _, _, _, _, rfl, h1, h2, h3, e⟩
  ·cases e
 ·cases e
theorem Xk7 {h : List AB} {p : Nat} {cap : List AV} {v : AV} (L : List AB) (e : rd1V h p cap = some v) : rd1V (h ++ L) p cap = some v := by
 obtain ⟨b1, b2, b3, s, x, y, rfl, h1, h2, h3, h4⟩ := ZY5 e
 simp only [rd1V, z5m L h1, z5m L h2, z5m L h3, h4]
theorem KjR (h : List AB) (p : Nat) (cap : List AV) : rd1V (h.map AB.freeze) p cap = rd1V h p cap := by
 unfold rd1V
 simp only [qqu]
theorem zjd {h : List AB} (hz : h.map AB.freeze = h) {p : Nat} (hp : p < 3) {cap : List AV} {v : AV} (e : rd1V h p cap = some v) : FnAt Try.prog 39 (.i .i64 (p : Int) :: cap) h v h := by
 obtain ⟨b1, b2, b3, s, x, y, rfl, h1, h2, h3, h4⟩ := ZY5 e
 refine FnAt.run (by kernel_rfl) (T := ⟨[], []⟩) ⟨trivial, trivial⟩ Try.func39 sw39 fun ho hh => ?_
 unfold w39
 have m1 := z5m [] h1
 have m2 := z5m [] h2
 have m3 := z5m [] h3
 have l1 : (b1 < h.length + 0) = True := eq_true (JMb h1)
 have l2 : (b2 < h.length + 0) = True := eq_true (JMb h2)
 have l3 : (b3 < h.length + 0) = True := eq_true (JMb h3)
 have hv : ∃ t, v = .s t := by
  obtain ⟨_, _, e2⟩ := Option.bind_eq_some_iff.1 h4
  obtain ⟨_, _, e3⟩ := Option.map_eq_some_iff.1 e2
  exact ⟨_, e3.symm⟩
 obtain ⟨t, rfl⟩ := hv
 simp only [KXL, JuQ, QbA, KI8, qi4, simprocAttr, CO.tmps, Opd.tmps, optT, Nat.reducePow, Nat.reduceDiv, Nat.reduceMod, zyA, qNP, hp, qjR, m1, m2, m3, l1, l2, l3, h4, tn_0, tn_1, tn_2, Nat.mul_one, Nat.zero_add, K6Y hh, ZbP hz, qyN hz, KN7 hz, Option.map_some, decide_true, decide_false, ne_eq, not_false_eq_true, not_true_eq_false, false_implies, forall_const, and_true, true_and]
 exact Bt.drop _ hh rfl rfl
theorem YRn : Spec Try.prog 39 ZA2 := by
 intro args h v h' e
 unfold ZA2 at e
 split at e
 ·rename_i p cap
  split at e
  ·rename_i hp
   obtain ⟨v0, e1, e2⟩ := Option.map_eq_some_iff.1 e
   cases e2
   obtain ⟨m, rfl⟩ : ∃ m : Nat, p = (m : Int) := ⟨p.toNat, by omega⟩
   rw [Int.toNat_natCast] at e1
   exact FnAt.c (FnAt.frz0 fun hz => zjd hz (by omega) (by rw [KjR]; exact e1))
  ·cases e
 ·cases e
def rdT (h : List AB) (b1 b2 : Nat) : Option (Option (List UInt8)) := match ldV h none (.p b1 0) with
 | some (.i .i64 part) => if 0 < part then (match ldV h none (.p b2 0) with
  | some (.f (.func g) [] cap) => if g = 39 then (match rd1V h 0 cap with
   | some (.s t) => some (some t)
   | _ => none) else none
  | _ => none) else some none
 | _ => none
theorem J12 {h : List AB} {b1 b2 : Nat} {o : Option (List UInt8)} (e : rdT h b1 b2 = some o) : ∃ part, ldV h none (.p b1 0) = some (.i .i64 part) ∧ ((¬ 0 < part ∧ o = none) ∨ (0 < part ∧ ∃ cap t, o = some t ∧ ldV h none (.p b2 0) = some (.f (.func 39) [] cap) ∧ rd1V h 0 cap = some (.s t))) := by
 unfold rdT at e
 split at e
 ·rename_i part h1
  refine ⟨part, h1, ?_⟩
  split at e
  ·rename_i hp
   split at e
   ·rename_i g cap h2
    split at e
    ·rename_i hg
     subst hg
     split at e
     ·rename_i t h3
      cases e
      exact .inr ⟨hp, cap, t, rfl, h2, h3⟩
     ·cases e
    ·cases e
   ·cases e
  ·rename_i hp
   cases e
   exact .inl ⟨hp, rfl⟩
 ·cases e
theorem ZKc {h : List AB} {b1 b2 : Nat} {o : Option (List UInt8)} {part : Int} (h1 : ldV h none (.p b1 0) = some (.i .i64 part)) (h2 : (¬ 0 < part ∧ o = none) ∨ (0 < part ∧ ∃ cap t, o = some t ∧ ldV h none (.p b2 0) = some (.f (.func 39) [] cap) ∧ rd1V h 0 cap = some (.s t))) : rdT h b1 b2 = some o := by
 rcases h2 with ⟨hp, rfl⟩ | ⟨hp, cap, t, rfl, h2, h3⟩
 ·simp only [rdT, h1, if_neg hp]
 ·simp only [rdT, h1, if_pos hp, h2, if_true, h3]
theorem qfQ {h : List AB} {b1 b2 : Nat} {o : Option (List UInt8)} (L : List AB) (e : rdT h b1 b2 = some o) : rdT (h ++ L) b1 b2 = some o := by
 obtain ⟨part, h1, h2⟩ := J12 e
 refine ZKc (z5m L h1) ?_
 rcases h2 with h2 | ⟨hp, cap, t, rfl, h2, h3⟩
 ·exact .inl h2
 ·exact .inr ⟨hp, cap, t, rfl, z5m L h2, Xk7 L h3⟩
theorem Qua {h : List AB} {b1 b2 : Nat} {o : Option (List UInt8)} (e : rdT h b1 b2 = some o) : rdT (h.map AB.freeze) b1 b2 = some o := by
 obtain ⟨part, h1, h2⟩ := J12 e
 refine ZKc (by rw [qqu]; exact h1) ?_
 rcases h2 with h2 | ⟨hp, cap, t, rfl, h2, h3⟩
 ·exact .inl h2
 ·exact .inr ⟨hp, cap, t, rfl, by rw [qqu]; exact h2, by rw [KjR]; exact h3⟩
def YMi : List AV → List AB → Option (AV × List AB)
 | [.ag [.s w, .f (.func _) [] _, .f (.func _) [] _], .p b1 0, .p b2 0], h => (rdT h b1 b2).map fun o => (.b (decide (o = some w)), h)
 | _, _ => none
theorem XU1 {h : List AB} (hz : h.map AB.freeze = h) {b1 b2 g1 g2 : Nat} {k1 k2 : List AV} {w : List UInt8} {o : Option (List UInt8)} (e : rdT h b1 b2 = some o) :
  FnAt Try.prog 41 [.ag [.s w, .f (.func g1) [] k1, .f (.func g2) [] k2], .p b1 0, .p b2 0] h (.b (decide (o = some w))) h := by
 obtain ⟨part, h1, h2⟩ := J12 e
 refine FnAt.run (by kernel_rfl) (T := ⟨[⟨39, ZA2, fun _ => []⟩], []⟩) ⟨⟨YRn, trivial⟩, trivial⟩ Try.func41 sw41 fun ho hh => ?_
 unfold w41
 have m1 := fun L => z5m L h1
 have l1 := JMb h1
 have l1' : ∀ n, (b1 < h.length + n) = True := fun n => eq_true (by omega)
 have hk : okL (fun i => decide (i < h.length)) k1 = true ∧ okL (fun i => decide (i < h.length)) k2 = true := by
  simp only [okL, AV.ok, Bool.and_eq_true, Bool.and_true, Bool.true_and] at ho
  exact ⟨ho.1.1, ho.1.2⟩
 have q1 : ∀ n, okL (fun i => decide (i < h.length + n)) k1 = true := fun n => QTz (fun i hi => by simp only [decide_eq_true_eq] at hi ⊢; omega) k1 hk.1
 have q2 : ∀ n, okL (fun i => decide (i < h.length + n)) k2 = true := fun n => QTz (fun i hi => by simp only [decide_eq_true_eq] at hi ⊢; omega) k2 hk.2
 rcases h2 with ⟨hp, rfl⟩ | ⟨hp, cap, t, rfl, h2, h3⟩
 ·simp only [KXL, JuQ, QbA, KI8, qi4, simprocAttr, CO.tmps, Opd.tmps, optT, Nat.reducePow, Nat.reduceDiv, Nat.reduceMod, m1, l1', eq_false hp, q1, q2, tn_0, tn_1, tn_2, Nat.mul_one, Nat.zero_add, K6Y hh, ZbP hz, qyN hz, KN7 hz, decide_true, decide_false, ne_eq, not_false_eq_true, not_true_eq_false, false_implies, forall_const, and_true, true_and]
  exact Bt.dropB _ hh (by simp)
 ·have m2 := fun L => z5m L h2
  have l2 := JMb h2
  have l2' : ∀ n, (b2 < h.length + n) = True := fun n => eq_true (by omega)
  have m3 := fun L => Xk7 L h3
  obtain ⟨c1, c2, c3, s', x', y', rfl, z1, z2, z3, -⟩ := ZY5 h3
  have y1 := JMb z1
  have y2 := JMb z2
  have y3 := JMb z3
  have y1' : ∀ n, (c1 < h.length + n) = True := fun n => eq_true (by omega)
  have y2' : ∀ n, (c2 < h.length + n) = True := fun n => eq_true (by omega)
  have y3' : ∀ n, (c3 < h.length + n) = True := fun n => eq_true (by omega)
  by_cases hw : w = t
  ·simp only [KXL, JuQ, QbA, KI8, qi4, simprocAttr, CO.tmps, Opd.tmps, optT, Nat.reducePow, Nat.reduceDiv, Nat.reduceMod, m1, l1', m2, l2', y1', y2', y3', y1, y2, y3, ZA2, m3, XsR, tn_0, eq_true hp, eq_true hw, q1, q2, tn_0, tn_1, tn_2, Nat.mul_one, Nat.zero_add, K6Y hh, ZbP hz, qyN hz, KN7 hz, Option.map_some, decide_true, decide_false, ne_eq, not_false_eq_true, not_true_eq_false, false_implies, forall_const, and_true, true_and]
   exact Bt.dropB _ hh (by simp [hw])
  ·simp only [KXL, JuQ, QbA, KI8, qi4, simprocAttr, CO.tmps, Opd.tmps, optT, Nat.reducePow, Nat.reduceDiv, Nat.reduceMod, m1, l1', m2, l2', y1', y2', y3', y1, y2, y3, ZA2, m3, XsR, tn_0, eq_true hp, eq_false hw, q1, q2, tn_0, tn_1, tn_2, Nat.mul_one, Nat.zero_add, K6Y hh, ZbP hz, qyN hz, KN7 hz, Option.map_some, decide_true, decide_false, ne_eq, not_false_eq_true, not_true_eq_false, false_implies, forall_const, and_true, true_and]
   exact Bt.dropB _ hh (by simp only [Option.some.injEq]; exact (decide_eq_false fun z => hw z.symm).symm)
theorem qYL : Spec Try.prog 41 YMi := by
 intro args h v h' e
 unfold YMi at e
 split at e
 ·obtain ⟨o, e1, e2⟩ := Option.map_eq_some_iff.1 e
  cases e2
  exact FnAt.c (FnAt.frz0 fun hz => XU1 hz (Qua e1))
 ·cases e
end Go.Proofs.Ytbcpcjofkfgjoaa
end
section
namespace Go.Proofs.Ytbcpcjofkfgjoaa
set_option maxRecDepth 100000
set_option maxHeartbeats 4000000
def ixK (o : Option (List UInt8)) (w1 w2 w3 : List UInt8) : Int := if o = some w1 then 0 else if o = some w2 then 1 else if o = some w3 then 2 else -1
def Yot : List AV → List AB → Option (AV × List AB)
 | [.sl id 0 3 3 none, .f (.func g) [] [.p b1 0, .p b2 0]], h => if g = 41 then (match z16 h id with
  | some [.s w1, .f (.func _) [] _, .f (.func _) [] _, .s w2, .f (.func _) [] _, .f (.func _) [] _, .s w3, .f (.func _) [] _, .f (.func _) [] _] => (rdT h b1 b2).map fun o => (.i .i64 (ixK o w1 w2 w3), h)
  | _ => none) else none
 | _, _ => none
theorem znC : Spec Try.prog 40 Yot := by
 intro args h v h' e
 unfold Yot at e
 split at e
 ·rename_i id g b1 b2
  split at e
  ·rename_i hg
   subst hg
   split at e
   ·rename_i w1 n1 a1 n2 a2 w2 n3 a3 n4 a4 w3 n5 a5 n6 a6 hb
    obtain ⟨o, e1, e2⟩ := Option.map_eq_some_iff.1 e
    cases e2
    refine FnAt.c (FnAt.run (by kernel_rfl) (T := ⟨[⟨41, YMi, fun _ => []⟩], []⟩) ⟨⟨qYL, trivial⟩, trivial⟩ Try.func40 sw40 fun ho hh => ?_)
    unfold w40
    have m0 : rdT (h ++ []) b1 b2 = some o := qfQ [] e1
    have hb' : z16 (h ++ []) id = some [.s w1, .f (.func n1) [] a1, .f (.func n2) [] a2, .s w2, .f (.func n3) [] a3, .f (.func n4) [] a4, .s w3, .f (.func n5) [] a5, .f (.func n6) [] a6] := by rw [List.append_nil]; exact hb
    have d0 : ldV (h ++ []) (some 3) (.p id 0) = some (.ag [.s w1, .f (.func n1) [] a1, .f (.func n2) [] a2]) := by simp only [ldV, hb', Option.bind_some]; rfl
    have d1 : ldV (h ++ []) (some 3) (.p id 3) = some (.ag [.s w2, .f (.func n3) [] a3, .f (.func n4) [] a4]) := by simp only [ldV, hb', Option.bind_some]; rfl
    have d2 : ldV (h ++ []) (some 3) (.p id 6) = some (.ag [.s w3, .f (.func n5) [] a5, .f (.func n6) [] a6]) := by simp only [ldV, hb', Option.bind_some]; rfl
    have hlen : lenV (.sl id 0 3 3 none) = some 3 := rfl
    simp only [KXL, JuQ, QbA, KI8, qi4, if_true, if_false, ↓reduceIte, Nat.reduceAdd, Nat.reduceSub, Nat.reduceLeDiff, Nat.reduceEqDiff, Nat.reduceMul, Nat.reduceLT, Int.reduceLT, Int.reduceLE, Int.reduceEq, CO.tmps, Opd.tmps, optT, Nat.reducePow, Nat.reduceDiv, Nat.reduceMod, hlen, decide_true, decide_false, ne_eq, not_false_eq_true, not_true_eq_false, false_implies, forall_const, and_true, true_and]
    refine Qxr (S := Nat) (fun i => 3 - i) (fun i => [.sl id 0 3 3 none, .f (.func 41) [] [.p b1 0, .p b2 0]] ++ tp 5 ++ [.i .i64 3, .i .i64 (i : Int)] ++ tp 10) (fun i => h ++ []) (fun i => i ≤ 3 ∧ (1 ≤ i → o ≠ some w1) ∧ (2 ≤ i → o ≠ some w2) ∧ (3 ≤ i → o ≠ some w3)) 0 ⟨by decide, fun z => absurd z (by decide), fun z => absurd z (by decide), fun z => absurd z (by decide)⟩ (Bt.wk (by simp only [QbA, qi4, if_true, if_false, reduceIte, Nat.reduceAdd, Nat.reduceSub, Nat.reduceLeDiff, Nat.reduceEqDiff, Nat.reduceMul, Nat.reduceLT, Int.reduceLT, Int.reduceLE, Int.reduceEq])) fun i hi => ?_
    obtain ⟨hi, i1, i2, i3⟩ := hi
    rcases (show i = 0 ∨ i = 1 ∨ i = 2 ∨ i = 3 by omega) with rfl | rfl | rfl | rfl
    ·have wn : IntKind.i64.wrap (0 + 1) = 1 := by decide
     have rn : Int.toNat 0 = 0 := rfl
     by_cases hw : o = some w1
     ·have hv : ixK o w1 w2 w3 = 0 := by
       unfold ixK
       rw [if_pos hw]
      rw [hv]
      simp only [QbA, KI8, qi4, if_true, if_false, ↓reduceIte, Nat.reduceAdd, Nat.reduceSub, Nat.reduceLeDiff, Nat.reduceEqDiff, Nat.reduceMul, Nat.reduceLT, Int.reduceLT, Int.reduceLE, Int.reduceEq, CO.tmps, Opd.tmps, optT, Nat.reducePow, Nat.reduceDiv, Nat.reduceMod, d0, d1, d2, YMi, m0, eq_true hw, rn, tn_0, tn_1, tn_2, Nat.mul_one, Nat.zero_add, Option.map_some, decide_true, decide_false, ne_eq, not_false_eq_true, not_true_eq_false, false_implies, forall_const, and_true, true_and]
      exact Bt.drop _ hh rfl rfl
     ·simp only [QbA, KI8, qi4, if_true, if_false, ↓reduceIte, Nat.reduceAdd, Nat.reduceSub, Nat.reduceLeDiff, Nat.reduceEqDiff, Nat.reduceMul, Nat.reduceLT, Int.reduceLT, Int.reduceLE, Int.reduceEq, CO.tmps, Opd.tmps, optT, Nat.reducePow, Nat.reduceDiv, Nat.reduceMod, d0, d1, d2, YMi, m0, eq_false hw, wn, rn, tn_0, tn_1, tn_2, Nat.mul_one, Nat.zero_add, Option.map_some, decide_true, decide_false, ne_eq, not_false_eq_true, not_true_eq_false, false_implies, forall_const, and_true, true_and]
      exact ⟨1, ⟨by decide, fun _ => trivial, fun z => absurd z (by decide), fun z => absurd z (by decide)⟩, by decide, Bt.wk (by simp only [QbA, qi4, if_true, if_false, reduceIte, Nat.reduceAdd, Nat.reduceSub, Nat.reduceLeDiff, Nat.reduceEqDiff, Nat.reduceMul, Nat.reduceLT, Int.reduceLT, Int.reduceLE, Int.reduceEq])⟩
    ·have wn : IntKind.i64.wrap (1 + 1) = 2 := by decide
     have rn : Int.toNat 1 = 1 := rfl
     by_cases hw : o = some w2
     ·have hv : ixK o w1 w2 w3 = 1 := by
       unfold ixK
       rw [if_neg (i1 (by decide)), if_pos hw]
      rw [hv]
      simp only [QbA, KI8, qi4, if_true, if_false, ↓reduceIte, Nat.reduceAdd, Nat.reduceSub, Nat.reduceLeDiff, Nat.reduceEqDiff, Nat.reduceMul, Nat.reduceLT, Int.reduceLT, Int.reduceLE, Int.reduceEq, CO.tmps, Opd.tmps, optT, Nat.reducePow, Nat.reduceDiv, Nat.reduceMod, d0, d1, d2, YMi, m0, eq_true hw, rn, tn_0, tn_1, tn_2, Nat.mul_one, Nat.zero_add, Option.map_some, decide_true, decide_false, ne_eq, not_false_eq_true, not_true_eq_false, false_implies, forall_const, and_true, true_and]
      exact Bt.drop _ hh rfl rfl
     ·simp only [QbA, KI8, qi4, if_true, if_false, ↓reduceIte, Nat.reduceAdd, Nat.reduceSub, Nat.reduceLeDiff, Nat.reduceEqDiff, Nat.reduceMul, Nat.reduceLT, Int.reduceLT, Int.reduceLE, Int.reduceEq, CO.tmps, Opd.tmps, optT, Nat.reducePow, Nat.reduceDiv, Nat.reduceMod, d0, d1, d2, YMi, m0, eq_false hw, wn, rn, tn_0, tn_1, tn_2, Nat.mul_one, Nat.zero_add, Option.map_some, decide_true, decide_false, ne_eq, not_false_eq_true, not_true_eq_false, false_implies, forall_const, and_true, true_and]
      exact ⟨2, ⟨by decide, fun _ => i1 (by decide), fun _ => trivial, fun z => absurd z (by decide)⟩, by decide, Bt.wk (by simp only [QbA, qi4, if_true, if_false, reduceIte, Nat.reduceAdd, Nat.reduceSub, Nat.reduceLeDiff, Nat.reduceEqDiff, Nat.reduceMul, Nat.reduceLT, Int.reduceLT, Int.reduceLE, Int.reduceEq])⟩
    ·have wn : IntKind.i64.wrap (2 + 1) = 3 := by decide
     have rn : Int.toNat 2 = 2 := rfl
     by_cases hw : o = some w3
     ·have hv : ixK o w1 w2 w3 = 2 := by
       unfold ixK
       rw [if_neg (i1 (by decide)), if_neg (i2 (by decide)), if_pos hw]
      rw [hv]
      simp only [QbA, KI8, qi4, if_true, if_false, ↓reduceIte, Nat.reduceAdd, Nat.reduceSub, Nat.reduceLeDiff, Nat.reduceEqDiff, Nat.reduceMul, Nat.reduceLT, Int.reduceLT, Int.reduceLE, Int.reduceEq, CO.tmps, Opd.tmps, optT, Nat.reducePow, Nat.reduceDiv, Nat.reduceMod, d0, d1, d2, YMi, m0, eq_true hw, rn, tn_0, tn_1, tn_2, Nat.mul_one, Nat.zero_add, Option.map_some, decide_true, decide_false, ne_eq, not_false_eq_true, not_true_eq_false, false_implies, forall_const, and_true, true_and]
      exact Bt.drop _ hh rfl rfl
     ·simp only [QbA, KI8, qi4, if_true, if_false, ↓reduceIte, Nat.reduceAdd, Nat.reduceSub, Nat.reduceLeDiff, Nat.reduceEqDiff, Nat.reduceMul, Nat.reduceLT, Int.reduceLT, Int.reduceLE, Int.reduceEq, CO.tmps, Opd.tmps, optT, Nat.reducePow, Nat.reduceDiv, Nat.reduceMod, d0, d1, d2, YMi, m0, eq_false hw, wn, rn, tn_0, tn_1, tn_2, Nat.mul_one, Nat.zero_add, Option.map_some, decide_true, decide_false, ne_eq, not_false_eq_true, not_true_eq_false, false_implies, forall_const, and_true, true_and]
      exact ⟨3, ⟨by decide, fun _ => i1 (by decide), fun _ => i2 (by decide), fun _ => trivial⟩, by decide, Bt.wk (by simp only [QbA, qi4, if_true, if_false, reduceIte, Nat.reduceAdd, Nat.reduceSub, Nat.reduceLeDiff, Nat.reduceEqDiff, Nat.reduceMul, Nat.reduceLT, Int.reduceLT, Int.reduceLE, Int.reduceEq])⟩
    ·have hv : ixK o w1 w2 w3 = -1 := by
      unfold ixK
      rw [if_neg (i1 (by decide)), if_neg (i2 (by decide)), if_neg (i3 (by decide))]
     rw [hv]
     simp only [QbA, KI8, qi4, if_true, if_false, ↓reduceIte, Nat.reduceAdd, Nat.reduceSub, Nat.reduceLeDiff, Nat.reduceEqDiff, Nat.reduceMul, Nat.reduceLT, Int.reduceLT, Int.reduceLE, Int.reduceEq, CO.tmps, Opd.tmps, optT, Nat.reducePow, Nat.reduceDiv, Nat.reduceMod, decide_true, decide_false, ne_eq, not_false_eq_true, not_true_eq_false, false_implies, forall_const, and_true, true_and]
     exact Bt.drop _ hh rfl rfl
   ·cases e
  ·cases e
 ·cases e
end Go.Proofs.Ytbcpcjofkfgjoaa
end
