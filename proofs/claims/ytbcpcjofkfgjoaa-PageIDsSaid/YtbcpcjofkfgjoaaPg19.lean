/- Part 19 of what the laws' proofs rest on. No condition. -/
import Derived.Shelf.Strings.OnBuilder
import Derived.Test.YtbcpcjofkfgjoaaPg18
set_option linter.all false
section
namespace Go.Proofs.Ytbcpcjofkfgjoaa
open Go.Shelf
def J9j : Go.Shelf.Ren := ⟨fun | 156 => 36 | 165 => 52 | 166 => 53 | 169 => 54 | 240 => 67 | 241 => 68 | 276 => 82 | 277 => 83 | n => n, fun | 31 => 22 | 9 => 9 | 3 => 3 | 4 => 4 | 0 => 0 | 20 => 20 | 72 => 79 | 76 => 83 | 70 => 76 | 37 => 77 | 75 => 82 | 127 => 94 | 164 => 112 | 5 => 5 | 80 => 85 | n => n, fun | n => n⟩
theorem Q3L : Go.Proofs.Lays.n156 Try.prog J9j := {
 mixed := by kernel_rfl
 f156 := Try.func36.trans (congrArg some (by kernel_rfl))
 f165 := Try.func52.trans (congrArg some (by kernel_rfl))
 f166 := Try.func53.trans (congrArg some (by kernel_rfl))
 f169 := Try.func54.trans (congrArg some (by kernel_rfl))
 f240 := Try.func67.trans (congrArg some (by kernel_rfl))
 f241 := Try.func68.trans (congrArg some (by kernel_rfl))
 f276 := Try.func82.trans (congrArg some (by kernel_rfl))
 f277 := Try.func83.trans (congrArg some (by kernel_rfl))
 t0 := Try.underlying0
 a0 := Try.isAgg0
 z0 := Try.sizeOf0
 v0 := Try.zeroValue0
 t3 := Try.underlying3
 a3 := Try.isAgg3
 z3 := Try.sizeOf3
 v3 := Try.zeroValue3
 t4 := Try.underlying4
 a4 := Try.isAgg4
 z4 := Try.sizeOf4
 v4 := Try.zeroValue4
 t9 := Try.underlying9
 a9 := Try.isAgg9
 z9 := Try.sizeOf9
 v9 := Try.zeroValue9
 t20 := Try.underlying20
 a20 := Try.isAgg20
 z20 := Try.sizeOf20
 v20 := Try.zeroValue20
 t31 := Try.underlying22
 a31 := Try.isAgg22
 z31 := Try.sizeOf22
 v31 := Try.zeroValue22
 t37 := Try.underlying77
 a37 := Try.isAgg77
 z37 := Try.sizeOf77
 v37 := Try.zeroValue77
 t70 := Try.underlying76
 a70 := Try.isAgg76
 z70 := Try.sizeOf76
 v70 := Try.zeroValue76
 t72 := Try.underlying79
 a72 := Try.isAgg79
 z72 := Try.sizeOf79
 v72 := Try.zeroValue79
 t75 := Try.underlying82
 a75 := Try.isAgg82
 z75 := Try.sizeOf82
 v75 := Try.zeroValue82
 t76 := Try.underlying83
 a76 := Try.isAgg83
 z76 := Try.sizeOf83
 v76 := Try.zeroValue83
 t127 := Try.underlying94
 a127 := Try.isAgg94
 z127 := Try.sizeOf94
 v127 := Try.zeroValue94
 t164 := Try.underlying112
 a164 := Try.isAgg112
 z164 := Try.sizeOf112
 v164 := Try.zeroValue112 }
theorem Xa6 : Builder.Extra Try.prog J9j := {
 sizeBuilder := by kernel_rfl
 liesBuilder := by kernel_rfl
 t5 := Try.underlying5
 a5 := Try.isAgg5
 z5 := Try.sizeOf5
 v5 := Try.zeroValue5
 infoByte := by kernel_rfl
 cellsByte := by kernel_rfl
 sizeByte := by kernel_rfl
 neB5 := by decide }
open Go.RowKit in
theorem QEa (bk o c : Nat) (xs : List ByteArray) (sep : ByteArray) (w : World) (hcells : ∀ (j : Nat) x, xs[j]? = some x → w.cell? ⟨bk, o + j, none⟩ = some (.string x)) (hbk : bk < w.heap.size) (hN : xs.length ≤ 140737488355328) (hcap : xs.length ≤ c) (hlen : (Lib.join (xs.map (·.data.toList)) sep.data.toList).length ≤ 140737488355328) :
  Calls Try.prog 36 #[.slice (some ⟨bk, o, none⟩) xs.length c, .string sep] w fun e w' => e = .returned (.string ⟨(Lib.join (xs.map (·.data.toList)) sep.data.toList).toArray⟩) ∧ Below w.heap.size w w' := Any.strings_Join Q3L Xa6 bk o c xs sep w hcells hbk hN hcap hlen
end Go.Proofs.Ytbcpcjofkfgjoaa
end
section
namespace Go.Proofs.Ytbcpcjofkfgjoaa
open Go.RowKit
theorem Rel.below {K : Code → CC → Prop} {ρ : Mp} {h : List AB} {w w' : World} (r : Rel K ρ h w) (b : Below w.heap.size w w') (hd : dr w ≤ dr w') : Rel K ρ h w' ∧ Eff ρ h w ρ h w' :=
  ⟨⟨r.len, fun i B bb o n h1 h2 => (r.blk i B bb o n h1 h2).same (Ext.refl _) fun hl => b.block bb ((r.blk i B bb o n h1 h2).lt hl), r.sep⟩,
   b.os, b.tape, ⟨b.output, hd⟩, b.size, fun k hk _ => b.block k hk, fun _ q => .inl q, fun _ _ q => .inl q⟩
def Jgr : List AV → Option (List (List UInt8))
 | [] => some []
 | .s l :: r => (Jgr r).map (l :: ·)
 | _ => none
theorem Qcz : ∀ (xs : List AV) (l : List (List UInt8)), Jgr xs = some l → l.length = xs.length ∧ ∀ (j : Nat) x, l[j]? = some x → xs[j]? = some (.s x)
 | [], l, e => by cases e; exact ⟨rfl, fun j x h => by simp at h⟩
 | .s a :: r, l, e => by
  simp only [Jgr] at e
  obtain ⟨m, hm, rfl⟩ := Option.map_eq_some_iff.1 e
  obtain ⟨h1, h2⟩ := Qcz r m hm
  refine ⟨by simp [h1], fun j x h => ?_⟩
  cases j with
  | zero => simp at h; simp [h]
  | succ j => simp at h ⊢; exact h2 j x h
 | .b _ :: _, _, e | .i _ _ :: _, _, e | .p _ _ :: _, _, e | .np :: _, _, e | .sl _ _ _ _ _ :: _, _, e | .se :: _, _, e | .ns :: _, _, e | .f _ _ _ :: _, _, e | .nf :: _, _, e | .ifc _ _ :: _, _, e | .ni :: _, _, e | .ag _ :: _, _, e | .tu _ :: _, _, e | .top :: _, _, e | .y _ :: _, _, e => by cases e
theorem Q8y {ρ : Mp} {id off len cap : Nat} {k : Option Nat} {v : Value} (e : VR ρ (.sl id off len cap k) v) (h : len ≠ 0) :
  ∃ b o n cap', ρ[id]? = some (b, o, n) ∧ v = .slice (some ⟨b, o + off, none⟩) len cap' ∧ len ≤ cap ∧ cap ≤ cap' ∧ cap' ≤ maxLen ∧ (∀ z, k = some z → z ≠ 0 → o + off + cap' * z ≤ n) := by
 cases e with
 | sl id off len cap k b o n cap' hρ h1 h2 h3 h4 h5 => exact ⟨b, o, n, cap', hρ, rfl, h1, h2, h3, h5⟩
 | sz id off a c hc hn => exact absurd rfl h
theorem KWj {ρ : Mp} {a b : AV} {vals : Array Value} (h : VL ρ [a, b] vals) : ∃ x y, vals = #[x, y] ∧ VR ρ a x ∧ VR ρ b y := by
 obtain ⟨hs, hv⟩ := h
 obtain ⟨l⟩ := vals
 match l, hs with
 | [x, y], _ => exact ⟨x, y, rfl, hv 0 a x rfl rfl, hv 1 b y rfl rfl⟩
theorem qfF {h : List AB} {id off n cap : Nat} {k : Option Nat} {fl mu : Bool} {xs : List AV} {l : List (List UInt8)} {sep : List UInt8} (h0 : n ≠ 0) (hb : h[id]? = some (.blk fl mu xs)) (hle : off + n ≤ xs.length)
  (hl : Jgr ((xs.drop off).take n) = some l) (hN : n ≤ 140737488355328) (hlen : (Lib.join l sep).length ≤ 140737488355328) :
  FnC Try.prog 36 [.sl id off n cap k, .s sep] h (.s (Lib.join l sep)) h := by
 refine ⟨⟨_, _, Try.func36, by decide, rfl⟩, fun ρ w vals hr hv => ?_⟩
 obtain ⟨v, f, rfl, hv1, hv2⟩ := KWj hv
 obtain ⟨b, o, m, cap', hρ, rfl, hlc, hcc, hcm, -⟩ := Q8y hv1 h0
 cases hv2 with
 | s sl bs hbs =>
 obtain ⟨hll, hget⟩ := Qcz _ _ hl
 have hll' : l.length = n := by rw [hll, List.length_take, List.length_drop]; omega
 have hB := hr.blk id _ b o m hb hρ
 obtain ⟨cs, e, fz, hheap, hm, hsz, hcells⟩ := hB
 have hblk : b < w.heap.size := (Array.getElem?_eq_some_iff.1 hheap).1
 have hmap : (l.map fun x => (⟨x.toArray⟩ : ByteArray)).map (·.data.toList) = l := by
  rw [List.map_map]
  exact (List.map_congr_left fun x _ => by simp).trans (List.map_id l)
 have hJ := QEa b (o + off) cap' (l.map fun x => (⟨x.toArray⟩ : ByteArray)) bs w (fun j x hx => by
  rw [List.getElem?_map] at hx
  obtain ⟨y, hy, rfl⟩ := Option.map_eq_some_iff.1 hx
  have h1 := hget j y hy
  have hj : j < n := by rw [← hll']; exact (List.getElem?_eq_some_iff.1 hy).1
  rw [List.getElem?_take, if_pos hj, List.getElem?_drop] at h1
  have hoj : o + (off + j) < cs.size := by omega
  have hv := hcells (off + j) _ _ h1 (Array.getElem?_eq_getElem hoj)
  unfold World.cell?
  simp only [hheap, Option.isSome_none, Bool.false_eq_true, if_false]
  rw [show o + off + j = o + (off + j) by omega, Array.getElem?_eq_getElem hoj]
  generalize cs[o + (off + j)] = u at hv
  cases hv with
  | s l' bs' h' =>
   congr 2
   apply ByteArray.ext
   rw [← h']) hblk (by simpa [hll'] using hN) (by simp [hll']; omega) (by rw [hmap, hbs]; exact hlen)
 rw [hmap, hbs, List.length_map, hll'] at hJ
 refine hJ.mono ?_
 rintro e' w' ⟨rfl, hbel⟩
 obtain ⟨r1, r2⟩ := hr.below hbel (Nat.le_refl _)
 exact ⟨_, ρ, rfl, .s _ _ (by simp), r1, r2.p (Ext.refl _) (by rw [hr.len]; exact Nat.le_refl _)⟩
def QSV (args : List AV) (g : GT) (_ : Nat) : Option (AV × HE) :=
 match args with
 | [.sl id off n _ _, .s sep] => match g id with
  | some (.blk _ _ xs) => match Nat.beq n 0 with
   | true => none
   | false => match Nat.ble (off + n) xs.length && Nat.ble n 1000 with
    | true => match Jgr ((xs.drop off).take n) with
     | some l => match Nat.ble (Lib.join l sep).length 140737488355328 with
      | true => some (.s (Lib.join l sep), .z)
      | false => none
     | none => none
    | false => none
  | _ => none
 | _ => none
theorem qIx : NvOk Try.prog 36 QSV := fun args g h v e hg q => by
 unfold QSV at q
 split at q
 ·rename_i id off n cap k sep
  split at q
  ·rename_i fl mu xs hB
   split at q
   ·cases q
   ·rename_i h0
    split at q
    ·rename_i h1
     split at q
     ·rename_i l hl
      split at q
      ·rename_i h2
       cases q
       rw [Bool.and_eq_true, Nat.ble_eq, Nat.ble_eq] at h1
       rw [Nat.ble_eq] at h2
       exact ⟨qfF (Nat.ne_of_beq_eq_false h0) (K0k (hg id) hB) h1.1 hl (by omega) h2, trivial⟩
      ·cases q
     ·cases q
    ·cases q
  ·cases q
 ·cases q
end Go.Proofs.Ytbcpcjofkfgjoaa
end
section
namespace Go.Proofs.Ytbcpcjofkfgjoaa
def tl0 : List (Option TC) := [none, none, none, none, none, some (.cf w5), none, none, none, none, none, some (.cf w11), none, some (.cf w13), none, some (.cf w15)]
theorem ta0 : AllN Try.prog 0 tl0 := (AllN.skip (AllN.skip (AllN.skip (AllN.skip (AllN.skip (AllN.cons Try.func5 sw5 (AllN.skip (AllN.skip (AllN.skip (AllN.skip (AllN.skip (AllN.cons Try.func11 sw11 (AllN.skip (AllN.cons Try.func13 sw13 (AllN.skip (AllN.cons Try.func15 sw15 trivial))))))))))))))))
def tl1 : List (Option TC) := [none, some (.cf w17), none, some (.cf w19), none, some (.cf w21), none, some (.cf w23), some (.cf w24), some (.cf w25), none, none, none, none, none, none]
theorem ta1 : AllN Try.prog 16 tl1 := (AllN.skip (AllN.cons Try.func17 sw17 (AllN.skip (AllN.cons Try.func19 sw19 (AllN.skip (AllN.cons Try.func21 sw21 (AllN.skip (AllN.cons Try.func23 sw23 (AllN.cons Try.func24 sw24 (AllN.cons Try.func25 sw25 (AllN.skip (AllN.skip (AllN.skip (AllN.skip (AllN.skip (AllN.skip trivial))))))))))))))))
def tl2 : List (Option TC) := [none, none, some (.cf w34), some (.cf w35), some (.nv QSV), some (.cf w37), none, some (.cf w39), some (.cf w40), some (.cf w41), some (.cf w42), none, none, none, none, none]
theorem ta2 : AllN Try.prog 32 tl2 := (AllN.skip (AllN.skip (AllN.cons Try.func34 sw34 (AllN.cons Try.func35 sw35 (AllN.nv qIx (AllN.cons Try.func37 sw37 (AllN.skip (AllN.cons Try.func39 sw39 (AllN.cons Try.func40 sw40 (AllN.cons Try.func41 sw41 (AllN.cons Try.func42 sw42 (AllN.skip (AllN.skip (AllN.skip (AllN.skip (AllN.skip trivial))))))))))))))))
def tl3 : List (Option TC) := [none, some (.cf w49), some (.cf w50), some (.cf w51), none, none, none, some (.cf w55), some (.cf w56), some (.cf w57), some (.cf w58), some (.cf w59), none, none, none, none]
theorem ta3 : AllN Try.prog 48 tl3 := (AllN.skip (AllN.cons Try.func49 sw49 (AllN.cons Try.func50 sw50 (AllN.cons Try.func51 sw51 (AllN.skip (AllN.skip (AllN.skip (AllN.cons Try.func55 sw55 (AllN.cons Try.func56 sw56 (AllN.cons Try.func57 sw57 (AllN.cons Try.func58 sw58 (AllN.cons Try.func59 sw59 (AllN.skip (AllN.skip (AllN.skip (AllN.skip trivial))))))))))))))))
def tl4 : List (Option TC) := [none, none, none, none, none, some (.cf w69), some (.cf w70), some (.cf w71), some (.cf w72), some (.cf w73), some (.cf w74), some (.cf w75), some (.cf w76), none, none, none]
theorem ta4 : AllN Try.prog 64 tl4 := (AllN.skip (AllN.skip (AllN.skip (AllN.skip (AllN.skip (AllN.cons Try.func69 sw69 (AllN.cons Try.func70 sw70 (AllN.cons Try.func71 sw71 (AllN.cons Try.func72 sw72 (AllN.cons Try.func73 sw73 (AllN.cons Try.func74 sw74 (AllN.cons Try.func75 sw75 (AllN.cons Try.func76 sw76 (AllN.skip (AllN.skip (AllN.skip trivial))))))))))))))))
def tl5 : List (Option TC) := [none, none, none, none, some (.cf w84), some (.cf w85), some (.cf w86), some (.cf w87), some (.cf w88), some (.cf w89), some (.cf w90), some (.cf w91), some (.cf w92), some (.cf w93), some (.cf w94), some (.cf w95)]
theorem ta5 : AllN Try.prog 80 tl5 := (AllN.skip (AllN.skip (AllN.skip (AllN.skip (AllN.cons Try.func84 sw84 (AllN.cons Try.func85 sw85 (AllN.cons Try.func86 sw86 (AllN.cons Try.func87 sw87 (AllN.cons Try.func88 sw88 (AllN.cons Try.func89 sw89 (AllN.cons Try.func90 sw90 (AllN.cons Try.func91 sw91 (AllN.cons Try.func92 sw92 (AllN.cons Try.func93 sw93 (AllN.cons Try.func94 sw94 (AllN.cons Try.func95 sw95 trivial))))))))))))))))
def tl6 : List (Option TC) := [some (.cf w96), none, some (.cf w98), some (.cf w99), some (.cf w100), none, none, none, none, none, none, none, none, none, none, none]
theorem ta6 : AllN Try.prog 96 tl6 := (AllN.cons Try.func96 sw96 (AllN.skip (AllN.cons Try.func98 sw98 (AllN.cons Try.func99 sw99 (AllN.cons Try.func100 QiW (AllN.skip (AllN.skip (AllN.skip (AllN.skip (AllN.skip (AllN.skip (AllN.skip (AllN.skip (AllN.skip (AllN.skip (AllN.skip trivial))))))))))))))))
def tls : List (List (Option TC)) := [tl0, tl1, tl2, tl3, tl4, tl5, tl6]
noncomputable def TT : TB := tabn tls
theorem JEL : ZS8 Try.prog TT := zJm tls (AllNs.cons ta0 (AllNs.cons ta1 (AllNs.cons ta2 (AllNs.cons ta3 (AllNs.cons ta4 (AllNs.cons ta5 (AllNs.cons ta6 trivial)))))))
end Go.Proofs.Ytbcpcjofkfgjoaa
end
section
namespace Go.Proofs.Ytbcpcjofkfgjoaa
theorem ct11 : runT TT 60 w11 = true := by kernel_rfl
theorem fc11 (h : List AB) : FnC Try.prog 11 [] h (.b true) h := FnC.closed (by kernel_rfl) JEL 60 11 (by kernel_rfl) ct11 h
end Go.Proofs.Ytbcpcjofkfgjoaa
end
section
namespace Go.Proofs.Ytbcpcjofkfgjoaa
set_option maxRecDepth 100000
set_option maxHeartbeats 4000000
theorem Xr4 {l : List (List UInt8)} (hr : risS l) (d : List UInt8) : JIC l d (decide (¬ d = [])) = Q9V d l := by
 by_cases hd : d = []
 ·subst hd
  unfold JIC Q9V
  exact (List.filter_eq_self.2 fun _ _ => decide_eq_true (.inl rfl)).symm
 ·unfold JIC
  rw [if_pos (decide_eq_true hd)]
  unfold posS bsS Q9V
  rw [YVR (cf := cmpB) (dv := []) ZtX (fun a b c => Zwh) (fun a b => Yfk) hr d]
  refine List.filter_congr fun x _ => ?_
  rw [decide_eq_decide]
  exact ⟨fun q => .inr q, fun q => q.resolve_left hd⟩
theorem QSt {α : Type} {r : Row α} {h : List AB} (L : List AB) (k : Nat) (l : List α) (e : ownR r l L k) (hl : l.length ≤ maxLen) : getS r (h ++ L) (apS r (h.length + k) l) = some l := by
 by_cases h0 : l.length = 0
 ·obtain rfl := List.eq_nil_of_length_eq_zero h0
  exact (show Rd r (h ++ L) .ns [] from ⟨rfl, Nat.zero_le _⟩).get
 ·rw [Kte _ h0]
  exact KqK L k l e hl
theorem QDs {α : Type} {r : Row α} {h L : List AB} {l : List α} {k : Nat} (hb : ownM r l L k) (hl : l.length ≤ 1000000) : KB9 r [rsl r (h.length + k) l] (h ++ L) = some (.tu [], h ++ JLX L k) := by
 have e1 := Kxz l L k hb
 have h1 : (h ++ L)[h.length + k]? = some (resB r true l) := by rw [ZgF]; exact e1
 have := Zuu h1 hl []
 rw [List.append_nil, List.append_nil] at this
 rw [this, Xs8, Kff]
def KnP : List AV → List AB → Option (AV × List AB)
 | [], h => some (.b true, h)
 | _, _ => none
theorem qJN : Spec Try.prog 11 KnP := by
 intro args h v h' e
 unfold KnP at e
 split at e
 ·cases e
  exact fc11 h
 ·cases e
theorem Jia {h : List AB} (hz : h.map AB.freeze = h) {s : AV} {l : List (List UInt8)} (hs : Rd strR h s l) (d : List UInt8) (m : Int) :
  FnAt Try.prog 3 [s, .s d, .i .i64 m] h (.b true) h := by
 refine FnAt.run (by kernel_rfl) (T := ⟨[⟨11, KnP, fun _ => []⟩, ⟨10, JZx, fun _ => []⟩, ⟨12, YRg, fun _ => []⟩, ⟨13, X7U, fun _ => []⟩, ⟨14, QsM, fun _ => []⟩, ⟨15, XXK, fun _ => []⟩, ⟨16, KB9 strR, fun _ => []⟩], []⟩) ⟨⟨qJN, Y0D, QIh, KHO, qpG, YXo, JRL, trivial⟩, trivial⟩ Try.func3 sw3 fun ho hh => ?_
 simp only [Qlf, Bool.and_eq_true] at ho
 have f1 := hs.fx ho.1 (sz := 1) rfl
 unfold w3
 by_cases hL : (130 : Int) < l.length ∨ ∃ x ∈ l, (60 : Int) < (x.length : Int)
 ·have g1 := eq_true hL
  simp only [QZz, KkX, KtL, KED, Kg0, simprocAttr, CO.tmps, Opd.tmps, optT, Nat.reducePow, Nat.reduceDiv, Nat.reduceMod, f1, JZx, KnP, g1]
  exact Bt.dropB _ hh rfl
 have g1 := eq_false hL
 have hl : l.length ≤ 130 := by
  have := fun q => hL (.inl q)
  omega
 by_cases hL' : (60 : Int) < (d.length : Int)
 ·have g2 := eq_true hL'
  simp only [QZz, KkX, KtL, KED, Kg0, simprocAttr, CO.tmps, Opd.tmps, optT, Nat.reducePow, Nat.reduceDiv, Nat.reduceMod, f1, JZx, KnP, g1, g2, XBC, QwU]
  exact Bt.dropB _ hh rfl
 have g2 := eq_false hL'
 have l1 : (l.length ≤ 1000000) = True := eq_true (by omega)
 by_cases c1 : m < 1 ∨ 100 < m
 ·have c1' := eq_true c1
  simp only [QZz, KkX, KtL, KED, Kg0, simprocAttr, CO.tmps, Opd.tmps, optT, Nat.reducePow, Nat.reduceDiv, Nat.reduceMod, f1, JZx, KnP, YRg, X7U, QsM, Q7B, XXK, JF0, g1, g2, l1, c1', XBC, QwU, qhS, beq_self_eq_true, Ja7 hh, YNX hz, zzR hz, QDS hz]
  exact Bt.dropB _ hh rfl
 have c1' := eq_false c1
 by_cases c2 : risS l
 ·have c2' := eq_true c2
  have hk := Xr4 c2 d
  have ln : (Q9V d l).length ≤ l.length := List.length_filter_le _ _
  have l2 : ((List.take m.toNat (Q9V d l)).length ≤ 1000000) = True := eq_true (by rw [List.length_take]; omega)
  have l3 : ((List.take m.toNat (Q9V d l)).length ≤ maxLen) = True := eq_true (by rw [List.length_take]; unfold maxLen; omega)
  simp only [QZz, KkX, KtL, KED, Kg0, simprocAttr, CO.tmps, Opd.tmps, optT, Nat.reducePow, Nat.reduceDiv, Nat.reduceMod, f1, JZx, KnP, YRg, X7U, QsM, Q7B, XXK, QDs, QSt, g1, g2, l1, c1', c2', hk, l2, l3, ne_eq, not_true_eq_false, XBC, QwU, qhS, beq_self_eq_true, Ja7 hh, YNX hz, zzR hz, QDS hz]
  exact Bt.dropB _ hh rfl
 ·have c2' := eq_false c2
  simp only [QZz, KkX, KtL, KED, Kg0, simprocAttr, CO.tmps, Opd.tmps, optT, Nat.reducePow, Nat.reduceDiv, Nat.reduceMod, f1, JZx, KnP, YRg, X7U, QsM, Q7B, XXK, JF0, g1, g2, l1, c1', c2', ne_eq, not_false_eq_true, XBC, QwU, qhS, beq_self_eq_true, Ja7 hh, YNX hz, zzR hz, QDS hz]
  exact Bt.dropB _ hh rfl
end Go.Proofs.Ytbcpcjofkfgjoaa
end
section
namespace Go.Proofs.Ytbcpcjofkfgjoaa
set_option maxRecDepth 100000
set_option maxHeartbeats 4000000
theorem qc0 : idR.d = YBZ := _root_.id rfl
noncomputable def QEv : List AV → List AB → Option (AV × List AB)
 | [a], h => (getS idR h a).bind fun xs => if xs.length ≤ 1000000 then some (rsl idR h.length xs, h ++ [resB idR true xs]) else none
 | _, _ => none
theorem zH7 (h : List AB) (xs : List Dg) (h0 : xs.length = 0) : FnC Try.prog 64 [.se] h (rsl idR h.length xs) (h ++ [resB idR true xs]) := by
 refine FnAt.c (FnAt.run (by kernel_rfl) (T := ⟨[], []⟩) ⟨trivial, trivial⟩ Try.func64 sw64 fun ho hh => ?_)
 have fs : ∀ x : List AB, srcV (h ++ x) 32 .se = some (0, []) := fun _ => rfl
 unfold w64
 simp only [QZz, KkX, KtL, Kg0, simprocAttr, fs]
 exact Bt.one 0 hh (fun _ => Wk.empty _ _ _ _ _ _) (by simp) (fun h => absurd h0 h)
theorem KLn (h : List AB) (xs : List Dg) (h0 : xs.length = 0) : FnC Try.prog 64 [.ns] h (rsl idR h.length xs) (h ++ [resB idR true xs]) := by
 refine FnAt.c (FnAt.run (by kernel_rfl) (T := ⟨[], []⟩) ⟨trivial, trivial⟩ Try.func64 sw64 fun ho hh => ?_)
 unfold w64
 simp only [QZz, KkX, KtL, Kg0, simprocAttr]
 exact Bt.one0 h0 (Wk.nil _ _)
theorem XaP : Spec Try.prog 64 QEv := by
 intro args h v h' e
 unfold QEv at e
 split at e
 ·rename_i a
  obtain ⟨xs, ha, e⟩ := Yc7 e
  split at e
  ·rename_i hl
   cases e
   by_cases hk : ∃ id off cap, a = .sl id off 0 cap (some 0)
   ·obtain ⟨id, off, cap, rfl⟩ := hk
    have h0 : xs.length = 0 := by have := ha.len; simp only [lenV, Option.some.injEq] at this; omega
    exact FnC.empty1 (KLn h xs h0) (zH7 h xs h0)
   have hs := ha.isSl
   have hlen := ha.len
   cases a <;> first | (cases hs; done) | skip
   ·rename_i id off len cap k
    have hq : KML (.sl id off len cap k) .ns = some false := by
     rw [YWv, if_neg]
     rintro ⟨rfl, rfl⟩
     exact hk ⟨_, _, _, rfl⟩
    refine FnAt.c (FnAt.run (by kernel_rfl) (T := ⟨[], []⟩) ⟨trivial, trivial⟩ Try.func64 sw64 fun ho hh => ?_)
    simp only [Qlf, Bool.and_eq_true] at ho
    have fa := ha.fx ho.1 (sz := 32) rfl
    have fs := ha.src (sz := 32) rfl
    unfold w64
    by_cases h0 : xs.length = 0
    ·simp only [QZz, KkX, KtL, Kg0, simprocAttr, fa, fs, h0, hq, zrf]
     exact Bt.one 0 hh (fun _ => Wk.empty _ _ _ _ _ _) (by simp) (fun h => absurd h0 h)
    ·simp only [QZz, KkX, KtL, Kg0, simprocAttr, fa, fs, h0, hq, zrf]
     exact ⟨⟨by omega, by unfold maxLen; omega⟩, Bt.one 1 hh (fun h => absurd h h0) (by simp) (fun _ => ⟨rfl, rfl⟩)⟩
   ·exact zH7 h xs (by simp only [lenV, Option.some.injEq] at hlen; omega)
   ·exact KLn h xs (by simp only [lenV, Option.some.injEq] at hlen; omega)
  ·cases e
 ·cases e
def bsD (l : List Dg) (d : Dg) : Nat := bsG cmpG YBZ l d 0 l.length
noncomputable def Yrz : List AV → List AB → Option (AV × List AB)
 | [s, a, .f (.func 47) [] []], h => (getS idR h s).bind fun l => (getI a).bind fun d =>
   if l.length ≤ 1000000 then some (.tu [.i .i64 (bsD l d), .b (decide (bsD l d < l.length ∧ cmpG (l.getD (bsD l d) YBZ) d = 0))], h) else none
 | _, _ => none
theorem KAh : Spec Try.prog 63 Yrz := by
 intro args h v h' e
 unfold Yrz at e
 split at e
 ·rename_i s a
  obtain ⟨l, hs, e⟩ := Yc7 e
  obtain ⟨d, hd, e2⟩ := qe3 e
  subst hd
  split at e2
  ·rename_i hl
   cases e2
   refine FnAt.c (FnAt.frz0 fun hz => ?_)
   replace hs := hs.frz
   generalize h.map AB.freeze = h at *
   refine (FnAt.run (by kernel_rfl) (T := ⟨[⟨47, Zns, fun _ => []⟩], []⟩) ⟨⟨XUj, trivial⟩, trivial⟩ Try.func63 sw63 fun ho hh => ?_)
   simp only [Qlf, Bool.and_eq_true] at ho
   have f1 := hs.fx ho.1 (sz := 32) rfl
   unfold w63
   simp only [QZz, KkX, KtL, KED, Kg0, simprocAttr, CO.tmps, Opd.tmps, optT, Nat.reducePow, Nat.reduceDiv, Nat.reduceMod, f1, zAC, qQz]
   refine ZiF (S := Nat × Nat) (fun x => x.2 - x.1) (fun x => [s] ++ tp 1 ++ [.f (.func 47) [] []] ++ tp 1 ++ [.p (h.length + 0) 0] ++ tp 3 ++ [.i .i64 l.length, .i .i64 x.1, .i .i64 x.2] ++ tp 38) (fun x => x.1 ≤ x.2 ∧ x.2 ≤ l.length ∧ bsG cmpG YBZ l d x.1 x.2 = bsD l d) (0, l.length) ⟨Nat.zero_le _, Nat.le_refl _, rfl⟩ (by simp only [KtL, Kg0, simprocAttr]) fun x hx => ?_
   obtain ⟨lo, hi⟩ := x
   obtain ⟨x1, x2, x3⟩ := hx
   dsimp only at x1 x2 x3
   by_cases g : lo < hi
   ·have hm : (lo + hi) / 2 < l.length := by omega
    have e1 : IntKind.i64.wrap ((lo : Int) + (hi : Int)) = ((lo + hi : Nat) : Int) := qfU (by unfold In64; omega)
    have e2 : IntKind.u64.wrap ((lo + hi : Nat) : Int) = ((lo + hi : Nat) : Int) := by
     have : ((lo + hi : Nat) : Int) % 18446744073709551616 = ((lo + hi : Nat) : Int) := Int.emod_eq_of_lt (by omega) (by omega)
     exact this
    have e3 : ∀ k', binV .shr (.i .u64 ((lo + hi : Nat) : Int)) (.i k' 1) = some (.i .u64 (((lo + hi) / 2 : Nat) : Int)) := fun k' => by
     show (if (1 : Int) < 0 then none else some (AV.i .u64 (Int.fdiv ((lo + hi : Nat) : Int) (2 ^ (min (1 : Int).toNat IntKind.u64.bits))))) = _
     rw [if_neg (by decide), show ((2 : Int) ^ (min (1 : Int).toNat IntKind.u64.bits)) = 2 from by decide, Int.fdiv_eq_ediv_of_nonneg _ (by decide)]
     rfl
    have e4 : IntKind.i64.wrap (((lo + hi) / 2 : Nat) : Int) = (((lo + hi) / 2 : Nat) : Int) := qfU (by unfold In64; omega)
    have e5 : IntKind.i64.wrap ((((lo + hi) / 2 : Nat) : Int) + 1) = (((lo + hi) / 2 + 1 : Nat) : Int) := qfU (by unfold In64; omega)
    have e6 : ∀ k x, (AV.i k x).int? = some x := fun _ _ => rfl
    simp only [KtL, KED, Kg0, simprocAttr, CO.tmps, Opd.tmps, optT, Nat.reducePow, Nat.reduceDiv, Nat.reduceMod, f1, qQz, qsh, JGP, Ja7 hh, YNX hz, zzR hz, QDS hz, g, hm, e1, e2, e3, e4, e5, e6, qc0, qnv, Option.bind_some, Zns, Nat.zero_lt_one, false_implies, forall_const, and_true, true_and, not_true_eq_false, not_false_eq_true, XHZ]
    have x4 : ∀ (_ : True), bsG cmpG YBZ l d lo hi = if cmpG (l.getD ((lo + hi) / 2) YBZ) d < 0 then bsG cmpG YBZ l d ((lo + hi) / 2 + 1) hi else bsG cmpG YBZ l d lo ((lo + hi) / 2) := fun _ => by rw [bsG, if_pos g]
    refine ⟨fun q => ⟨((lo + hi) / 2 + 1, hi), ⟨by dsimp only; omega, x2, ?_⟩, by dsimp only; omega, Wk.refl _, Wk.refl _⟩, fun q => ⟨(lo, (lo + hi) / 2), ⟨by dsimp only; omega, by dsimp only; omega, ?_⟩, by dsimp only; omega, Wk.refl _, Wk.refl _⟩⟩
    ·rw [← x3, x4 trivial, if_pos q]
    ·rw [← x3, x4 trivial, if_neg q]
   ·obtain rfl : lo = hi := by omega
    have x4 : bsD l d = lo := by rw [← x3, bsG, if_neg (Nat.lt_irrefl _)]
    by_cases g2 : lo < l.length
    ·simp only [KtL, KED, Kg0, simprocAttr, CO.tmps, Opd.tmps, optT, Nat.reducePow, Nat.reduceDiv, Nat.reduceMod, f1, qQz, qsh, JGP, Ja7 hh, YNX hz, zzR hz, QDS hz, g, g2, x4, qc0, qnv, Option.bind_some, Zns, Nat.zero_lt_one, false_implies, forall_const, and_true, true_and, not_true_eq_false, not_false_eq_true, XHZ]
     exact Bt.drop _ hh rfl rfl
    ·simp only [KtL, KED, Kg0, simprocAttr, CO.tmps, Opd.tmps, optT, Nat.reducePow, Nat.reduceDiv, Nat.reduceMod, f1, qQz, qsh, JGP, Ja7 hh, YNX hz, zzR hz, QDS hz, g, g2, x4, qc0, qnv, Option.bind_some, Zns, Nat.zero_lt_one, false_implies, forall_const, and_true, true_and, not_true_eq_false, not_false_eq_true, XHZ]
     exact Bt.drop _ hh rfl rfl
  ·cases e2
 ·cases e
def risD (l : List Dg) : Prop := ∀ j, j + 1 < l.length → KVT (l.getD j YBZ) (l.getD (j + 1) YBZ)
def posD (l : List Dg) (d : Dg) : Nat := if bsD l d < l.length ∧ cmpG (l.getD (bsD l d) YBZ) d = 0 then bsD l d + 1 else bsD l d
theorem QYh (l : List Dg) (d : Dg) : posD l d ≤ l.length := by
 have := Y9u cmpG YBZ l d 0 l.length (Nat.zero_le _)
 unfold posD bsD at *
 split <;> omega
def XUo (l : List Dg) (d : Dg) (b : Bool) : List Dg := if b = true then l.drop (posD l d) else l
open Classical in
noncomputable def JSG : List AV → List AB → Option (AV × List AB)
 | [s, .f (.func 47) [] [], a, .b b, .i .i64 m], h => (getS idR h s).bind fun l => (getI a).bind fun d => if l.length ≤ 1000000 ∧ s.capOk = true then
   (if m < 1 ∨ 100 < m then some (.tu [.ns, .b false, .i .i64 3], h)
   else if ¬ risD l then some (.tu [.ns, .b false, .i .i64 25], h)
   else some (.tu [rsl idR h.length ((XUo l d b).take m.toNat), .b (decide (m < ((XUo l d b).length : Int))), .i .i64 0], h ++ [resB idR true ((XUo l d b).take m.toNat)]))
  else none
 | _, _ => none
theorem Q6h {l : List Dg} {i : Nat} (h1 : 0 < i) (h2 : i < l.length) (h3 : ¬ KVT (l.getD (i - 1) YBZ) (l.getD i YBZ)) : ¬ risD l := fun r => h3 (by
 have := r (i - 1) (by omega)
 rwa [show i - 1 + 1 = i by omega] at this)
open Classical in
noncomputable def Zn8 (n : Nat) (l : List Dg) (d : Dg) (b : Bool) (m : Int) : AV × List AB :=
 if m < 1 ∨ 100 < m then (.tu [.ns, .b false, .i .i64 3], [])
 else if ¬ risD l then (.tu [.ns, .b false, .i .i64 25], [])
 else (.tu [rsl idR n ((XUo l d b).take m.toNat), .b (decide (m < ((XUo l d b).length : Int))), .i .i64 0], [resB idR true ((XUo l d b).take m.toNat)])
theorem qMg {h : List AB} (hz : h.map AB.freeze = h) {s : AV} {l : List Dg} {d : Dg} {b : Bool} {m : Int} (hs : Rd idR h s l) (hl : l.length ≤ 1000000) (hc : s.capOk = true) {v : AV} {N h2 : List AB} (ev : Zn8 h.length l d b m = (v, N)) (e2 : h2 = h ++ N) :
  FnAt Try.prog 46 [s, .f (.func 47) [] [], .ag (idR.f d), .b b, .i .i64 m] h v h2 := by
 unfold Zn8 at ev
 refine FnAt.run (by kernel_rfl) (T := ⟨[⟨47, Zns, fun _ => []⟩, ⟨63, Yrz, fun _ => []⟩, ⟨64, QEv, fun _ => []⟩], []⟩) ⟨⟨XUj, KAh, XaP, trivial⟩, trivial⟩ Try.func46 sw46 fun ho hh => ?_
 simp only [Qlf, Bool.and_eq_true] at ho
 have f1 := hs.fx ho.1 (sz := 32) rfl
 unfold w46
 by_cases g1 : m < 1
 ·have g1' := eq_true g1
  rw [if_pos (.inl g1)] at ev
  cases ev
  rw [List.append_nil] at e2
  subst e2
  simp only [QZz, KkX, KtL, KED, Kg0, simprocAttr, CO.tmps, Opd.tmps, optT, Nat.reducePow, Nat.reduceDiv, Nat.reduceMod, zAC, qQz, f1, g1', false_implies, forall_const, and_true, true_and, not_true_eq_false, not_false_eq_true, XHZ]
  exact Bt.drop _ hh rfl rfl
 by_cases g2 : 100 < m
 ·have g1' := eq_false g1
  have g2' := eq_true g2
  rw [if_pos (.inr g2)] at ev
  cases ev
  rw [List.append_nil] at e2
  subst e2
  simp only [QZz, KkX, KtL, KED, Kg0, simprocAttr, CO.tmps, Opd.tmps, optT, Nat.reducePow, Nat.reduceDiv, Nat.reduceMod, zAC, qQz, f1, g1', g2', false_implies, forall_const, and_true, true_and, not_true_eq_false, not_false_eq_true, XHZ]
  exact Bt.drop _ hh rfl rfl
 have g1' := eq_false g1
 have g2' := eq_false g2
 simp only [QZz, KkX, KtL, KED, Kg0, simprocAttr, CO.tmps, Opd.tmps, optT, Nat.reducePow, Nat.reduceDiv, Nat.reduceMod, zAC, qQz, f1, g1', g2', false_implies, forall_const, and_true, true_and, not_true_eq_false, not_false_eq_true, XHZ]
 refine ZiF (S := Nat) (fun i => l.length - i) (fun i => [s, .f (.func 47) [] []] ++ tp 1 ++ [.b b, .i .i64 m] ++ tp 2 ++ [.p (h.length + 0) 0] ++ tp 15 ++ [.i .i64 l.length, .i .i64 i] ++ tp 44) (fun i => i ≤ l.length ∧ ∀ j, j + 1 < i → KVT (l.getD j YBZ) (l.getD (j + 1) YBZ)) 0 ⟨Nat.zero_le _, fun j hj => by omega⟩ (by simp only [KtL, Kg0, simprocAttr]) fun i hi => ?_
 obtain ⟨i1, i2⟩ := hi
 by_cases g3 : i < l.length
 ·have e1 : IntKind.i64.wrap ((i : Int) + 1) = ((i + 1 : Nat) : Int) := qfU (by unfold In64; omega)
  by_cases g4 : 0 < i
  ·have e2 : IntKind.i64.wrap ((i : Int) - 1) = ((i - 1 : Nat) : Int) := by rw [qfU (by unfold In64; omega)]; omega
   have g5 : i - 1 < l.length := by omega
   have g4' : ((0 : Int) < (i : Int)) = True := eq_true (by omega)
   by_cases g6 : KVT (l.getD (i - 1) YBZ) (l.getD i YBZ)
   ·have g6' : (0 ≤ cmpG (l.getD (i - 1) YBZ) (l.getD i YBZ)) = False := eq_false (by unfold KVT at g6; omega)
    simp only [KtL, KED, Kg0, simprocAttr, CO.tmps, Opd.tmps, optT, Nat.reducePow, Nat.reduceDiv, Nat.reduceMod, f1, g3, g4', g5, e1, e2, g6', qc0, qnv, Option.bind_some, Zns, qQz, qsh, zAC, JGP, Nat.zero_lt_one, Ja7 hh, YNX hz, zzR hz, QDS hz, false_implies, forall_const, and_true, true_and, not_true_eq_false, not_false_eq_true, XHZ]
    refine ⟨i + 1, ⟨by omega, fun j hj => ?_⟩, by omega, Wk.refl _⟩
    by_cases hji : j + 1 = i
    ·obtain rfl : j = i - 1 := by omega
     rwa [show i - 1 + 1 = i by omega]
    ·exact i2 j (by omega)
   ·have g6' : (0 ≤ cmpG (l.getD (i - 1) YBZ) (l.getD i YBZ)) = True := eq_true (by unfold KVT at g6; omega)
    simp only [KtL, KED, Kg0, simprocAttr, CO.tmps, Opd.tmps, optT, Nat.reducePow, Nat.reduceDiv, Nat.reduceMod, f1, g3, g4', g5, e1, e2, g6', qc0, qnv, Option.bind_some, Zns, qQz, qsh, zAC, JGP, Nat.zero_lt_one, Ja7 hh, YNX hz, zzR hz, QDS hz, false_implies, forall_const, and_true, true_and, not_true_eq_false, not_false_eq_true, XHZ]
    rw [if_neg (fun q => q.elim g1 g2), if_pos (Q6h g4 g3 g6)] at ev
    cases ev
    rw [List.append_nil] at e2
    subst e2
    exact Bt.drop _ hh rfl rfl
  ·obtain rfl : i = 0 := by omega
   have g3' : ((0 : Int) < (l.length : Int)) = True := eq_true (by omega)
   have e1' : IntKind.i64.wrap ((0 : Int) + 1) = ((0 + 1 : Nat) : Int) := rfl
   simp only [KtL, KED, Kg0, simprocAttr, CO.tmps, Opd.tmps, optT, Nat.reducePow, Nat.reduceDiv, Nat.reduceMod, f1, g3, g3', e1', qc0, qnv, Option.bind_some, Zns, qQz, qsh, zAC, JGP, Nat.zero_lt_one, Ja7 hh, YNX hz, zzR hz, QDS hz, Int.natCast_zero, Int.lt_irrefl, false_implies, forall_const, and_true, true_and, not_true_eq_false, not_false_eq_true, XHZ]
   refine ⟨0 + 1, ⟨by omega, fun j hj => by omega⟩, by omega, Wk.refl _⟩
 ·have hr : risD l := fun j hj => i2 j (by omega)
  have g3' : ((i : Int) < (l.length : Int)) = False := eq_false (by omega)
  rw [if_neg (fun q => q.elim g1 g2), if_neg (fun q => q hr)] at ev
  cases ev
  subst e2
  cases b with
  | false =>
   rw [show XUo l d false = l from rfl]
   obtain ⟨s2, t1, t2, t3⟩ := hs.takeS hc (i := min l.length m.toNat) (Nat.min_le_left _ _) (sz := 32) rfl
   rw [zSL] at t2
   have f2 := t2.fx (t3 _ ho.1) (sz := 32) rfl
   have e5 := minM l.length m (by omega)
   simp only [KtL, KED, Kg0, simprocAttr, CO.tmps, Opd.tmps, optT, Nat.reducePow, Nat.reduceDiv, Nat.reduceMod, f1, f2, g3, g3', t1, e5, QEv, qQz, qsh, zAC, JGP, Nat.zero_lt_one, Ja7 hh, YNX hz, zzR hz, QDS hz, false_implies, forall_const, and_true, true_and, not_true_eq_false, not_false_eq_true, XHZ]
   refine ⟨by rw [List.length_take]; omega, ?_⟩
   exact Bt.sel [1] hh (by decide) (by simp only [JsM, FrSel, BlkSel, AV.ren, renL, AV.ok, okL, Option.some.injEq, exists_eq_left', List.length_cons, List.length_nil, Nat.reduceAdd, Nat.reduceLT, reduceCtorEq, implies_true, exists_eq']) (by simp only [JsM, FrSel, BlkSel, AV.ren, renL, AV.ok, okL, Option.some.injEq, exists_eq_left', List.length_cons, List.length_nil, Nat.reduceAdd, Nat.reduceLT, reduceCtorEq, implies_true, exists_eq'])
  | true =>
   have er : XUo l d true = l.drop (posD l d) := rfl
   rw [er]
   have hp := QYh l d
   obtain ⟨s1, u1, u2, u3⟩ := hs.dropS hc (i := posD l d) hp (sz := 32) rfl
   have hc1 := qK5 hc u1
   have f3 := u2.fx (u3 _ ho.1) (sz := 32) rfl
   obtain ⟨s2, t1, t2, t3⟩ := u2.takeS hc1 (i := min (l.drop (posD l d)).length m.toNat) (Nat.min_le_left _ _) (sz := 32) rfl
   rw [zSL] at t2
   have f2 := t2.fx (t3 _ (u3 _ ho.1)) (sz := 32) rfl
   have e5 := minM (l.drop (posD l d)).length m (by omega)
   have hbl : bsD l d ≤ l.length := Y9u cmpG YBZ l d 0 l.length (Nat.zero_le _)
   by_cases gp : bsD l d < l.length ∧ cmpG (l.getD (bsD l d) YBZ) d = 0
   ·have gp' := eq_true gp
    have ep : posD l d = bsD l d + 1 := by unfold posD; rw [if_pos gp]
    have e1 : IntKind.i64.wrap ((bsD l d : Int) + 1) = ((posD l d : Nat) : Int) := by rw [qfU (by unfold In64; omega)]; omega
    generalize posD l d = p at *
    simp only [KtL, KED, Kg0, simprocAttr, CO.tmps, Opd.tmps, optT, Nat.reducePow, Nat.reduceDiv, Nat.reduceMod, f1, f2, f3, g3, g3', gp', e1, t1, u1, e5, QEv, Yrz, qc0, qnv, Option.bind_some, hl, qQz, qsh, zAC, JGP, Nat.zero_lt_one, Ja7 hh, YNX hz, zzR hz, QDS hz, decide_true, false_implies, forall_const, and_true, true_and, not_true_eq_false, not_false_eq_true, XHZ]
    refine ⟨by rw [List.length_take, List.length_drop]; omega, ?_⟩
    exact Bt.sel [1] hh (by decide) (by simp only [JsM, FrSel, BlkSel, AV.ren, renL, AV.ok, okL, Option.some.injEq, exists_eq_left', List.length_cons, List.length_nil, Nat.reduceAdd, Nat.reduceLT, reduceCtorEq, implies_true, exists_eq']) (by simp only [JsM, FrSel, BlkSel, AV.ren, renL, AV.ok, okL, Option.some.injEq, exists_eq_left', List.length_cons, List.length_nil, Nat.reduceAdd, Nat.reduceLT, reduceCtorEq, implies_true, exists_eq'])
   ·have gp' := eq_false gp
    have ep : posD l d = bsD l d := by unfold posD; rw [if_neg gp]
    have u1' : slL 32 s (some (.i .i64 ((bsD l d : Nat) : Int))) none none = some s1 := by rw [← ep]; exact u1
    simp only [KtL, KED, Kg0, simprocAttr, CO.tmps, Opd.tmps, optT, Nat.reducePow, Nat.reduceDiv, Nat.reduceMod, f1, f2, f3, g3, g3', gp', t1, u1', e5, QEv, Yrz, qc0, qnv, Option.bind_some, hl, qQz, qsh, zAC, JGP, Nat.zero_lt_one, Ja7 hh, YNX hz, zzR hz, QDS hz, decide_false, false_implies, forall_const, and_true, true_and, not_true_eq_false, not_false_eq_true, XHZ]
    refine ⟨by rw [List.length_take, List.length_drop]; omega, ?_⟩
    exact Bt.sel [1] hh (by decide) (by simp only [JsM, FrSel, BlkSel, AV.ren, renL, AV.ok, okL, Option.some.injEq, exists_eq_left', List.length_cons, List.length_nil, Nat.reduceAdd, Nat.reduceLT, reduceCtorEq, implies_true, exists_eq']) (by simp only [JsM, FrSel, BlkSel, AV.ren, renL, AV.ok, okL, Option.some.injEq, exists_eq_left', List.length_cons, List.length_nil, Nat.reduceAdd, Nat.reduceLT, reduceCtorEq, implies_true, exists_eq'])
theorem YdN : Spec Try.prog 46 JSG := by
 intro args h v h' e
 unfold JSG at e
 split at e
 ·rename_i s a b m
  obtain ⟨l, hs, e⟩ := Yc7 e
  obtain ⟨d, hd, e2⟩ := qe3 e
  subst hd
  split at e2
  ·rename_i hl
   obtain ⟨hl, hc⟩ := hl
   by_cases g1 : m < 1 ∨ 100 < m
   ·rw [if_pos g1] at e2
    cases e2
    exact FnAt.c (FnAt.frz0 fun hz => qMg hz hs.frz hl hc (by unfold Zn8; rw [if_pos g1]) (List.append_nil _).symm)
   rw [if_neg g1] at e2
   by_cases g2 : risD l
   ·rw [if_neg (fun q => q g2)] at e2
    cases e2
    refine FnAt.c (FnAt.frz fun hz => qMg hz hs.frz hl hc ?_ rfl)
    unfold Zn8
    rw [if_neg g1, if_neg (fun q => q g2), List.length_map]
   ·rw [if_pos g2] at e2
    cases e2
    exact FnAt.c (FnAt.frz0 fun hz => qMg hz hs.frz hl hc (by unfold Zn8; rw [if_neg g1, if_pos g2]) (List.append_nil _).symm)
  ·cases e2
 ·cases e
end Go.Proofs.Ytbcpcjofkfgjoaa
end
section
namespace Go.Proofs.Ytbcpcjofkfgjoaa
set_option maxRecDepth 100000
set_option maxHeartbeats 4000000
theorem zeX : ∀ (i : Nat) (l m : List UInt8), i ≤ l.length → i ≤ m.length → l.take i = m.take i → cmpB l m = cmpB (l.drop i) (m.drop i)
 | 0, _, _, _, _, _ => rfl
 | i + 1, [], _, h, _, _ => by simp at h
 | i + 1, _ :: _, [], _, h, _ => by simp at h
 | i + 1, a :: l, b :: m, h1, h2, e => by
  simp only [List.take_succ_cons, List.cons.injEq] at e
  obtain ⟨rfl, e⟩ := e
  rw [List.drop_succ_cons, List.drop_succ_cons, ← zeX i l m (by simpa using h1) (by simpa using h2) e]
  conv => lhs; unfold cmpB
  rw [if_neg (UInt8.lt_irrefl a), if_neg (UInt8.lt_irrefl a)]
theorem q0J (x : Dg) {i : Nat} (h : i < 32) : (idR.f x)[i]? = some (.i .u8 ((x.l.getD i 0).toNat : Int)) := by
 show (x.l.map u8A)[i]? = _
 have hl : i < x.l.length := by rw [x.h]; exact h
 rw [List.getElem?_map, List.getD_eq_getElem?_getD, List.getElem?_eq_getElem hl]
 rfl
def iaaV (k sz : Nat) (x i : AV) : Option AV := match x, i with
 | .p id off, .i _ n => if 0 ≤ n ∧ n < k then some (.p id (off + n.toNat * sz)) else none
 | _, _ => none
theorem zXq {T : Env} {fr : List AV} {h : List AB} (k sz : Nat) (x i : Opd) : opR T (.iaa k sz x i) fr h = (iaaV k sz (x.ev fr) (i.ev fr)).map (·, h) := by
 show (match x.ev fr, i.ev fr with
  | .p id off, .i _ n => if 0 ≤ n ∧ n < k then some (AV.p id (off + n.toNat * sz), h) else none
  | _, _ => none) = _
 unfold iaaV
 split
 ·split <;> rfl
 ·rfl
theorem YN2 (k sz id off : Nat) (kk : IntKind) (n : Nat) (hn : n < k) : iaaV k sz (.p id off) (.i kk (n : Int)) = some (.p id (off + n * sz)) := by
 unfold iaaV
 simp only [Int.toNat_natCast]
 rw [if_pos ⟨by omega, by omega⟩]
theorem YWp : Spec Try.prog 48 Zns := by
 intro args h v h' e
 unfold Zns at e
 split at e
 ·rename_i a b
  obtain ⟨x, hx, e2⟩ := qe3 e
  obtain ⟨y, hy, e3⟩ := qe3 e2
  clear e e2
  subst hx hy
  cases e3
  refine FnAt.c (FnAt.frz0 fun hz => ?_)
  generalize h.map AB.freeze = h at *
  refine FnAt.run (by kernel_rfl) (T := ⟨[], []⟩) ⟨trivial, trivial⟩ Try.func48 sw48 fun ho hh => ?_
  unfold w48
  simp only [QZz, KkX, KtL, KED, Kg0, simprocAttr, CO.tmps, Opd.tmps, optT, Nat.reducePow, Nat.reduceDiv, Nat.reduceMod, zAC, qQz]
  refine zIs (S := Nat) (fun i => 32 - i) (fun i => tp 2 ++ [.p (h.length + 0) 0, .p (h.length + 1) 0] ++ tp 1 ++ [.i .i64 i] ++ tp 18) (fun _ => h ++ [.blk true true (idR.f x), .blk true true (idR.f y)]) (fun i => i ≤ 32 ∧ x.l.take i = y.l.take i) 0 ⟨Nat.zero_le _, rfl⟩ (Bt.wk (by simp only [KtL, Kg0, simprocAttr])) fun i hi => ?_
  obtain ⟨hi, hp⟩ := hi
  have lx : x.l.length = 32 := x.h
  have ly : y.l.length = 32 := y.h
  have hc := zeX i x.l y.l (by omega) (by omega) hp
  by_cases g1 : i < 32
  ·have g1' : ((i : Int) < 32) = True := eq_true (by omega)
   have e1 : IntKind.i64.wrap ((i : Int) + 1) = ((i + 1 : Nat) : Int) := qfU (by unfold In64; omega)
   have gx := q0J x g1
   have gy := q0J y g1
   have dx : x.l.drop i = x.l.getD i 0 :: x.l.drop (i + 1) := by
    rw [List.drop_eq_getElem_cons (by omega), List.getD_eq_getElem?_getD, List.getElem?_eq_getElem (by omega)]
    rfl
   have dy : y.l.drop i = y.l.getD i 0 :: y.l.drop (i + 1) := by
    rw [List.drop_eq_getElem_cons (by omega), List.getD_eq_getElem?_getD, List.getElem?_eq_getElem (by omega)]
    rfl
   have tx : x.l.take (i + 1) = x.l.take i ++ [x.l.getD i 0] := by
    rw [List.take_succ_eq_append_getElem (by omega), List.getD_eq_getElem?_getD, List.getElem?_eq_getElem (by omega)]
    rfl
   have ty : y.l.take (i + 1) = y.l.take i ++ [y.l.getD i 0] := by
    rw [List.take_succ_eq_append_getElem (by omega), List.getD_eq_getElem?_getD, List.getElem?_eq_getElem (by omega)]
    rfl
   rw [dx, dy] at hc
   obtain ⟨a, ha⟩ : ∃ a, x.l.getD i 0 = a := ⟨_, rfl⟩
   obtain ⟨b, hb⟩ : ∃ b, y.l.getD i 0 = b := ⟨_, rfl⟩
   rw [ha] at gx tx hc
   rw [hb] at gy ty hc
   rw [show cmpB (a :: x.l.drop (i + 1)) (b :: y.l.drop (i + 1)) = if a < b then -1 else if b < a then 1 else cmpB (x.l.drop (i + 1)) (y.l.drop (i + 1)) from rfl] at hc
   by_cases c1 : a < b
   ·have c1' : ((a.toNat : Int) < (b.toNat : Int)) = True := eq_true (by have := UInt8.lt_iff_toNat_lt.1 c1; omega)
    rw [if_pos c1] at hc
    simp only [KtL, KED, Kg0, simprocAttr, CO.tmps, Opd.tmps, optT, Nat.reducePow, Nat.reduceDiv, Nat.reduceMod, g1', g1, zXq, YN2, gx, gy, c1', Nat.mul_one, Nat.zero_add, Ja7 hh, YNX hz, zzR hz, QDS hz]
    exact Bt.dropI _ hh hc.symm
   rw [if_neg c1] at hc
   have c1' : ((a.toNat : Int) < (b.toNat : Int)) = False := eq_false (fun q => c1 (UInt8.lt_iff_toNat_lt.2 (by omega)))
   by_cases c2 : b < a
   ·have c2' : ((b.toNat : Int) < (a.toNat : Int)) = True := eq_true (by have := UInt8.lt_iff_toNat_lt.1 c2; omega)
    rw [if_pos c2] at hc
    simp only [KtL, KED, Kg0, simprocAttr, CO.tmps, Opd.tmps, optT, Nat.reducePow, Nat.reduceDiv, Nat.reduceMod, g1', g1, zXq, YN2, gx, gy, c1', c2', Nat.mul_one, Nat.zero_add, Ja7 hh, YNX hz, zzR hz, QDS hz]
    exact Bt.dropI _ hh hc.symm
   have c2' : ((b.toNat : Int) < (a.toNat : Int)) = False := eq_false (fun q => c2 (UInt8.lt_iff_toNat_lt.2 (by omega)))
   have hab : a = b := by
    have q1 : ¬ a.toNat < b.toNat := fun q => c1 (UInt8.lt_iff_toNat_lt.2 q)
    have q2 : ¬ b.toNat < a.toNat := fun q => c2 (UInt8.lt_iff_toNat_lt.2 q)
    exact UInt8.toNat_inj.1 (by omega)
   simp only [KtL, KED, Kg0, simprocAttr, CO.tmps, Opd.tmps, optT, Nat.reducePow, Nat.reduceDiv, Nat.reduceMod, g1', g1, zXq, YN2, gx, gy, c1', c2', e1, Nat.mul_one, Nat.zero_add, Ja7 hh, YNX hz, zzR hz, QDS hz]
   exact ⟨i + 1, ⟨by omega, by rw [tx, ty, hp, hab]⟩, by dsimp only; omega, Bt.wk (by simp only [KtL, Kg0, simprocAttr])⟩
  ·obtain rfl : i = 32 := by omega
   have g1' : (((32 : Nat) : Int) < 32) = False := eq_false (by omega)
   have hc0 : cmpG x y = 0 := by
    show cmpB x.l y.l = 0
    rw [hc, List.drop_eq_nil_of_le (by omega), List.drop_eq_nil_of_le (by omega)]
    rfl
   simp only [KtL, KED, Kg0, simprocAttr, CO.tmps, Opd.tmps, optT, Nat.reducePow, Nat.reduceDiv, Nat.reduceMod, g1', zXq, Ja7 hh, YNX hz, zzR hz, QDS hz]
   exact Bt.dropI _ hh hc0.symm
 ·cases e
end Go.Proofs.Ytbcpcjofkfgjoaa
end
