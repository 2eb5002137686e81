/- Part 19 of what the laws' proofs rest on. No condition. -/
import Derived.Shelf.Strings.OnBuilder
import Derived.Test.YtbcpcjofkfgjoaaPh18
set_option linter.all false
section
namespace Go.Proofs.Ytbcpcjofkfgjoaa
open Go.Shelf
def J9j : Go.Shelf.Ren := ⟨fun | 156 => 36 | 165 => 52 | 166 => 53 | 169 => 54 | 240 => 67 | 241 => 68 | 276 => 82 | 277 => 83 | n => n, fun | 31 => 22 | 9 => 9 | 3 => 3 | 4 => 4 | 0 => 0 | 20 => 20 | 72 => 79 | 76 => 83 | 70 => 76 | 37 => 77 | 75 => 82 | 127 => 94 | 164 => 112 | 5 => 5 | 80 => 85 | n => n, fun | n => n⟩
theorem Q3L : Go.Proofs.Lays.n156 Try.prog J9j := {
 mixed := by kernel_rfl
 f156 := Try.func36.trans (congrArg some (by kernel_rfl))
 f165 := Try.func52.trans (congrArg some (by kernel_rfl))
 f166 := Try.func53.trans (congrArg some (by kernel_rfl))
 f169 := Try.func54.trans (congrArg some (by kernel_rfl))
 f240 := Try.func67.trans (congrArg some (by kernel_rfl))
 f241 := Try.func68.trans (congrArg some (by kernel_rfl))
 f276 := Try.func82.trans (congrArg some (by kernel_rfl))
 f277 := Try.func83.trans (congrArg some (by kernel_rfl))
 t0 := Try.underlying0
 a0 := Try.isAgg0
 z0 := Try.sizeOf0
 v0 := Try.zeroValue0
 t3 := Try.underlying3
 a3 := Try.isAgg3
 z3 := Try.sizeOf3
 v3 := Try.zeroValue3
 t4 := Try.underlying4
 a4 := Try.isAgg4
 z4 := Try.sizeOf4
 v4 := Try.zeroValue4
 t9 := Try.underlying9
 a9 := Try.isAgg9
 z9 := Try.sizeOf9
 v9 := Try.zeroValue9
 t20 := Try.underlying20
 a20 := Try.isAgg20
 z20 := Try.sizeOf20
 v20 := Try.zeroValue20
 t31 := Try.underlying22
 a31 := Try.isAgg22
 z31 := Try.sizeOf22
 v31 := Try.zeroValue22
 t37 := Try.underlying77
 a37 := Try.isAgg77
 z37 := Try.sizeOf77
 v37 := Try.zeroValue77
 t70 := Try.underlying76
 a70 := Try.isAgg76
 z70 := Try.sizeOf76
 v70 := Try.zeroValue76
 t72 := Try.underlying79
 a72 := Try.isAgg79
 z72 := Try.sizeOf79
 v72 := Try.zeroValue79
 t75 := Try.underlying82
 a75 := Try.isAgg82
 z75 := Try.sizeOf82
 v75 := Try.zeroValue82
 t76 := Try.underlying83
 a76 := Try.isAgg83
 z76 := Try.sizeOf83
 v76 := Try.zeroValue83
 t127 := Try.underlying94
 a127 := Try.isAgg94
 z127 := Try.sizeOf94
 v127 := Try.zeroValue94
 t164 := Try.underlying112
 a164 := Try.isAgg112
 z164 := Try.sizeOf112
 v164 := Try.zeroValue112 }
theorem Xa6 : Builder.Extra Try.prog J9j := {
 sizeBuilder := by kernel_rfl
 liesBuilder := by kernel_rfl
 t5 := Try.underlying5
 a5 := Try.isAgg5
 z5 := Try.sizeOf5
 v5 := Try.zeroValue5
 infoByte := by kernel_rfl
 cellsByte := by kernel_rfl
 sizeByte := by kernel_rfl
 neB5 := by decide }
open Go.RowKit in
theorem QEa (bk o c : Nat) (xs : List ByteArray) (sep : ByteArray) (w : World) (hcells : ∀ (j : Nat) x, xs[j]? = some x → w.cell? ⟨bk, o + j, none⟩ = some (.string x)) (hbk : bk < w.heap.size) (hN : xs.length ≤ 140737488355328) (hcap : xs.length ≤ c) (hlen : (Lib.join (xs.map (·.data.toList)) sep.data.toList).length ≤ 140737488355328) :
  Calls Try.prog 36 #[.slice (some ⟨bk, o, none⟩) xs.length c, .string sep] w fun e w' => e = .returned (.string ⟨(Lib.join (xs.map (·.data.toList)) sep.data.toList).toArray⟩) ∧ Below w.heap.size w w' := Any.strings_Join Q3L Xa6 bk o c xs sep w hcells hbk hN hcap hlen
end Go.Proofs.Ytbcpcjofkfgjoaa
end
section
namespace Go.Proofs.Ytbcpcjofkfgjoaa
open Go.RowKit
theorem Rel.below {K : Code → CC → Prop} {ρ : Mp} {h : List AB} {w w' : World} (r : Rel K ρ h w) (b : Below w.heap.size w w') (hd : dr w ≤ dr w') : Rel K ρ h w' ∧ Eff ρ h w ρ h w' :=
  ⟨⟨r.len, fun i B bb o n h1 h2 => (r.blk i B bb o n h1 h2).same (Ext.refl _) fun hl => b.block bb ((r.blk i B bb o n h1 h2).lt hl), r.sep⟩,
   b.os, b.tape, ⟨b.output, hd⟩, b.size, fun k hk _ => b.block k hk, fun _ q => .inl q, fun _ _ q => .inl q⟩
def Jgr : List AV → Option (List (List UInt8))
 | [] => some []
 | .s l :: r => (Jgr r).map (l :: ·)
 | _ => none
theorem Qcz : ∀ (xs : List AV) (l : List (List UInt8)), Jgr xs = some l → l.length = xs.length ∧ ∀ (j : Nat) x, l[j]? = some x → xs[j]? = some (.s x)
 | [], l, e => by cases e; exact ⟨rfl, fun j x h => by simp at h⟩
 | .s a :: r, l, e => by
  simp only [Jgr] at e
  obtain ⟨m, hm, rfl⟩ := Option.map_eq_some_iff.1 e
  obtain ⟨h1, h2⟩ := Qcz r m hm
  refine ⟨by simp [h1], fun j x h => ?_⟩
  cases j with
  | zero => simp at h; simp [h]
  | succ j => simp at h ⊢; exact h2 j x h
 | .b _ :: _, _, e | .i _ _ :: _, _, e | .p _ _ :: _, _, e | .np :: _, _, e | .sl _ _ _ _ _ :: _, _, e | .se :: _, _, e | .ns :: _, _, e | .f _ _ _ :: _, _, e | .nf :: _, _, e | .ifc _ _ :: _, _, e | .ni :: _, _, e | .ag _ :: _, _, e | .tu _ :: _, _, e | .top :: _, _, e | .y _ :: _, _, e => by cases e
theorem Q8y {ρ : Mp} {id off len cap : Nat} {k : Option Nat} {v : Value} (e : VR ρ (.sl id off len cap k) v) (h : len ≠ 0) :
  ∃ b o n cap', ρ[id]? = some (b, o, n) ∧ v = .slice (some ⟨b, o + off, none⟩) len cap' ∧ len ≤ cap ∧ cap ≤ cap' ∧ cap' ≤ maxLen ∧ (∀ z, k = some z → z ≠ 0 → o + off + cap' * z ≤ n) := by
 cases e with
 | sl id off len cap k b o n cap' hρ h1 h2 h3 h4 h5 => exact ⟨b, o, n, cap', hρ, rfl, h1, h2, h3, h5⟩
 | sz id off a c hc hn => exact absurd rfl h
theorem KWj {ρ : Mp} {a b : AV} {vals : Array Value} (h : VL ρ [a, b] vals) : ∃ x y, vals = #[x, y] ∧ VR ρ a x ∧ VR ρ b y := by
 obtain ⟨hs, hv⟩ := h
 obtain ⟨l⟩ := vals
 match l, hs with
 | [x, y], _ => exact ⟨x, y, rfl, hv 0 a x rfl rfl, hv 1 b y rfl rfl⟩
theorem qfF {h : List AB} {id off n cap : Nat} {k : Option Nat} {fl mu : Bool} {xs : List AV} {l : List (List UInt8)} {sep : List UInt8} (h0 : n ≠ 0) (hb : h[id]? = some (.blk fl mu xs)) (hle : off + n ≤ xs.length)
  (hl : Jgr ((xs.drop off).take n) = some l) (hN : n ≤ 140737488355328) (hlen : (Lib.join l sep).length ≤ 140737488355328) :
  FnC Try.prog 36 [.sl id off n cap k, .s sep] h (.s (Lib.join l sep)) h := by
 refine ⟨⟨_, _, Try.func36, by decide, rfl⟩, fun ρ w vals hr hv => ?_⟩
 obtain ⟨v, f, rfl, hv1, hv2⟩ := KWj hv
 obtain ⟨b, o, m, cap', hρ, rfl, hlc, hcc, hcm, -⟩ := Q8y hv1 h0
 cases hv2 with
 | s sl bs hbs =>
 obtain ⟨hll, hget⟩ := Qcz _ _ hl
 have hll' : l.length = n := by rw [hll, List.length_take, List.length_drop]; omega
 have hB := hr.blk id _ b o m hb hρ
 obtain ⟨cs, e, fz, hheap, hm, hsz, hcells⟩ := hB
 have hblk : b < w.heap.size := (Array.getElem?_eq_some_iff.1 hheap).1
 have hmap : (l.map fun x => (⟨x.toArray⟩ : ByteArray)).map (·.data.toList) = l := by
  rw [List.map_map]
  exact (List.map_congr_left fun x _ => by simp).trans (List.map_id l)
 have hJ := QEa b (o + off) cap' (l.map fun x => (⟨x.toArray⟩ : ByteArray)) bs w (fun j x hx => by
  rw [List.getElem?_map] at hx
  obtain ⟨y, hy, rfl⟩ := Option.map_eq_some_iff.1 hx
  have h1 := hget j y hy
  have hj : j < n := by rw [← hll']; exact (List.getElem?_eq_some_iff.1 hy).1
  rw [List.getElem?_take, if_pos hj, List.getElem?_drop] at h1
  have hoj : o + (off + j) < cs.size := by omega
  have hv := hcells (off + j) _ _ h1 (Array.getElem?_eq_getElem hoj)
  unfold World.cell?
  simp only [hheap, Option.isSome_none, Bool.false_eq_true, if_false]
  rw [show o + off + j = o + (off + j) by omega, Array.getElem?_eq_getElem hoj]
  generalize cs[o + (off + j)] = u at hv
  cases hv with
  | s l' bs' h' =>
   congr 2
   apply ByteArray.ext
   rw [← h']) hblk (by simpa [hll'] using hN) (by simp [hll']; omega) (by rw [hmap, hbs]; exact hlen)
 rw [hmap, hbs, List.length_map, hll'] at hJ
 refine hJ.mono ?_
 rintro e' w' ⟨rfl, hbel⟩
 obtain ⟨r1, r2⟩ := hr.below hbel (Nat.le_refl _)
 exact ⟨_, ρ, rfl, .s _ _ (by simp), r1, r2.p (Ext.refl _) (by rw [hr.len]; exact Nat.le_refl _)⟩
def QSV (args : List AV) (g : GT) (_ : Nat) : Option (AV × HE) :=
 match args with
 | [.sl id off n _ _, .s sep] => match g id with
  | some (.blk _ _ xs) => match Nat.beq n 0 with
   | true => none
   | false => match Nat.ble (off + n) xs.length && Nat.ble n 1000 with
    | true => match Jgr ((xs.drop off).take n) with
     | some l => match Nat.ble (Lib.join l sep).length 140737488355328 with
      | true => some (.s (Lib.join l sep), .z)
      | false => none
     | none => none
    | false => none
  | _ => none
 | _ => none
theorem qIx : NvOk Try.prog 36 QSV := fun args g h v e hg q => by
 unfold QSV at q
 split at q
 ·rename_i id off n cap k sep
  split at q
  ·rename_i fl mu xs hB
   split at q
   ·cases q
   ·rename_i h0
    split at q
    ·rename_i h1
     split at q
     ·rename_i l hl
      split at q
      ·rename_i h2
       cases q
       rw [Bool.and_eq_true, Nat.ble_eq, Nat.ble_eq] at h1
       rw [Nat.ble_eq] at h2
       exact ⟨qfF (Nat.ne_of_beq_eq_false h0) (K0k (hg id) hB) h1.1 hl (by omega) h2, trivial⟩
      ·cases q
     ·cases q
    ·cases q
  ·cases q
 ·cases q
end Go.Proofs.Ytbcpcjofkfgjoaa
end
section
namespace Go.Proofs.Ytbcpcjofkfgjoaa
def tl0 : List (Option TC) := [none, none, none, none, none, some (.cf w5), none, none, none, none, none, some (.cf w11), none, some (.cf w13), none, some (.cf w15)]
theorem ta0 : AllN Try.prog 0 tl0 := (AllN.skip (AllN.skip (AllN.skip (AllN.skip (AllN.skip (AllN.cons Try.func5 sw5 (AllN.skip (AllN.skip (AllN.skip (AllN.skip (AllN.skip (AllN.cons Try.func11 sw11 (AllN.skip (AllN.cons Try.func13 sw13 (AllN.skip (AllN.cons Try.func15 sw15 trivial))))))))))))))))
def tl1 : List (Option TC) := [none, some (.cf w17), none, some (.cf w19), none, some (.cf w21), none, some (.cf w23), some (.cf w24), some (.cf w25), none, none, none, none, none, none]
theorem ta1 : AllN Try.prog 16 tl1 := (AllN.skip (AllN.cons Try.func17 sw17 (AllN.skip (AllN.cons Try.func19 sw19 (AllN.skip (AllN.cons Try.func21 sw21 (AllN.skip (AllN.cons Try.func23 sw23 (AllN.cons Try.func24 sw24 (AllN.cons Try.func25 sw25 (AllN.skip (AllN.skip (AllN.skip (AllN.skip (AllN.skip (AllN.skip trivial))))))))))))))))
def tl2 : List (Option TC) := [none, none, some (.cf w34), some (.cf w35), some (.nv QSV), some (.cf w37), none, some (.cf w39), some (.cf w40), some (.cf w41), some (.cf w42), none, none, none, none, none]
theorem ta2 : AllN Try.prog 32 tl2 := (AllN.skip (AllN.skip (AllN.cons Try.func34 sw34 (AllN.cons Try.func35 sw35 (AllN.nv qIx (AllN.cons Try.func37 sw37 (AllN.skip (AllN.cons Try.func39 sw39 (AllN.cons Try.func40 sw40 (AllN.cons Try.func41 sw41 (AllN.cons Try.func42 sw42 (AllN.skip (AllN.skip (AllN.skip (AllN.skip (AllN.skip trivial))))))))))))))))
def tl3 : List (Option TC) := [none, some (.cf w49), some (.cf w50), some (.cf w51), none, none, none, some (.cf w55), some (.cf w56), some (.cf w57), some (.cf w58), some (.cf w59), none, none, none, none]
theorem ta3 : AllN Try.prog 48 tl3 := (AllN.skip (AllN.cons Try.func49 sw49 (AllN.cons Try.func50 sw50 (AllN.cons Try.func51 sw51 (AllN.skip (AllN.skip (AllN.skip (AllN.cons Try.func55 sw55 (AllN.cons Try.func56 sw56 (AllN.cons Try.func57 sw57 (AllN.cons Try.func58 sw58 (AllN.cons Try.func59 sw59 (AllN.skip (AllN.skip (AllN.skip (AllN.skip trivial))))))))))))))))
def tl4 : List (Option TC) := [none, none, none, none, none, some (.cf w69), some (.cf w70), some (.cf w71), some (.cf w72), some (.cf w73), some (.cf w74), some (.cf w75), some (.cf w76), none, none, none]
theorem ta4 : AllN Try.prog 64 tl4 := (AllN.skip (AllN.skip (AllN.skip (AllN.skip (AllN.skip (AllN.cons Try.func69 sw69 (AllN.cons Try.func70 sw70 (AllN.cons Try.func71 sw71 (AllN.cons Try.func72 sw72 (AllN.cons Try.func73 sw73 (AllN.cons Try.func74 sw74 (AllN.cons Try.func75 sw75 (AllN.cons Try.func76 sw76 (AllN.skip (AllN.skip (AllN.skip trivial))))))))))))))))
def tl5 : List (Option TC) := [none, none, none, none, some (.cf w84), some (.cf w85), some (.cf w86), some (.cf w87), some (.cf w88), some (.cf w89), some (.cf w90), some (.cf w91), some (.cf w92), some (.cf w93), some (.cf w94), some (.cf w95)]
theorem ta5 : AllN Try.prog 80 tl5 := (AllN.skip (AllN.skip (AllN.skip (AllN.skip (AllN.cons Try.func84 sw84 (AllN.cons Try.func85 sw85 (AllN.cons Try.func86 sw86 (AllN.cons Try.func87 sw87 (AllN.cons Try.func88 sw88 (AllN.cons Try.func89 sw89 (AllN.cons Try.func90 sw90 (AllN.cons Try.func91 sw91 (AllN.cons Try.func92 sw92 (AllN.cons Try.func93 sw93 (AllN.cons Try.func94 sw94 (AllN.cons Try.func95 sw95 trivial))))))))))))))))
def tl6 : List (Option TC) := [some (.cf w96), none, some (.cf w98), some (.cf w99), some (.cf w100), none, none, none, none, none, none, none, none, none, none, none]
theorem ta6 : AllN Try.prog 96 tl6 := (AllN.cons Try.func96 sw96 (AllN.skip (AllN.cons Try.func98 sw98 (AllN.cons Try.func99 sw99 (AllN.cons Try.func100 QiW (AllN.skip (AllN.skip (AllN.skip (AllN.skip (AllN.skip (AllN.skip (AllN.skip (AllN.skip (AllN.skip (AllN.skip (AllN.skip trivial))))))))))))))))
def tls : List (List (Option TC)) := [tl0, tl1, tl2, tl3, tl4, tl5, tl6]
noncomputable def TT : TB := tabn tls
theorem JEL : ZS8 Try.prog TT := zJm tls (AllNs.cons ta0 (AllNs.cons ta1 (AllNs.cons ta2 (AllNs.cons ta3 (AllNs.cons ta4 (AllNs.cons ta5 (AllNs.cons ta6 trivial)))))))
end Go.Proofs.Ytbcpcjofkfgjoaa
end
section
namespace Go.Proofs.Ytbcpcjofkfgjoaa
set_option maxRecDepth 100000
set_option maxHeartbeats 4000000
theorem Xr4 {l : List (List UInt8)} (hr : risS l) (d : List UInt8) : JIC l d (decide (¬ d = [])) = Q9V d l := by
 by_cases hd : d = []
 ·subst hd
  unfold JIC Q9V
  exact (List.filter_eq_self.2 fun _ _ => decide_eq_true (.inl rfl)).symm
 ·unfold JIC
  rw [if_pos (decide_eq_true hd)]
  unfold posS bsS Q9V
  rw [YVR (cf := cmpB) (dv := []) ZtX (fun a b c => Zwh) (fun a b => Yfk) hr d]
  refine List.filter_congr fun x _ => ?_
  rw [decide_eq_decide]
  exact ⟨fun q => .inr q, fun q => q.resolve_left hd⟩
theorem QSt {α : Type} {r : Row α} {h : List AB} (L : List AB) (k : Nat) (l : List α) (e : ownR r l L k) (hl : l.length ≤ maxLen) : getS r (h ++ L) (apS r (h.length + k) l) = some l := by
 by_cases h0 : l.length = 0
 ·obtain rfl := List.eq_nil_of_length_eq_zero h0
  exact (show Rd r (h ++ L) .ns [] from ⟨rfl, Nat.zero_le _⟩).get
 ·rw [Kte _ h0]
  exact KqK L k l e hl
end Go.Proofs.Ytbcpcjofkfgjoaa
end
section
namespace Go.Proofs.Ytbcpcjofkfgjoaa
theorem ct5 : runT TT 60 w5 = true := by kernel_rfl
theorem fc5 (h : List AB) : FnC Try.prog 5 [] h (.b true) h := FnC.closed (by kernel_rfl) JEL 60 5 (by kernel_rfl) ct5 h
end Go.Proofs.Ytbcpcjofkfgjoaa
end
section
namespace Go.Proofs.Ytbcpcjofkfgjoaa
set_option maxRecDepth 100000
set_option maxHeartbeats 4000000
theorem qYV {A : List (List UInt8)} (hr : A.Pairwise ltS) {i j : Nat} (h : i < j) (hj : j < A.length) : ltS (A.getD i []) (A.getD j []) := by
 have := List.pairwise_iff_getElem.1 hr i j (by omega) hj h
 rw [List.getD_eq_getElem?_getD, List.getD_eq_getElem?_getD, List.getElem?_eq_getElem hj, List.getElem?_eq_getElem (by omega)]
 exact this
theorem QGM {A : List (List UInt8)} (hr : A.Pairwise ltS) : risS A := fun j hj => qYV hr (by omega) hj
def zbU (A : List (List UInt8)) (k : Nat) : List UInt8 := if k = 0 then [] else A.getD (k - 1) []
theorem qTD {A : List (List UInt8)} (hr : A.Pairwise ltS) (hne : ∀ x ∈ A, x ≠ []) {k : Nat} (hk : k ≤ A.length) : Q9V (zbU A k) A = A.drop k := by
 unfold Q9V zbU
 by_cases h0 : k = 0
 ·subst h0
  rw [if_pos rfl, List.drop_zero]
  exact List.filter_eq_self.2 fun _ _ => decide_eq_true (.inl rfl)
 ·rw [if_neg h0]
  have hd := hne _ (K83 (c := A) (i := k - 1) (by omega))
  refine K5C (dv := []) (fun i hi hl => decide_eq_false ?_) (fun i hi hl => decide_eq_true (.inr ?_))
  ·rintro (q | q)
   ·exact hd q
   ·by_cases e : i = k - 1
    ·subst e; exact zyr.irr _ q
    ·exact K3U q (qYV hr (by omega) (by omega))
  ·exact qYV hr (by omega) hl
theorem zDR {A : List (List UInt8)} {k m : Nat} (hm : 0 < m) (h : k + m ≤ A.length) : ((A.drop k).take m).getD (m - 1) [] = zbU A (k + m) := by
 unfold zbU
 rw [if_neg (by omega), List.getD_eq_getElem?_getD, List.getD_eq_getElem?_getD, List.getElem?_take_of_lt (by omega), List.getElem?_drop]
 congr 2
 omega
def Xne : List AV → List AB → Option (AV × List AB)
 | [], h => some (.b true, h)
 | _, _ => none
theorem JtT : Spec Try.prog 5 Xne := by
 intro args h v h' e
 unfold Xne at e
 split at e
 ·cases e
  exact fc5 h
 ·cases e
theorem zkb {h : List AB} (hz : h.map AB.freeze = h) {s : AV} {l : List (List UInt8)} (hs : Rd strR h s l) (m : Int) (hm : -9223372036854775808 ≤ m ∧ m ≤ 9223372036854775807) :
  FnAt Try.prog 6 [s, .i .i64 m] h (.b true) h := by
 refine FnAt.run (by kernel_rfl) (T := ⟨[⟨5, Xne, fun _ => []⟩, ⟨10, JZx, fun _ => []⟩, ⟨26, Z6m, fun _ => []⟩, ⟨27, QlG, fun _ => []⟩, ⟨13, X7U, fun _ => []⟩, ⟨15, XXK, fun _ => []⟩], []⟩) ⟨⟨JtT, Y0D, KOB, XRg, KHO, YXo, trivial⟩, trivial⟩ Try.func6 sw6 fun ho hh => ?_
 simp only [Qlf, Bool.and_eq_true] at ho
 have f1 := hs.fx ho.1 (sz := 1) rfl
 unfold w6
 by_cases hL : (60 : Int) < l.length ∨ ∃ x ∈ l, (40 : Int) < (x.length : Int)
 ·have g1 := eq_true hL
  simp only [QZz, KkX, KtL, KED, Kg0, if_true, if_false, ↓reduceIte, Nat.reduceAdd, Nat.reduceSub, Nat.reduceLeDiff, Nat.reduceEqDiff, Nat.reduceMul, Nat.reduceLT, Int.reduceLT, Int.reduceLE, Int.reduceEq, CO.tmps, Opd.tmps, optT, Nat.reducePow, Nat.reduceDiv, Nat.reduceMod, f1, JZx, Xne, g1]
  exact Bt.dropB _ hh rfl
 have g1 := eq_false hL
 have hl : l.length ≤ 60 := by
  have := fun q => hL (.inl q)
  omega
 have l1 : (l.length ≤ 100000) = True := eq_true (by omega)
 have hm' := eq_true hm
 have hk : ((1 : Int) + m % 100) = (((1 + m % 100).toNat : Nat) : Int) := by omega
 obtain ⟨n, hn⟩ : ∃ n : Nat, (1 + m % 100).toNat = n := ⟨_, rfl⟩
 have hn1 : 1 ≤ n ∧ n ≤ 100 := by omega
 have ew : IntKind.i64.wrap (1 + m % 100) = (n : Int) := by rw [qfV (by unfold In64; omega), hk, hn]
 simp only [QZz, KkX, KtL, KED, Kg0, if_true, if_false, ↓reduceIte, Nat.reduceAdd, Nat.reduceSub, Nat.reduceLeDiff, Nat.reduceEqDiff, Nat.reduceMul, Nat.reduceLT, Int.reduceLT, Int.reduceLE, Int.reduceEq, CO.tmps, Opd.tmps, optT, Nat.reducePow, Nat.reduceDiv, Nat.reduceMod, f1, JZx, Xne, Z6m, QlG, g1, l1, hm', ew]
 obtain ⟨hr, hmem⟩ := zZR l
 have hne : ∀ x ∈ risL l, x ≠ [] := fun x hx => ((hmem x).1 hx).2
 have hA := qQM l
 generalize risL l = A at *
 have c1' : ((n : Int) < 1 ∨ 100 < (n : Int)) = False := eq_false (by omega)
 have c2' : risS A = True := eq_true (QGM hr)
 have la : (A.length ≤ 1000000) = True := eq_true (by omega)
 have lb : (A.length ≤ maxLen) = True := eq_true (by unfold maxLen; omega)
 refine zIs (S := Nat) (fun t => A.length + 1 - t) (fun t => tp 1 ++ [.i .i64 n] ++ tp 3 ++ [.b true, apS strR (h.length + 0) A, apS strR (h.length + 1) (A.take (t * n)), .s (zbU A (t * n)), .i .i64 t] ++ tp 60) (fun t => h ++ [resB strR true A, resB strR true (A.take (t * n))]) (fun t => t * n ≤ A.length ∧ (t = 0 ∨ t * n < A.length)) 0 ⟨by omega, .inl rfl⟩ ?_ fun t ht => ?_
 ·dsimp only
  rw [Nat.zero_mul]
  show Bt _ _ _ _ _ (h ++ ([resB strR true A] ++ List.replicate 1 .dead))
  rw [← List.append_assoc]
  refine Bt.trans (Bt.wk ?_) (Bt.pad _ _ 1)
  rw [show apS strR (h.length + 1) (A.take 0) = .ns from rfl, show zbU A 0 = [] from rfl]
  simp only [KtL, Kg0, if_true, if_false, reduceIte, Nat.reduceAdd, Nat.reduceSub, Nat.reduceLeDiff, Nat.reduceEqDiff, Nat.reduceMul, Nat.reduceLT, Int.reduceLT, Int.reduceLE, Int.reduceEq]
 obtain ⟨hK, ht0⟩ := ht
 have htn : t ≤ t * n := Nat.le_mul_of_pos_right t (by omega)
 have hk1 : zbU A (t * n) = zbU A (t * n) := rfl
 have hrk : JIC A (zbU A (t * n)) (decide (¬ zbU A (t * n) = [])) = A.drop (t * n) := by rw [Xr4 (QGM hr), qTD hr hne hK]
 have tA : ((t : Int) ≤ (A.length : Int)) = True := eq_true (by omega)
 have lc : ((List.take n (List.drop (t * n) A)).length ≤ 1000000) = True := eq_true (by rw [List.length_take]; omega)
 have ld0 : (A.drop (t * n)).length = A.length - t * n := List.length_drop
 have et : IntKind.i64.wrap ((t : Int) + 1) = ((t + 1 : Nat) : Int) := qfV (by unfold In64; omega)
 by_cases hA0 : A = []
 ·subst hA0
  obtain rfl : t = 0 := by have h1 : t * n ≤ 0 := hK; omega
  have e0 : zbU [] (0 * n) = [] := by rw [Nat.zero_mul]; rfl
  have e1 : List.take (0 * n) ([] : List (List UInt8)) = [] := by simp
  have gn : ∀ x : List AB, getS strR x .ns = some [] := fun x => (show Rd strR x .ns [] from ⟨rfl, Nat.zero_le _⟩).get
  have gn0 : ∀ x k, srcV (h ++ x) 1 (rsl strR (h.length + k) ([] : List (List UInt8))) = some (0, []) := fun x k => rfl
  have nn : ((n : Int) < 0) = False := eq_false (by omega)
  have nn' : (n < 0) = False := eq_false (Nat.not_lt_zero n)
  have er : JIC [] [] false = [] := rfl
  simp only [QZz, KkX, KtL, KED, Kg0, if_true, if_false, ↓reduceIte, Nat.reduceAdd, Nat.reduceSub, Nat.reduceLeDiff, Nat.reduceEqDiff, Nat.reduceMul, Nat.reduceLT, Int.reduceLT, Int.reduceLE, Int.reduceEq, CO.tmps, Opd.tmps, optT, Nat.reducePow, Nat.reduceDiv, Nat.reduceMod, X7U, Q7B, XXK, Xne, c1', c2', hrk, la, lb, lc, tA, qhS, XnW, zkT, ZjM, q0u, Nat.zero_lt_one, Int.toNat_natCast, XqR, Ja7 hh, YNX hz, zzR hz, QDS hz, ne_eq, not_false_eq_true, not_true_eq_false, false_implies, forall_const, and_true, true_and, decide_true, decide_false, YtJ, e0, e1, er, gn, gn0, nn, nn',  AV.capOk, List.drop_nil, List.take_nil, List.length_nil, Int.natCast_zero, Nat.zero_le, Kht]
  exact Bt.dropB _ hh rfl
 have hlA : A.length ≠ 0 := fun q => hA0 (List.eq_nil_of_length_eq_zero q)
 have gA : ∀ id, apS strR id A = rsl strR id A := fun id => Kte _ hlA
 by_cases gm : n < (A.drop (t * n)).length
 ·have lp : (List.take n (List.drop (t * n) A)).length = n := by rw [List.length_take]; omega
  have nn : ((n : Int) < (n : Int)) = False := eq_false (by omega)
  have n1 : n - 1 < (List.take n (List.drop (t * n) A)).length := by omega
  have n1' : n - 1 < n := by omega
  have en : IntKind.i64.wrap ((n : Int) - 1) = ((n - 1 : Nat) : Int) := by rw [qfV (by unfold In64; omega)]; omega
  have sr := fun (L : List AB) k => qm2 (r := strR) (h := h) (sz := 1) rfl L k (List.take n (List.drop (t * n) A))
  have ia := fun (id : Nat) (m : Int) => ZNU (r := strR) (sz := 1) rfl id (List.take n (List.drop (t * n) A)) .i64 m
  have ld := fun (L : List AB) (k : Nat) e => zlu (r := strR) (h := h) (sz := 1) rfl L k (List.take n (List.drop (t * n) A)) (n - 1) 0 e n1 Nat.zero_lt_one
  have hlast := zDR (A := A) (k := t * n) (m := n) (by omega) (by omega)
  have hn' : t * n + n ≤ A.length := by omega
  have eC : strR.cells (A.take (t * n)) ++ strR.cells (List.take n (List.drop (t * n) A)) = strR.cells (A.take (t * n + n)) := by
   rw [Qz3, Qz3, Qz3, ← List.map_append, List.take_add]
  have nz : (n = 0) = False := eq_false (by omega)
  have hTn : (A.take (t * n + n)).length = t * n + n := by rw [List.length_take]; omega
  have eA : ∀ id, apS strR id (A.take (t * n + n)) = .sl id 0 (t * n + n) (t * n + n) (some 1) := fun id => by
   unfold apS
   rw [hTn, if_neg (by omega)]
   rfl
  have eB : resB strR true (A.take (t * n + n)) = .blk true true (strR.cells (A.take (t * n)) ++ strR.cells (List.take n (List.drop (t * n) A))) := by
   unfold resB
   rw [hTn, if_neg (by omega), eC]
  have gm' := eq_true gm
  by_cases t0 : t = 0
  ·subst t0
   have e0 : A.take (0 * n) = [] := by rw [Nat.zero_mul]; rfl
   have z3 : (n * 16 ≤ 140737488355328 ∧ n ≤ maxLen) = True := eq_true ⟨by omega, by unfold maxLen; omega⟩
   have et : IntKind.i64.wrap ((0 : Int) + 1) = ((0 + 1 : Nat) : Int) := rfl
   simp only [QZz, KkX, KtL, KED, Kg0, if_true, if_false, ↓reduceIte, Nat.reduceAdd, Nat.reduceSub, Nat.reduceLeDiff, Nat.reduceEqDiff, Nat.reduceMul, Nat.reduceLT, Int.reduceLT, Int.reduceLE, Int.reduceEq, CO.tmps, Opd.tmps, optT, Nat.reducePow, Nat.reduceDiv, Nat.reduceMod, X7U, Q7B, XXK, Xne, c1', c2', hrk, la, lb, lc, tA, qhS, XnW, zkT, ZjM, q0u, Nat.zero_lt_one, Int.toNat_natCast, XqR, Ja7 hh, YNX hz, zzR hz, QDS hz, ne_eq, not_false_eq_true, not_true_eq_false, false_implies, forall_const, and_true, true_and, decide_true, decide_false, gA, gm', lp, nn, e0, YtJ, z3, nz, et, n1', en, sr, ia, ld, hlast]
   refine ⟨0 + 1, ⟨by rw [Nat.succ_mul]; omega, .inr (by rw [Nat.succ_mul]; omega)⟩, by dsimp only; omega, ?_⟩
   dsimp only
   rw [Nat.succ_mul, eA, eB, e0, Nat.zero_mul]
   simp only [Nat.zero_add, show strR.cells [] = [] from rfl, List.nil_append, Int.natCast_one]
   exact Bt.sel [0, 3] hh (by decide) (by simp only [JsM, FrSel, BlkSel, AV.ren, renL, AV.ok, okL, Option.some.injEq, exists_eq_left', List.length_cons, List.length_nil, Nat.reduceAdd, Nat.reduceLT, reduceCtorEq, implies_true, exists_eq']) (by simp only [JsM, FrSel, BlkSel, AV.ren, renL, AV.ok, okL, Option.some.injEq, exists_eq_left', List.length_cons, List.length_nil, Nat.reduceAdd, Nat.reduceLT, reduceCtorEq, implies_true, exists_eq', X0K])
  ·have hT : (A.take (t * n)).length = t * n := by rw [List.length_take]; omega
   have hT0 : (A.take (t * n)).length ≠ 0 := by rw [hT]; exact Nat.mul_ne_zero t0 (by omega)
   have gT : ∀ id, apS strR id (A.take (t * n)) = rsl strR id (A.take (t * n)) := fun id => Kte _ hT0
   have fa := fun L k ys hb => zWD (h := h) (p := h.length) rfl (r := strR) (sz := 1) rfl L k (A.take (t * n)) 16 n ys hT0 hb (by omega) (by rw [hT]; omega) (by rw [hT]; unfold maxLen; omega)
   simp only [QZz, KkX, KtL, KED, Kg0, if_true, if_false, ↓reduceIte, Nat.reduceAdd, Nat.reduceSub, Nat.reduceLeDiff, Nat.reduceEqDiff, Nat.reduceMul, Nat.reduceLT, Int.reduceLT, Int.reduceLE, Int.reduceEq, CO.tmps, Opd.tmps, optT, Nat.reducePow, Nat.reduceDiv, Nat.reduceMod, X7U, Q7B, XXK, Xne, c1', c2', hrk, la, lb, lc, tA, qhS, XnW, zkT, ZjM, q0u, Nat.zero_lt_one, Int.toNat_natCast, XqR, Ja7 hh, YNX hz, zzR hz, QDS hz, ne_eq, not_false_eq_true, not_true_eq_false, false_implies, forall_const, and_true, true_and, decide_true, decide_false, gA, gT, gm', lp, nn, nz, et, n1', en, sr, ia, ld, hlast, fa]
   refine ⟨t + 1, ⟨by rw [Nat.succ_mul]; omega, .inr (by rw [Nat.succ_mul]; omega)⟩, by dsimp only; omega, ?_⟩
   dsimp only
   rw [Nat.succ_mul, eA, eB, hT]
   exact Bt.sel [0, 3] hh (by decide) (by simp only [JsM, FrSel, BlkSel, AV.ren, renL, AV.ok, okL, Option.some.injEq, exists_eq_left', List.length_cons, List.length_nil, Nat.reduceAdd, Nat.reduceLT, reduceCtorEq, implies_true, exists_eq']) (by simp only [JsM, FrSel, BlkSel, AV.ren, renL, AV.ok, okL, Option.some.injEq, exists_eq_left', List.length_cons, List.length_nil, Nat.reduceAdd, Nat.reduceLT, reduceCtorEq, implies_true, exists_eq', X0K])
 ·have gm' := eq_false gm
  have hP : List.take n (List.drop (t * n) A) = A.drop (t * n) := List.take_of_length_le (by omega)
  have gs : ∀ id, AV.sl id 0 A.length A.length (some 1) = rsl strR id A := fun id => by unfold rsl; rw [if_neg hlA]; rfl
  have gb : AB.blk true true (strR.cells A) = resB strR true A := by unfold resB; rw [if_neg hlA]
  rw [hP] at lc
  by_cases t0 : t = 0
  ·subst t0
   have e0 : A.take (0 * n) = [] := by rw [Nat.zero_mul]; rfl
   have e1 : A.drop (0 * n) = A := by rw [Nat.zero_mul]; rfl
   rw [e1] at hP gm' lc hrk ld0
   have z3 : (A.length * 16 ≤ 140737488355328 ∧ A.length ≤ maxLen) = True := eq_true ⟨by omega, by unfold maxLen; omega⟩
   have nz : (A.length = 0) = False := eq_false hlA
   have zb : (A.length * 16 ≤ 140737488355328) = True := eq_true (by omega)
   have sr := fun (L : List AB) k => qm2 (r := strR) (h := h) (sz := 1) rfl L k A
   have e1' := e1
   simp only [QZz, KkX, KtL, KED, Kg0, if_true, if_false, ↓reduceIte, Nat.reduceAdd, Nat.reduceSub, Nat.reduceLeDiff, Nat.reduceEqDiff, Nat.reduceMul, Nat.reduceLT, Int.reduceLT, Int.reduceLE, Int.reduceEq, CO.tmps, Opd.tmps, optT, Nat.reducePow, Nat.reduceDiv, Nat.reduceMod, X7U, Q7B, XXK, Xne, c1', c2', hrk, la, lb, lc, tA, qhS, XnW, zkT, ZjM, q0u, Nat.zero_lt_one, Int.toNat_natCast, XqR, Ja7 hh, YNX hz, zzR hz, QDS hz, ne_eq, not_false_eq_true, not_true_eq_false, false_implies, forall_const, and_true, true_and, decide_true, decide_false, gA, hP, e1, gm', e0, YtJ, z3, zb, nz, sr, gs, gb, Int.ofNat_lt]
   exact Bt.dropB _ hh rfl
  ·have hT : (A.take (t * n)).length = t * n := by rw [List.length_take]; omega
   have hK2 : t * n < A.length := ht0.resolve_left t0
   have hT0 : (A.take (t * n)).length ≠ 0 := by rw [hT]; exact Nat.mul_ne_zero t0 (by omega)
   have gT : ∀ id, apS strR id (A.take (t * n)) = rsl strR id (A.take (t * n)) := fun id => Kte _ hT0
   have nz : (A.length - t * n = 0) = False := eq_false (by omega)
   have fa := fun L k ys hb => zWD (h := h) (p := h.length) rfl (r := strR) (sz := 1) rfl L k (A.take (t * n)) 16 (A.length - t * n) ys hT0 hb (by omega) (by rw [hT]; omega) (by rw [hT]; unfold maxLen; omega)
   have sr := fun (L : List AB) k => qm2 (r := strR) (h := h) (sz := 1) rfl L k (A.drop (t * n))
   have hs : t * n + (A.length - t * n) = A.length := by omega
   have eC : strR.cells (A.take (t * n)) ++ strR.cells (A.drop (t * n)) = strR.cells A := by
    rw [Qz3, Qz3, Qz3, ← List.map_append, List.take_append_drop]
   rw [ld0] at gm' lc
   simp only [QZz, KkX, KtL, KED, Kg0, if_true, if_false, ↓reduceIte, Nat.reduceAdd, Nat.reduceSub, Nat.reduceLeDiff, Nat.reduceEqDiff, Nat.reduceMul, Nat.reduceLT, Int.reduceLT, Int.reduceLE, Int.reduceEq, CO.tmps, Opd.tmps, optT, Nat.reducePow, Nat.reduceDiv, Nat.reduceMod, X7U, Q7B, XXK, Xne, c1', c2', hrk, la, lb, lc, tA, qhS, XnW, zkT, ZjM, q0u, Nat.zero_lt_one, Int.toNat_natCast, XqR, Ja7 hh, YNX hz, zzR hz, QDS hz, ne_eq, not_false_eq_true, not_true_eq_false, false_implies, forall_const, and_true, true_and, decide_true, decide_false, gA, gT, hP, gm', ld0, nz, sr, fa, hT, hs, eC, gs, gb, Int.ofNat_lt]
   exact Bt.dropB _ hh rfl
end Go.Proofs.Ytbcpcjofkfgjoaa
end
section
namespace Go.Proofs.Ytbcpcjofkfgjoaa
open Go.ChangeShapes Go.WideShapes Go.ChangeAt Go.RowKit
def avR : Row AV := ⟨fun a => [a], 1, fun _ => rfl, by decide, .ns, fun x y e => by simpa using e⟩
theorem Qyd (a : AV) : avR.f a = [a] := _root_.id rfl
theorem zag : avR.sz = 1 := _root_.id rfl
theorem X20 : avR.d = .ns := _root_.id rfl
theorem qKO (l : List AV) : avR.cells l = l := by
 induction l with
 | nil => rfl
 | cons x l ih =>
  show [x] ++ avR.cells l = x :: l
  rw [ih]
  rfl
section
variable {K : Code → CC → Prop} {ρ : Mp} {h : List AB} {w : World}
theorem In.sls {α : Type} {r : Row α} (hfl : ∀ x, ∀ a ∈ r.f x, a.fl = true) : ∀ (vs : List Value) (ls : List (List α)) {ρ : Mp} {h : List AB}, In K ρ h w → vs.length = ls.length → (∀ (j : Nat) v l, vs[j]? = some v → ls[j]? = some l → Sl w v l.length ((r.cells l).map AV.val)) →
  ∃ (ρ2 : Mp) (h2 : List AB) (ss : List AV), In K (ρ ++ ρ2) (h ++ h2) w ∧ ss.length = ls.length ∧ ∀ (j : Nat) s v l, ss[j]? = some s → vs[j]? = some v → ls[j]? = some l → VR (ρ ++ ρ2) s v ∧ Rd r (h ++ h2) s l ∧ s.ok (fun i => decide (i < (h ++ h2).length)) = true ∧ s.capOk = true
 | [], ls, ρ, h, i, hl, _ => by
  refine ⟨[], [], [], by simpa using i, by simpa using hl, fun j s v l q => by simp at q⟩
 | v :: vs, [], ρ, h, i, hl, _ => by simp at hl
 | v :: vs, l :: ls, ρ, h, i, hl, hs => by
  obtain ⟨hm, x, i', vr⟩ := i.slice hfl (hs 0 v l rfl rfl)
  obtain ⟨ρ2, h2, ss, i2, hl2, hj⟩ := In.sls hfl vs ls i' (by simpa using hl) (fun j v l a b => hs (j + 1) v l (by simpa using a) (by simpa using b))
  rw [List.append_assoc, List.append_assoc] at i2
  refine ⟨[x] ++ ρ2, [resB r false l] ++ h2, rsl r h.length l :: ss, i2, by simp [hl2], fun j s u m a b c => ?_⟩
  cases j with
  | zero =>
   cases a; cases b; cases c
   refine ⟨vr.ext (fun k y hk => ?_), ?_, JL8 _ _ _ (by simp), qhS _ _⟩
   ·rw [← List.append_assoc, List.getElem?_append_left (List.getElem?_eq_some_iff.1 hk).1]
    exact hk
   ·exact Zzg (by rw [List.getElem?_append_right (Nat.le_refl _), Nat.sub_self]; rfl) hm
  | succ j =>
   have := hj j s u m (by simpa using a) (by simpa using b) (by simpa using c)
   rw [List.append_assoc, List.append_assoc] at this
   exact this
theorem In.slN (i : In K ρ h w) {v : Value} {vs : List Value} {ss : List AV} (hl : ss.length = vs.length) (hs : Sl w v vs.length vs) (hv : ∀ (j : Nat) s u, ss[j]? = some s → vs[j]? = some u → VR ρ s u) :
  ∃ x s B, In K (ρ ++ [x]) (h ++ [B]) w ∧ VR (ρ ++ [x]) s v ∧ Rd avR (h ++ [B]) s ss ∧ s.ok (fun i => decide (i < (h ++ [B]).length)) = true := by
 have hrl := i.rel.len
 by_cases h0 : ss.length = 0
 ·obtain rfl := List.eq_nil_of_length_eq_zero h0
  have h0' : vs.length = 0 := by omega
  refine ⟨(0, 0, 0), .sl h.length 0 0 0 (some 0), .dead, i.push (by simp [AB.mut]) (by simp [BR]), ?_, ⟨by rfl, Nat.zero_le _⟩, by simp [AV.ok]⟩
  rcases hs with ⟨⟨a, rfl⟩, _, _⟩ | ⟨b, off, cap, rfl, _, hc, _⟩
  ·exact .sz _ _ _ _ (Nat.zero_le _) fun _ => rfl
  ·rw [h0']
   exact .sz _ _ _ _ hc fun q => by cases q
 ·rcases hs with ⟨_, q, _⟩ | ⟨b, off, cap, rfl, hlc, hc, hcells⟩
  ·omega
  ·have hat : ∀ k (hk : k < vs.length), w.cell? ⟨b, off + k, none⟩ = some vs[k] := fun k hk => hcells k _ (List.getElem?_eq_getElem hk)
   obtain ⟨cs, e, fz, hb⟩ : ∃ cs e fz, w.heap[b]? = some (.cells cs e fz) := by
    have := hat 0 (by omega)
    unfold World.cell? at this
    split at this
    ·rename_i c e fz hb
     exact ⟨c, e, fz, hb⟩
    ·cases this
   have hat' : ∀ k (hk : k < vs.length), cs[off + k]? = some vs[k] := fun k hk => by
    have := hat k hk
    unfold World.cell? at this
    rw [hb] at this
    simpa using this
   refine ⟨(b, off, off + cap * 1), .sl h.length 0 ss.length ss.length (some 1), .blk false false ss, i.push (by simp [AB.mut]) ?_, ?_, ⟨?_, by show ss.length ≤ maxLen; omega⟩, by simp [AV.ok]⟩
   ·refine ⟨cs, e, fz, hb, (fun q => by cases q), ?_, fun k a c ha hc' => ?_⟩
    ·have := (Array.getElem?_eq_some_iff.1 (hat' (vs.length - 1) (by omega))).1
     omega
    ·have hk := (List.getElem?_eq_some_iff.1 ha).1
     rw [hat' k (by omega)] at hc'
     cases hc'
     exact (hv k a _ ha (List.getElem?_eq_getElem (by omega))).ext (Ext.push _ _)
   ·rw [← hl]
    exact .sl h.length 0 ss.length ss.length (some 1) b off (off + cap * 1) cap (by rw [← hrl, List.getElem?_append_right (Nat.le_refl _), Nat.sub_self]; rfl) (Nat.le_refl _) (by omega) hc (fun q => by cases q) (fun z hz _ => by cases hz; exact Nat.le_refl _)
   ·simp only [rdS, if_neg h0]
    have hr : QCI (h ++ [AB.blk false false ss]) h.length = some ss := by
     unfold QCI
     rw [List.getElem?_append_right (Nat.le_refl _), Nat.sub_self]
     rfl
    rw [hr, Option.bind_some, zag, Nat.mul_one, if_pos (by omega), List.drop_zero, List.take_of_length_le (Nat.le_refl _), qKO]
end
section
variable {H : Type} {enc : TypeId × Value → H} {w : World} {base : Nat} {held : Bool}
theorem Y4m {fuel : Nat} {cs : List Value} {x : DataW H × List MemPlace} (h : DataW.trod enc Try.prog w base (fun _ => true) held fuel 47 cs = some x) :
  ∃ v, cs = [v] ∧ ∃ (vs : List Value) (ls : List (List (List UInt8))), vs.length = ls.length ∧ Sl w v vs.length vs ∧ ∀ (j : Nat) u l, vs[j]? = some u → ls[j]? = some l → Sl w u l.length ((strR.cells l).map AV.val) := by
 obtain ⟨v, h1, ts, c, h2, h3, h4⟩ := Zzi (fun w cs (l : List (List UInt8)) => ∃ u, cs = [u] ∧ Sl w u l.length ((strR.cells l).map AV.val)) Try.underlying47 (size := 1) (by kernel_rfl) (by decide) (fun fuel cs x hx => by
  obtain ⟨u, hu, l, hl⟩ := Jv0 hx
  exact ⟨l, u, hu, hl⟩) h
 rw [Nat.mul_one] at h3
 refine ⟨v, h1, c, ts, h3, by rw [h3]; exact h2, fun j u l hu hl => ?_⟩
 obtain ⟨u', e1, e2⟩ := h4 j l hl
 have hj := (List.getElem?_eq_some_iff.1 hu).1
 have e3 : ((c.drop (j * 1)).take 1)[0]? = some u := by rw [List.getElem?_take_of_lt (by omega), List.getElem?_drop, Nat.mul_one, Nat.add_zero]; exact hu
 rw [e1] at e3
 cases e3
 exact e2
end
end Go.Proofs.Ytbcpcjofkfgjoaa
end
