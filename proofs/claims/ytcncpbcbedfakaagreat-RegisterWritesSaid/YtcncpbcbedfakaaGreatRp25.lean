/- Part 25 of what the laws' proofs rest on. No condition. -/
import Derived.Test.YtcncpbcbedfakaaGreatRp24
set_option linter.all false
section
namespace Go.Proofs.YtcncpbcbedfakaaGreat
set_option maxRecDepth 100000
set_option maxHeartbeats 4000000
theorem XL8 {h L : List AB} {a b : Nat} {l v d : AV} {hs : List Hd} {vs : List Int} {ds : Dots} (b1 : bxL L a = some l) (b2 : ownC L b = some [v, d]) (h1 : getS Qv2 (h ++ L) l = some hs) (h2 : getS intR (h ++ L) v = some vs) (h3 : getS dotR (h ++ L) d = some ds) : qIn (h ++ L) (h.length + a) (h.length + b) = some (hs, vs, ds) := by
 refine ZVq ?_ (by rw [J1Z]; exact b2) h1 h2 h3
 rw [← b1]
 exact zQf L a
theorem Xsr {l' l : List AV} (h : WkL l' l) : Wk (.tu l') (.tu l) := fun ρ c v => by
 cases v with
 | tu _ cs hn hv =>
  have := WkL.vl h (cs := cs) ⟨hn, hv⟩
  exact .tu l' cs this.1 this.2
theorem J19 {h H : List AB} {id : Nat} {L : List Hd} {a b e : AV} : Bt Tryz.prog h.length [.tu [.ag [apS Qv2 id L, a, b], e]] H [.tu [.ag [rsl Qv2 id L, a, b], e]] H := Bt.wk ⟨Xsr ⟨zBJ ⟨qEA _ _, Wk.refl _, Wk.refl _, trivial⟩, Wk.refl _, trivial⟩, trivial⟩
theorem JKG (v : List Int) (ds : Dots) (l : List Hd) : (outL v ds l).length ≤ l.length := List.length_filter_le _ _
noncomputable def Jga : List AV → List AB → Option (AV × List AB)
 | [.ag [l, s, t], .ag [s', t']], h => (getS Qv2 h l).bind fun hs => (getS intR h s).bind fun v => (getS dotR h t).bind fun ds => (getS intR h s').bind fun v' => (getS dotR h t').bind fun ds' =>
   if hs.length ≤ 100000 ∧ t.capOk = true ∧ t'.capOk = true then
    if KwI hs v ds ≠ 0 then some (.tu [.ag [.ns, .ns, .ns], .i .i64 (KwI hs v ds)], h)
    else if Zmz v' ds' ≠ 0 then some (.tu [.ag [.ns, .ns, .ns], .i .i64 (Zmz v' ds')], h)
    else if (Zjt v v' ds ds').2.length ≤ 4096 then some (.tu [.ag [rsl Qv2 h.length (outL v' ds' hs), rsl intR (h.length + 1) (Zjt v v' ds ds').1, rsl dotR (h.length + 2) (Zjt v v' ds ds').2], .i .i64 0], h ++ [resB Qv2 true (outL v' ds' hs), resB intR true (Zjt v v' ds ds').1, resB dotR true (Zjt v v' ds ds').2])
    else some (.tu [.ag [.ns, .ns, .ns], .i .i64 10], h)
   else none
 | _, _ => none
theorem KZz {h : List AB} (hz : h.map AB.freeze = h) {l s t s' t' : AV} {hs : List Hd} {xs xs' : List Int} {ds ds' : Dots} (hl : Rd Qv2 h l hs) (hv : Rd intR h s xs) (hd : Rd dotR h t ds) (hv' : Rd intR h s' xs') (hd' : Rd dotR h t' ds') (hL : hs.length ≤ 100000) (k1 : t.capOk = true) (k2 : t'.capOk = true) (v : AV) (h' : List AB) (e : Jga [.ag [l, s, t], .ag [s', t']] h = some (v, h')) :
  FnAt Tryz.prog 20 [.ag [l, s, t], .ag [s', t']] h v h' := by
 simp only [Jga, hl.get, hv.get, hd.get, hv'.get, hd'.get, Option.bind_some] at e
 rw [if_pos ⟨hL, k1, k2⟩] at e
 refine FnAt.run (by kernel_rfl) (T := ⟨[⟨27, z0s, fun _ => []⟩, ⟨59, qVB Zmz, fun _ => []⟩, ⟨48, Xm0, fun _ => []⟩, ⟨46, zyz, fun _ => []⟩, ⟨60, YGv, fun _ => []⟩, ⟨65, KAb, fun _ => []⟩], []⟩) ⟨⟨QOB, zjL, Q2Z, Kg6, ZZP, zjb, trivial⟩, trivial⟩ Tryz.func20 sw20 fun ho hh => ?_
 simp only [Xto, J9P, Bool.and_eq_true] at ho
 have f1 := hl.fx ho.1.1 (sz := 34) rfl
 have f2 := hv.fx ho.1.2.1 (sz := 1) rfl
 have f3 := hd.fx ho.1.2.2.1 (sz := 2) rfl
 have f4 := hv'.fx ho.2.1.1 (sz := 1) rfl
 have f5 := hd'.fx ho.2.1.2.1 (sz := 2) rfl
 have hL' : (hs.length ≤ 1000000) = True := eq_true (by omega)
 unfold w20
 by_cases c0 : KwI hs xs ds = 0
 case neg =>
  rw [if_pos c0] at e
  cases e
  have c0' := eq_false c0
  simp only [X7f, KtR, YUa, YOR, XuN, simprocAttr, CO.tmps, Opd.tmps, optT, Nat.reducePow, Nat.reduceDiv, Nat.reduceMod, f1, f2, f3, f4, f5, z0s, qVB, c0', hL', not_false_eq_true, decide_true, zN5 hh, X9l hz, Zf1 hz, QwP hz]
  exact Bt.drop _ hh rfl (by simp only [zEu, Xto, XSf, J9P, JoB, ok_i, Bool.and_true])
 rw [if_neg (not_not_intro c0)] at e
 by_cases c1 : Zmz xs' ds' = 0
 case neg =>
  rw [if_pos c1] at e
  cases e
  have c1' := eq_false c1
  simp only [X7f, KtR, YUa, YOR, XuN, simprocAttr, CO.tmps, Opd.tmps, optT, Nat.reducePow, Nat.reduceDiv, Nat.reduceMod, f1, f2, f3, f4, f5, z0s, qVB, c0, c1', hL', ne_eq, not_false_eq_true, not_true_eq_false, decide_true, decide_false, zN5 hh, X9l hz, Zf1 hz, QwP hz]
  exact Bt.drop _ hh rfl (by simp only [zEu, Xto, XSf, J9P, JoB, ok_i, Bool.and_true])
 rw [if_neg (not_not_intro c1)] at e
 have c2 := (ZgX c0).1
 have hL2 : (hs.length ≤ 100000) = True := eq_true hL
 by_cases g : (Zjt xs xs' ds ds').2.length ≤ 4096
 ·rw [if_pos g] at e
  cases e
  have g' := eq_true g
  have ao : (apS Qv2 h.length (outL xs' ds' hs)).ok (fun i => decide (i < h.length + 3)) = true := X9s _ _ _ (by simp)
  have qi : ∀ (L : List AB) (a b : Nat), bxL L a = some l → ownC L b = some [s', t'] → qIn (h ++ L) (h.length + a) (h.length + b) = some (hs, xs', ds') := fun L a b b1 b2 => XL8 b1 b2 (hl.app L).get (hv'.app L).get (hd'.app L).get
  have na := qBh (YIm c2) (YIm c1)
  have g6 : ((Zjt xs xs' ds ds').1.length ≤ 1000000 ∧ (Zjt xs xs' ds ds').2.length ≤ 1000000) = True := eq_true ⟨by have := na.rg.1; omega, by omega⟩
  have n1 : ((Zjt xs xs' ds ds').1.length ≤ maxLen) = True := eq_true (by have := na.rg.1; unfold maxLen; omega)
  have n2 : ((Zjt xs xs' ds ds').2.length ≤ maxLen) = True := eq_true (by unfold maxLen; omega)
  simp only [X7f, KtR, YUa, YOR, XuN, simprocAttr, CO.tmps, Opd.tmps, optT, Nat.reducePow, Nat.reduceDiv, Nat.reduceMod, f1, f2, f3, f4, f5, z0s, qVB, Xm0, zyz, YGv, KAb, c0, c1, c2, g', g6, n1, n2, hL', hL2, k1, k2, hl.isSl, hv'.isSl, hd'.isSl, qi, ne_eq, not_false_eq_true, not_true_eq_false, decide_true, decide_false, zN5 hh, X9l hz, Zf1 hz, QwP hz]
  refine Bt.trans ?_ J19
  exact Bt.sel [8, 9, 10] hh (by decide) (by simp only [qpr, FrSel, BlkSel, AV.ren, renL, AV.ok, okL, Option.some.injEq, exists_eq_left', List.length_cons, List.length_nil, Nat.reduceAdd, Nat.reduceLT, reduceCtorEq, implies_true, exists_eq']) (by simp only [qpr, FrSel, BlkSel, AV.ren, renL, AV.ok, okL, Option.some.injEq, exists_eq_left', List.length_cons, List.length_nil, Nat.reduceAdd, Nat.reduceLT, reduceCtorEq, implies_true, exists_eq', ao])
 ·rw [if_neg g] at e
  cases e
  have g' := eq_false g
  simp only [X7f, KtR, YUa, YOR, XuN, simprocAttr, CO.tmps, Opd.tmps, optT, Nat.reducePow, Nat.reduceDiv, Nat.reduceMod, f1, f2, f3, f4, f5, z0s, qVB, Xm0, c0, c1, c2, g', hL', k1, k2, ne_eq, not_false_eq_true, not_true_eq_false, decide_true, decide_false, zN5 hh, X9l hz, Zf1 hz, QwP hz]
  exact Bt.drop _ hh rfl (by simp only [zEu, Xto, XSf, J9P, JoB, ok_i, Bool.and_true])
theorem YD9 : Spec Tryz.prog 20 Jga := by
 intro args h v h' e
 unfold Jga at e
 split at e
 ·rename_i l s t s' t'
  obtain ⟨hs, hl, e⟩ := Ksw e
  obtain ⟨xs, hv, e⟩ := Ksw e
  obtain ⟨ds, hd, e⟩ := Ksw e
  obtain ⟨xs', hv', e⟩ := Ksw e
  obtain ⟨ds', hd', e⟩ := Ksw e
  split at e
  ·rename_i hL
   split at e
   ·rename_i c
    cases e
    refine FnAt.c (FnAt.frz0 fun hz => KZz hz hl.frz hv.frz hd.frz hv'.frz hd'.frz hL.1 hL.2.1 hL.2.2 _ _ ?_)
    simp only [Jga, hl.frz.get, hv.frz.get, hd.frz.get, hv'.frz.get, hd'.frz.get, Option.bind_some]
    rw [if_pos hL, if_pos c]
   ·rename_i c
    split at e
    ·rename_i c1
     cases e
     refine FnAt.c (FnAt.frz0 fun hz => KZz hz hl.frz hv.frz hd.frz hv'.frz hd'.frz hL.1 hL.2.1 hL.2.2 _ _ ?_)
     simp only [Jga, hl.frz.get, hv.frz.get, hd.frz.get, hv'.frz.get, hd'.frz.get, Option.bind_some]
     rw [if_pos hL, if_neg c, if_pos c1]
    ·rename_i c1
     split at e
     ·rename_i g
      cases e
      refine FnAt.c (FnAt.frz fun hz => KZz hz hl.frz hv.frz hd.frz hv'.frz hd'.frz hL.1 hL.2.1 hL.2.2 _ _ ?_)
      simp only [Jga, hl.frz.get, hv.frz.get, hd.frz.get, hv'.frz.get, hd'.frz.get, Option.bind_some, List.length_map]
      rw [if_pos hL, if_neg c, if_neg c1, if_pos g]
     ·rename_i g
      cases e
      refine FnAt.c (FnAt.frz0 fun hz => KZz hz hl.frz hv.frz hd.frz hv'.frz hd'.frz hL.1 hL.2.1 hL.2.2 _ _ ?_)
      simp only [Jga, hl.frz.get, hv.frz.get, hd.frz.get, hv'.frz.get, hd'.frz.get, Option.bind_some]
      rw [if_pos hL, if_neg c, if_neg c1, if_neg g]
  ·cases e
 ·cases e
end Go.Proofs.YtcncpbcbedfakaaGreat
end
section
namespace Go.Proofs.YtcncpbcbedfakaaGreat
open Go.RowKit Go.Shelf Go.Sort
variable {P : Program} {α : Type} {r : Row α}
def YCh [Inhabited α] (cf : α → α → Int) (l : List α) : List α := (pdq (ltOf cf) l.toArray 0 l.toArray.size (Lib.bitLen l.toArray.size) true true).toList
theorem KJc [Inhabited α] {cf : α → α → Int} (hO : SWO (ltOf cf)) (l : List α) : PermIn 0 l.toArray.size l.toArray (YCh cf l).toArray ∧ SortedIn (ltOf cf) 0 l.toArray.size (YCh cf l).toArray := by
 have := pdq_sorts (ltOf cf) hO l.toArray 0 l.toArray.size (Lib.bitLen l.toArray.size) true true (Nat.zero_le _) (Nat.le_refl _) (Or.inl rfl)
 exact this
theorem KYO [Inhabited α] {cf : α → α → Int} (hO : SWO (ltOf cf)) (l : List α) : (YCh cf l).length = l.length := by
 have := (KJc hO l).1.1
 simpa using this
theorem JLM [Inhabited α] {cf : α → α → Int} (hO : SWO (ltOf cf)) (l : List α) : (YCh cf l).Perm l := by
 obtain ⟨⟨h1, _, h3⟩, _⟩ := KJc hO l
 have e1 : (YCh cf l).toArray.extract 0 l.toArray.size = (YCh cf l).toArray := by rw [← h1]; exact Array.extract_size
 rw [e1, Array.extract_size] at h3
 simpa using h3
theorem QfE [Inhabited α] {cf : α → α → Int} (hO : SWO (ltOf cf)) (l : List α) : (YCh cf l).Pairwise fun x y => ¬ cf y x < 0 := by
 have hl := KYO hO l
 have h := (KJc hO l).2
 rw [List.pairwise_iff_getElem]
 intro i j hi hj hij
 have hi' : i < (YCh cf l).toArray.size := by simpa using hi
 have hj' : j < (YCh cf l).toArray.size := by simpa using hj
 have := h i j (Nat.zero_le _) hij (by simp; omega)
 rw [getElem!_pos _ j hj', getElem!_pos _ i hi'] at this
 simpa [ltOf] using this
theorem YS0 [Inhabited α] {N : Ren} (L : SlLaysF0.n6 P N) (aE : ∀ w, (isAgg (N.t 24)).run P w = .ok true w) (zE : ∀ w, (Go.sizeOf (N.t 24)).run P w = .ok r.sz w) {cf : α → α → Int} (hO : SWO (ltOf cf))
  {g : Nat} (hc : Cmps P g r cf) (hfl : ∀ x, ∀ a ∈ r.f x, a.fl = true) (h1 : ∀ x, ∀ v ∈ r.enc x, v.oneCell' = true)
  {h : List AB} {id : Nat} (l : List α) (hb : h[id]? = some (resB r true l)) (hl : l.length ≤ 1000000) :
  FnC P (N.f 6) [rsl r id l, .f (.func g) [] []] h (.tu []) (h.set id (resB r true (YCh cf l))) := by
 obtain ⟨nm, hnm, hf⟩ := L.f6
 refine ⟨⟨_, _, hf, by simpa using hnm, rfl⟩, fun ρ w vals hr hv => ?_⟩
 obtain ⟨v, f, rfl, hv1, hv2⟩ := KW3 hv
 have := KZF hv2
 subst this
 by_cases h0 : l.length = 0
 ·have : l = [] := List.eq_nil_of_length_eq_zero h0
  subst this
  simp only [rsl, List.length_nil, if_true] at hv1
  obtain ⟨a, c, rfl⟩ := Yw9 hv1 rfl
  refine (AnyF.slices_SortFunc_none L a c _ w).mono ?_
  rintro e w' ⟨rfl, rfl⟩
  rw [List.eq_nil_of_length_eq_zero (KYO hO []), Z5S h id _ hb]
  exact ⟨_, ρ, rfl, .tu [] #[] rfl fun j a c q => by simp at q, hr, EffP.refl _ _ _ _⟩
 ·simp only [rsl, if_neg h0] at hv1
  obtain ⟨b, o, n, cap', hρ, rfl, _, hlc, hcm, hcap⟩ := Jwk hv1 h0
  have hB := hr.blk id _ b o n hb hρ
  simp only [resB, if_neg h0, BR] at hB
  obtain ⟨cs, e, fz, hheap, hm, hlen, hcells⟩ := hB
  obtain ⟨rfl, hn⟩ := hm trivial
  have hblk : b < w.heap.size := (Array.getElem?_eq_some_iff.1 hheap).1
  have hall : ∀ a ∈ r.cells l, a.fl = true := fun a ha => by
   obtain ⟨x, _, hx⟩ := List.mem_flatMap.1 ha
   exact hfl x a hx
  have hH : HoldsK r.enc r.sz w b o l.toArray := by
   unfold HoldsK
   rw [zAT]
   intro j hj
   have hj' : j < (r.cells l).length := by simpa using hj
   have hoj : o + j < cs.size := by omega
   refine ⟨?_, ?_⟩
   ·unfold World.cell?
    simp only [hheap]
    have hv := hcells j _ _ (List.getElem?_eq_getElem hj') (Array.getElem?_eq_getElem hoj)
    rw [getElem!_pos (((r.cells l).map AV.val).toArray) j hj]
    simp only [Option.isSome_none, Bool.false_eq_true, if_false, Array.getElem?_eq_getElem hoj, Option.some.injEq, List.getElem_toArray, List.getElem_map, id_eq]
    exact KPQ (hall _ (List.getElem_mem hj')) hv
   ·unfold World.frozen?
    simp only [hheap]
    simp
  obtain ⟨⟨gf, gb, hg1, hg2, hg3⟩, _⟩ := hc r.d r.d []
  have eg : ∀ args w, (callFunc g args).run P w = .ok (.enter g args) w := fun args w => by simp [callFunc, hg1, hg2, hg3]
  have hC := AnyQ.slices_SortFunc_eq L r.sz aE zE r.enc (fun x => by simp [Row.enc, r.len]) h1 cf hO g #[] b o cap' l.toArray w eg (hc.lays hfl b o l.toArray.size w) hH hblk (by simp; omega)
  refine Calls.mono (show Calls P (N.f 6) #[.slice (some ⟨b, o + 0, none⟩) l.length cap', .func (.func g) #[] #[]] w _ from hC) ?_
  rintro e w' ⟨rfl, n', os, rfl⟩
  have hll : (YCh cf l).length = l.length := KYO hO l
  have hpq : pdq (ltOf cf) l.toArray 0 l.toArray.size (Lib.bitLen l.toArray.size) true true = (YCh cf l).toArray := rfl
  rw [hpq]
  generalize YCh cf l = l' at *
  have h0' : ¬ l'.length = 0 := by omega
  have hall' : ∀ a ∈ r.cells l', a.fl = true := fun a ha => by
   obtain ⟨x, _, hx⟩ := List.mem_flatMap.1 ha
   exact hfl x a hx
  have hcl : (r.cells l').length = (r.cells l).length := by rw [r.cells_len, r.cells_len, hll]
  have hW : sortWorldK r.enc r.sz w b o n' l'.toArray os = Go.Sort.grow (mapBlock (Go.Sort.ahead w n') b (putCells _root_.id o ((r.cells l').map AV.val).toArray)) os := by
   unfold sortWorldK putRowK putRow
   rw [zAT]
  rw [hW]
  have hput := hr.put (w' := mapBlock (Go.Sort.ahead w n') b (putCells _root_.id o ((r.cells l').map AV.val).toArray)) hb (by simp [resB, h0, AB.mut]) hρ (B' := resB r true l') (by
   simp only [resB, if_neg h0', BR]
   refine ⟨putCells _root_.id o ((r.cells l').map AV.val).toArray cs, e, (0, 0), ?_, fun _ => ⟨rfl, by simp [putCells]; exact hn⟩, by simp [putCells, hcl]; exact hlen, fun k a c ha hc' => ?_⟩
   ·simp only [mapBlock, Go.Sort.ahead, Array.getElem?_modify, if_true, hheap, Option.map_some, onCells]
   ·have hk := (List.getElem?_eq_some_iff.1 ha).1
    have hok : o + k < cs.size := by omega
    have hka : a = (r.cells l')[k] := (List.getElem?_eq_some_iff.1 ha).2.symm
    simp only [putCells, Array.getElem?_mapIdx, Array.getElem?_eq_getElem hok, Option.map_some] at hc'
    rw [if_pos (by constructor <;> simp <;> omega)] at hc'
    simp only [Option.some.injEq, id_eq, Nat.add_sub_cancel_left] at hc'
    rw [getElem!_pos (((r.cells l').map AV.val).toArray) k (by simpa using hk)] at hc'
    simp only [List.getElem_toArray, List.getElem_map] at hc'
    subst hka
    rw [← hc']
    exact zto _ (hall' _ (List.getElem_mem hk))) rfl rfl ⟨rfl, Nat.le_add_right _ _⟩ (by simp [mapBlock, Go.Sort.ahead]) (fun k hk => by
   simp only [mapBlock, Go.Sort.ahead, Array.getElem?_modify]
   rw [if_neg (fun q => hk q.symm)]) (fun _ => by simp [resB, h0, AB.live])
  have hgrow := hput.1.grown os
  exact ⟨_, ρ, rfl, .tu [] #[] rfl fun j a c q => by simp at q, hgrow.1, (hput.2.trans hgrow.2).p (Ext.refl _) (by rw [hr.len]; exact Nat.le_refl _)⟩
end Go.Proofs.YtcncpbcbedfakaaGreat
end
section
namespace Go.Proofs.YtcncpbcbedfakaaGreat
open Go.Shelf
def zGD : Go.Shelf.Ren := ⟨fun | 6 => 49 | 15 => 88 | 14 => 87 | 28 => 127 | 29 => 128 | 20 => 119 | 21 => 120 | 22 => 121 | 23 => 122 | 24 => 123 | 25 => 124 | 26 => 125 | 27 => 126 | 46 => 148 | 47 => 149 | 48 => 150 | 49 => 151 | 50 => 152 | 57 => 169 | n => n, fun | 22 => 22 | 24 => 54 | 25 => 83 | 3 => 3 | 39 => 119 | 0 => 0 | 53 => 151 | 55 => 153 | 4 => 4 | 46 => 145 | 45 => 144 | 50 => 135 | 5 => 5 | 9 => 9 | 66 => 164 | 70 => 168 | 76 => 183 | 77 => 184 | n => n, fun | n => n⟩
theorem QQ5 : Go.Proofs.SlLaysF0.n6 Tryz.prog zGD := {
 mixed := by kernel_rfl
 f6 := ⟨Tryz.f49.name, by decide, Tryz.func49.trans (congrArg some (by kernel_rfl))⟩
 f14 := ⟨Tryz.f87.name, by decide, Tryz.func87.trans (congrArg some (by kernel_rfl))⟩
 f15 := Tryz.func88.trans (congrArg some (by kernel_rfl))
 f20 := ⟨Tryz.f119.name, by decide, Tryz.func119.trans (congrArg some (by kernel_rfl))⟩
 f21 := ⟨Tryz.f120.name, by decide, Tryz.func120.trans (congrArg some (by kernel_rfl))⟩
 f22 := ⟨Tryz.f121.name, by decide, Tryz.func121.trans (congrArg some (by kernel_rfl))⟩
 f23 := ⟨Tryz.f122.name, by decide, Tryz.func122.trans (congrArg some (by kernel_rfl))⟩
 f24 := ⟨Tryz.f123.name, by decide, Tryz.func123.trans (congrArg some (by kernel_rfl))⟩
 f25 := ⟨Tryz.f124.name, by decide, Tryz.func124.trans (congrArg some (by kernel_rfl))⟩
 f26 := ⟨Tryz.f125.name, by decide, Tryz.func125.trans (congrArg some (by kernel_rfl))⟩
 f27 := ⟨Tryz.f126.name, by decide, Tryz.func126.trans (congrArg some (by kernel_rfl))⟩
 f28 := Tryz.func127.trans (congrArg some (by kernel_rfl))
 f29 := Tryz.func128.trans (congrArg some (by kernel_rfl))
 f46 := ⟨Tryz.f148.name, by decide, Tryz.func148.trans (congrArg some (by kernel_rfl))⟩
 f47 := Tryz.func149.trans (congrArg some (by kernel_rfl))
 f48 := Tryz.func150.trans (congrArg some (by kernel_rfl))
 f49 := ⟨Tryz.f151.name, by decide, Tryz.func151.trans (congrArg some (by kernel_rfl))⟩
 f50 := ⟨Tryz.f152.name, by decide, Tryz.func152.trans (congrArg some (by kernel_rfl))⟩
 f57 := ⟨Tryz.f169.name, by decide, Tryz.func169.trans (congrArg some (by kernel_rfl))⟩
 t0 := Tryz.underlying0
 a0 := Tryz.isAgg0
 z0 := Tryz.sizeOf0
 v0 := Tryz.zeroValue0
 t3 := Tryz.underlying3
 a3 := Tryz.isAgg3
 z3 := Tryz.sizeOf3
 v3 := Tryz.zeroValue3
 t4 := Tryz.underlying4
 a4 := Tryz.isAgg4
 z4 := Tryz.sizeOf4
 v4 := Tryz.zeroValue4
 t5 := Tryz.underlying5
 a5 := Tryz.isAgg5
 z5 := Tryz.sizeOf5
 v5 := Tryz.zeroValue5
 t9 := Tryz.underlying9
 a9 := Tryz.isAgg9
 z9 := Tryz.sizeOf9
 v9 := Tryz.zeroValue9
 t22 := Tryz.underlying22
 a22 := Tryz.isAgg22
 z22 := Tryz.sizeOf22
 v22 := Tryz.zeroValue22
 t25 := Tryz.underlying83
 a25 := Tryz.isAgg83
 z25 := Tryz.sizeOf83
 v25 := Tryz.zeroValue83
 t39 := Tryz.underlying119
 a39 := Tryz.isAgg119
 z39 := Tryz.sizeOf119
 v39 := Tryz.zeroValue119
 t45 := Tryz.underlying144
 a45 := Tryz.isAgg144
 z45 := Tryz.sizeOf144
 v45 := Tryz.zeroValue144
 t46 := Tryz.underlying145
 a46 := Tryz.isAgg145
 z46 := Tryz.sizeOf145
 v46 := Tryz.zeroValue145
 t50 := Tryz.underlying135
 a50 := Tryz.isAgg135
 z50 := Tryz.sizeOf135
 v50 := Tryz.zeroValue135
 t53 := Tryz.underlying151
 a53 := Tryz.isAgg151
 z53 := Tryz.sizeOf151
 v53 := Tryz.zeroValue151
 t55 := Tryz.underlying153
 a55 := Tryz.isAgg153
 z55 := Tryz.sizeOf153
 v55 := Tryz.zeroValue153
 t66 := Tryz.underlying164
 a66 := Tryz.isAgg164
 z66 := Tryz.sizeOf164
 v66 := Tryz.zeroValue164
 t70 := Tryz.underlying168
 a70 := Tryz.isAgg168
 z70 := Tryz.sizeOf168
 v70 := Tryz.zeroValue168
 t76 := Tryz.underlying183
 a76 := Tryz.isAgg183
 z76 := Tryz.sizeOf183
 v76 := Tryz.zeroValue183
 t77 := Tryz.underlying184
 a77 := Tryz.isAgg184
 z77 := Tryz.sizeOf184
 v77 := Tryz.zeroValue184 }
end Go.Proofs.YtcncpbcbedfakaaGreat
end
section
namespace Go.Proofs.YtcncpbcbedfakaaGreat
open Go.Sort
set_option maxRecDepth 100000
set_option maxHeartbeats 4000000
instance : Inhabited Hd := ⟨Qv2.d⟩
def cfH (x y : Hd) : Int := cmpD x.1 y.1
theorem XH8 : SWO (ltOf cfH) := ⟨fun x => qMQ.irrefl x.1, fun x y z => qMQ.trans x.1 y.1 z.1, fun x y z => qMQ.ntrans x.1 y.1 z.1⟩
theorem YOC : Cmps Tryz.prog 50 Qv2 cfH := fun x y h => qkk _ _ _ _ (by simp only [Kpc, XMh, Option.bind_some]; rfl)
theorem qvB (x : Hd) : ∀ v ∈ Qv2.enc x, v.oneCell' = true := fun v hv => by
 obtain ⟨a, ha, rfl⟩ := List.mem_map.1 (show v ∈ (Qv2.f x).map AV.val from hv)
 rw [Xjz] at ha
 rcases List.mem_cons.1 ha with rfl | ha
 ·rfl
 ·rcases List.mem_cons.1 ha with rfl | ha
  ·rfl
  ·obtain ⟨b, _, rfl⟩ := List.mem_map.1 (show a ∈ x.2.l.map u8A from ha)
   rfl
open Classical in
noncomputable def Kr3 : List AV → List AB → Option (AV × List AB)
 | [s, .f (.func 50) [] []], h => (getS Qv2 h s).bind fun l => match idOf s with
   | [id] => if l.length ≤ 1000000 ∧ s = rsl Qv2 id l ∧ h[id]? = some (resB Qv2 true l) then some (.tu [], h.set id (resB Qv2 true (YCh cfH l))) else none
   | _ => none
 | _, _ => none
theorem zVb : Spec Tryz.prog 49 Kr3 := by
 intro args h v h' e
 unfold Kr3 at e
 split at e
 ·rename_i s
  obtain ⟨l, hs, e⟩ := Ksw e
  split at e
  ·rename_i id hid
   split at e
   ·rename_i hc
    cases e
    obtain ⟨h1, rfl, h3⟩ := hc
    exact YS0 (r := Qv2) QQ5 Tryz.isAgg54 Tryz.sizeOf54 XH8 YOC XwS qvB l h3 h1
   ·cases e
  ·cases e
 ·cases e
theorem YsF {l : List Hd} (hd : l.Pairwise fun x y => x.1 ≠ y.1) : (YCh cfH l).Pairwise J9e :=
 XIR (JLM XH8 l) ((QfE XH8 l).imp fun {x y} h q => h (by unfold cfH; rw [QVK]; exact q)) hd
theorem Jir (l : List Hd) (x : Hd) : x ∈ YCh cfH l ↔ x ∈ l := (JLM XH8 l).mem_iff
theorem qXy (l : List Hd) : (YCh cfH l).length = l.length := KYO XH8 l
theorem zSD {x y : Hd} (h : x.1 ≠ y.1) : J9e x y ∨ J9e y x := by
 rcases XH3 x.1 y.1 with q | q | q
 ·exact .inl q
 ·exact absurd q h
 ·exact .inr q
theorem KcE {o : List Hd} {x : Hd} (ho : o.Pairwise J9e) (hx : ∀ y ∈ o, y.1 ≠ x.1) : YCh cfH (o ++ [x]) = layG J9e o x := by
 refine JGF ZBK (YsF (List.pairwise_append.2 ⟨KGi ho, List.pairwise_singleton _ _, fun y hy z hz => ?_⟩)) (Yxc ZBK ho fun y hy => zSD (hx y hy)) fun y => ?_
 ·rw [List.mem_singleton.1 hz]
  exact hx y hy
 ·rw [Jir, JSu, List.mem_append, List.mem_singleton, or_comm]
open Classical in
noncomputable def getI (a : AV) : Option Dg := if e : ∃ y, a = .ag (idR.f y) then some e.choose else none
theorem zJO (y : Dg) : getI (.ag (idR.f y)) = some y := by
 have e : ∃ z, AV.ag (idR.f y) = .ag (idR.f z) := ⟨y, rfl⟩
 unfold getI
 rw [dif_pos e]
 have h := e.choose_spec
 rw [AV.ag.injEq] at h
 rw [← idR.inj _ _ h]
theorem qAl {β : Type} {a : AV} {f : Dg → Option β} {b : β} (e : (getI a).bind f = some b) : ∃ y, a = .ag (idR.f y) ∧ f y = some b := by
 unfold getI at e
 split at e
 ·rename_i h
  exact ⟨h.choose, h.choose_spec, e⟩
 ·cases e
noncomputable def mkO (v : List Int) (ds : Dots) (d : Int × Int) : List Int × Dots := fmO v (ds ++ [d])
noncomputable def wrE (hs : List Hd) (v : List Int) (ds : Dots) (d : Int × Int) (v' : List Int) (ds' : Dots) : Int :=
 if KwI hs v ds ≠ 0 then KwI hs v ds else if ¬ qu1 d then 3 else if Zmz v' ds' ≠ 0 then Zmz v' ds' else if YC0 v ds d ∨ YC0 v' ds' d then 19
 else if ¬ (Zjt v v' ds ds').2.length ≤ 4096 then 10 else if ¬ (mkO (Zjt v v' ds ds').1 (Zjt v v' ds ds').2 d).2.length ≤ 4096 then 10 else 0
theorem zQ5 {hs : List Hd} {v : List Int} {ds : Dots} {d : Int × Int} {v' : List Int} {ds' : Dots} (h : wrE hs v ds d v' ds' = 0) : KwI hs v ds = 0 ∧ qu1 d ∧ Zmz v' ds' = 0 ∧ ¬ YC0 v ds d ∧ ¬ YC0 v' ds' d ∧ (Zjt v v' ds ds').2.length ≤ 4096 ∧ (mkO (Zjt v v' ds ds').1 (Zjt v v' ds ds').2 d).2.length ≤ 4096 := by
 unfold wrE at h
 split at h
 ·rename_i c; exact absurd h c
 ·rename_i c1
  split at h
  ·simp at h
  ·rename_i c2
   split at h
   ·rename_i c; exact absurd h c
   ·rename_i c3
    split at h
    ·simp at h
    ·rename_i c4
     split at h
     ·simp at h
     ·rename_i c5
      split at h
      ·simp at h
      ·rename_i c6
       exact ⟨Decidable.not_not.1 c1, Decidable.not_not.1 c2, Decidable.not_not.1 c3, fun q => c4 (.inl q), fun q => c4 (.inr q), Decidable.not_not.1 c5, Decidable.not_not.1 c6⟩
noncomputable def wrL (hs : List Hd) (v' : List Int) (ds' : Dots) (x : Hd) : List Hd := layG J9e (outL v' ds' hs) x
theorem zfL (hs : List Hd) (v' : List Int) (ds' : Dots) (x : Hd) : (wrL hs v' ds' x).length ≤ hs.length + 1 := by
 unfold wrL
 rw [zKT]
 have := JKG v' ds' hs
 omega
theorem ZNT {v : List Int} {ds : Dots} (h : NF v ds) (hl : ds.length ≤ 4096) (l : List Hd) : outL v ds l = outG v ds l := by
 unfold outL outG
 congr 1
 funext x
 refine decide_eq_decide.2 (not_congr ?_)
 rw [Zga h.rg, and_iff_right (h.check hl)]
theorem YsH {hs : List Hd} {v : List Int} {ds : Dots} {d : Int × Int} {v' : List Int} {ds' : Dots} (h : wrE hs v ds d v' ds' = 0) (i : Dg) : YCh cfH (outL v' ds' hs ++ [(d, i)]) = wrL hs v' ds' (d, i) := by
 obtain ⟨c1, _, _, c4, _⟩ := zQ5 h
 have rg := XFh.1 c1
 refine KcE (rg.rise.filter _) fun y hy e => c4 ?_
 have := rg.sn y (List.mem_filter.1 hy).1
 rw [e] at this
 exact (Zga rg.nf.rg d).2 this
noncomputable def Z6Z : List AV → List AB → Option (AV × List AB)
 | [.ag [l, s, t], .ag [.i .i64 a, .i .i64 b], x, .ag [s', t']], h => (getS Qv2 h l).bind fun hs => (getS intR h s).bind fun v => (getS dotR h t).bind fun ds => (getS intR h s').bind fun v' => (getS dotR h t').bind fun ds' => (getI x).bind fun i =>
   if hs.length ≤ 100000 ∧ t.capOk = true ∧ t'.capOk = true then
    if wrE hs v ds (a, b) v' ds' ≠ 0 then some (.tu [.ag [.ns, .ns, .ns], .i .i64 (wrE hs v ds (a, b) v' ds')], h)
    else some (.tu [.ag [rsl Qv2 h.length (wrL hs v' ds' ((a, b), i)), rsl intR (h.length + 1) (mkO (Zjt v v' ds ds').1 (Zjt v v' ds ds').2 (a, b)).1, rsl dotR (h.length + 2) (mkO (Zjt v v' ds ds').1 (Zjt v v' ds ds').2 (a, b)).2], .i .i64 0],
     h ++ [resB Qv2 true (wrL hs v' ds' ((a, b), i)), resB intR true (mkO (Zjt v v' ds ds').1 (Zjt v v' ds ds').2 (a, b)).1, resB dotR true (mkO (Zjt v v' ds ds').1 (Zjt v v' ds ds').2 (a, b)).2])
   else none
 | _, _ => none
theorem qYf {h : List AB} (hz : h.map AB.freeze = h) {l s t s' t' : AV} {a b : Int} {i : Dg} {hs : List Hd} {xs xs' : List Int} {ds ds' : Dots} (hl : Rd Qv2 h l hs) (hv : Rd intR h s xs) (hd : Rd dotR h t ds) (hv' : Rd intR h s' xs') (hd' : Rd dotR h t' ds') (hL : hs.length ≤ 100000) (k1 : t.capOk = true) (k2 : t'.capOk = true) (v : AV) (h' : List AB) (e : Z6Z [.ag [l, s, t], .ag [.i .i64 a, .i .i64 b], .ag (idR.f i), .ag [s', t']] h = some (v, h')) :
  FnAt Tryz.prog 18 [.ag [l, s, t], .ag [.i .i64 a, .i .i64 b], .ag (idR.f i), .ag [s', t']] h v h' := by
 simp only [Z6Z, hl.get, hv.get, hd.get, hv'.get, hd'.get, zJO, Option.bind_some] at e
 rw [if_pos ⟨hL, k1, k2⟩] at e
 refine FnAt.run (by kernel_rfl) (T := ⟨[⟨27, z0s, fun _ => []⟩, ⟨59, qVB Zmz, fun _ => []⟩, ⟨58, Q02, fun _ => []⟩, ⟨39, JH2, fun _ => []⟩, ⟨48, YK0, fun _ => []⟩, ⟨46, zyz, fun _ => []⟩, ⟨60, YGv, fun _ => []⟩, ⟨49, Kr3, fun _ => []⟩], []⟩) ⟨⟨QOB, zjL, KV7, q69, YDb, Kg6, ZZP, zVb, trivial⟩, trivial⟩ Tryz.func18 sw18 fun ho hh => ?_
 simp only [Xto, J9P, Bool.and_eq_true] at ho
 have f1 := hl.fx ho.1.1 (sz := 34) rfl
 have f2 := hv.fx ho.1.2.1 (sz := 1) rfl
 have f3 := hd.fx ho.1.2.2.1 (sz := 2) rfl
 have f4 := hv'.fx ho.2.2.2.1.1 (sz := 1) rfl
 have f5 := hd'.fx ho.2.2.2.1.2.1 (sz := 2) rfl
 have hL' : (hs.length ≤ 1000000) = True := eq_true (by omega)
 have hL2 : (hs.length ≤ 100000) = True := eq_true hL
 unfold w18
 by_cases c0 : KwI hs xs ds = 0
 case neg =>
  have hE : wrE hs xs ds (a, b) xs' ds' = KwI hs xs ds := by unfold wrE; rw [if_pos c0]
  rw [hE, if_pos c0] at e
  cases e
  have c0' := eq_false c0
  simp only [X7f, KtR, YUa, YOR, XuN, simprocAttr, CO.tmps, Opd.tmps, optT, Nat.reducePow, Nat.reduceDiv, Nat.reduceMod, f1, f2, f3, f4, f5, z0s, c0', hL', XRx, JUv, Q40, qdw, not_false_eq_true, decide_true, zN5 hh, X9l hz, Zf1 hz, QwP hz]
  exact Bt.drop _ hh rfl (by simp only [zEu, Xto, XSf, J9P, JoB, ok_i, Bool.and_true])
 have rg1 : (YoS [] [(a, b)]) = (qu1 (a, b)) := propext ⟨fun q => q.2.2 _ (.head _), fun q => ⟨Nat.zero_le _, by simp, by simpa using q⟩⟩
 have gu : ∀ (L : List AB) (k : Nat), ownC L k = some [.i .i64 a, .i .i64 b] → getS dotR (h ++ L) (.sl (h.length + k) 0 1 1 none) = some [(a, b)] := fun L k q => (QYK (r := dotR) (n := 1) (l := [(a, b)]) q (by unfold maxLen; simp) (by simp)).get
 have g00 : (([(a, b)] : Dots).length ≤ 100000) = True := eq_true (by simp)
 by_cases c1 : qu1 (a, b)
 case neg =>
  have hE : wrE hs xs ds (a, b) xs' ds' = 3 := by unfold wrE; rw [if_neg (not_not_intro c0), if_pos c1]
  rw [hE, if_pos (by decide)] at e
  cases e
  have c1' := eq_false c1
  simp only [X7f, KtR, YUa, YOR, XuN, simprocAttr, CO.tmps, Opd.tmps, optT, Nat.reducePow, Nat.reduceDiv, Nat.reduceMod, f1, f2, f3, f4, f5, z0s, Q02, c0, c1', rg1, g00, gu, hL', XRx, JUv, Q40, qdw, ne_eq, not_false_eq_true, not_true_eq_false, decide_true, decide_false, zN5 hh, X9l hz, Zf1 hz, QwP hz]
  exact Bt.drop _ hh rfl (by simp only [zEu, Xto, XSf, J9P, JoB, ok_i, Bool.and_true])
 have c1' := eq_true c1
 have f00 : ((fmO [] [(a, b)]).2.length ≤ 4096) = True := eq_true (Nat.le_trans (zp4 (by rw [rg1]; exact c1)) (by simp))
 by_cases c2 : Zmz xs' ds' = 0
 case neg =>
  have hE : wrE hs xs ds (a, b) xs' ds' = Zmz xs' ds' := by unfold wrE; rw [if_neg (not_not_intro c0), if_neg (not_not_intro c1), if_pos c2]
  rw [hE, if_pos c2] at e
  cases e
  have c2' := eq_false c2
  simp only [X7f, KtR, YUa, YOR, XuN, simprocAttr, CO.tmps, Opd.tmps, optT, Nat.reducePow, Nat.reduceDiv, Nat.reduceMod, f1, f2, f3, f4, f5, z0s, qVB, Q02, c0, c1', c2', rg1, g00, gu, f00, hL', XRx, JUv, Q40, qdw, ne_eq, not_false_eq_true, not_true_eq_false, decide_true, decide_false, zN5 hh, X9l hz, Zf1 hz, QwP hz]
  exact Bt.drop _ hh rfl (by simp only [zEu, Xto, XSf, J9P, JoB, ok_i, Bool.and_true])
 have cs := (ZgX c0).1
 by_cases c3 : YC0 xs ds (a, b) ∨ YC0 xs' ds' (a, b)
 ·have hE : wrE hs xs ds (a, b) xs' ds' = 19 := by unfold wrE; rw [if_neg (not_not_intro c0), if_neg (not_not_intro c1), if_neg (not_not_intro c2), if_pos c3]
  rw [hE, if_pos (by decide)] at e
  cases e
  by_cases c4 : YC0 xs ds (a, b)
  ·have c4' := eq_true c4
   simp only [X7f, KtR, YUa, YOR, XuN, simprocAttr, CO.tmps, Opd.tmps, optT, Nat.reducePow, Nat.reduceDiv, Nat.reduceMod, f1, f2, f3, f4, f5, z0s, qVB, Q02, JH2, c0, c1', c2, cs, c4', rg1, g00, gu, f00, hL', XRx, JUv, Q40, qdw, ne_eq, not_false_eq_true, not_true_eq_false, decide_true, decide_false, zN5 hh, X9l hz, Zf1 hz, QwP hz]
   exact Bt.drop _ hh rfl (by simp only [zEu, Xto, XSf, J9P, JoB, ok_i, Bool.and_true])
  ·have c4' := eq_false c4
   have c5' := eq_true (c3.resolve_left c4)
   simp only [X7f, KtR, YUa, YOR, XuN, simprocAttr, CO.tmps, Opd.tmps, optT, Nat.reducePow, Nat.reduceDiv, Nat.reduceMod, f1, f2, f3, f4, f5, z0s, qVB, Q02, JH2, c0, c1', c2, cs, c4', c5', rg1, g00, gu, f00, hL', XRx, JUv, Q40, qdw, ne_eq, not_false_eq_true, not_true_eq_false, decide_true, decide_false, zN5 hh, X9l hz, Zf1 hz, QwP hz]
   exact Bt.drop _ hh rfl (by simp only [zEu, Xto, XSf, J9P, JoB, ok_i, Bool.and_true])
 have c4' := eq_false (fun q => c3 (.inl q) : ¬ YC0 xs ds (a, b))
 have c5' := eq_false (fun q => c3 (.inr q) : ¬ YC0 xs' ds' (a, b))
 by_cases c6 : (Zjt xs xs' ds ds').2.length ≤ 4096
 case neg =>
  have hE : wrE hs xs ds (a, b) xs' ds' = 10 := by unfold wrE; rw [if_neg (not_not_intro c0), if_neg (not_not_intro c1), if_neg (not_not_intro c2), if_neg c3, if_pos c6]
  rw [hE, if_pos (by decide)] at e
  cases e
  have c6' := eq_false c6
  simp only [X7f, KtR, YUa, YOR, XuN, simprocAttr, CO.tmps, Opd.tmps, optT, Nat.reducePow, Nat.reduceDiv, Nat.reduceMod, f1, f2, f3, f4, f5, z0s, qVB, Q02, JH2, YK0, c0, c1', c2, cs, c4', c5', c6', rg1, g00, gu, f00, hL', k1, k2, XRx, JUv, Q40, qdw, ne_eq, not_false_eq_true, not_true_eq_false, decide_true, decide_false, zN5 hh, X9l hz, Zf1 hz, QwP hz]
  exact Bt.drop _ hh rfl (by simp only [zEu, Xto, XSf, J9P, JoB, ok_i, Bool.and_true])
 have c6' := eq_true c6
 have na := qBh (YIm cs) (YIm c2)
 have hmk : ∀ x, mkO (Zjt xs xs' ds ds').1 (Zjt xs xs' ds ds').2 x = fmO (Zjt xs xs' ds ds').1 ((Zjt xs xs' ds ds').2 ++ [x]) := fun _ => rfl
 have rgJ : YoS (Zjt xs xs' ds ds').1 ((Zjt xs xs' ds ds').2 ++ [(a, b)]) = True := eq_true ⟨na.rg.1, na.rg.2.1, fun x hx => by
  rcases List.mem_append.1 hx with q | q
  ·exact na.rg.2.2 x q
  ·rw [List.mem_singleton.1 q]; exact c1⟩
 have lJ1 := na.rg.1
 have qi : ∀ (L : List AB) (a b : Nat), bxL L a = some l → ownC L b = some [s', t'] → qIn (h ++ L) (h.length + a) (h.length + b) = some (hs, xs', ds') := fun L a b b1 b2 => XL8 b1 b2 (hl.app L).get (hv'.app L).get (hd'.app L).get
 have hap : (Zjt xs xs' ds ds').2 = [] ∨ (Zjt xs xs' ds ds').2 ≠ [] := Classical.em _
 generalize hJ : Zjt xs xs' ds ds' = J at *
 obtain ⟨jv, jd⟩ := J
 dsimp only at *
 have g7 : ((jd ++ [(a, b)]).length ≤ 100000) = True := eq_true (by rw [List.length_append]; simp; omega)
 have g8 : (jd ++ [(a, b)]).length ≤ maxLen := by unfold maxLen; rw [List.length_append]; simp; omega
 have z3 : (1 * 16 ≤ 140737488355328 ∧ 1 ≤ maxLen) = True := eq_true ⟨by decide, by unfold maxLen; omega⟩
 have z4 : (1 * 48 ≤ 140737488355328 ∧ 1 ≤ maxLen) = True := eq_true ⟨by decide, by unfold maxLen; omega⟩
 have n1 : (jv.length ≤ maxLen) = True := eq_true (by unfold maxLen; omega)
 have gu2 : ∀ (L : List AB) (k : Nat), ownC L k = some (dotR.cells jd ++ [.i .i64 a, .i .i64 b]) → getS dotR (h ++ L) (.sl (h.length + k) 0 (jd.length + 1) (jd.length + 1) (some 2)) = some (jd ++ [(a, b)]) := fun L k q => by
  have := (QYK (h := h) (r := dotR) (n := jd.length + 1) (c := jd.length + 1) (kk := some 2) (l := jd ++ [(a, b)]) (L := L) (k := k) (by rw [q, Q2n]; rfl) g8 (by simp)).get
  rw [List.take_of_length_le (by simp)] at this
  exact this
 have fj := fun (q0 : jd.length ≠ 0) L k ys hb => z4x (h := h) (p := h.length) rfl (r := dotR) (sz := 2) rfl L k jd 16 1 ys q0 hb (by decide) (by omega) (by unfold maxLen; omega)
 have lo := JKG xs' ds' hs
 have so : wrE hs xs ds (a, b) xs' ds' = 0 → ∀ (L : List AB) (k : Nat), L[k]? = some (.blk true true (Qv2.cells (outL xs' ds' hs) ++ (.i .i64 a :: .i .i64 b :: idR.f i))) → Kr3 [.sl (h.length + k) 0 ((outL xs' ds' hs).length + 1) ((outL xs' ds' hs).length + 1) (some 34), .f (.func 50) [] []] (h ++ L) = some (.tu [], h ++ L.set k (resB Qv2 true (wrL hs xs' ds' ((a, b), i)))) := fun hE L k q => by
  have e1 : AV.sl (h.length + k) 0 ((outL xs' ds' hs).length + 1) ((outL xs' ds' hs).length + 1) (some 34) = rsl Qv2 (h.length + k) (outL xs' ds' hs ++ [((a, b), i)]) := by rw [K3e]; rfl
  have e2 : AB.blk true true (Qv2.cells (outL xs' ds' hs) ++ (.i .i64 a :: .i .i64 b :: idR.f i)) = resB Qv2 true (outL xs' ds' hs ++ [((a, b), i)]) := by rw [XJF]; rfl
  rw [e1]
  rw [e2] at q
  have hn : (outL xs' ds' hs ++ [((a, b), i)]).length ≤ maxLen := by rw [List.length_append]; unfold maxLen; simp; omega
  have h2 : (h ++ L)[h.length + k]? = some (resB Qv2 true (outL xs' ds' hs ++ [((a, b), i)])) := by rw [zn7]; exact q
  have h1 := (Qgm h2 hn).get
  simp only [Kr3, h1, Option.bind_some, Ju5]
  rw [if_pos ⟨by rw [List.length_append]; simp; omega, rfl, h2⟩, YsH hE, qIW]
 have fo := fun (q0 : (outL xs' ds' hs).length ≠ 0) L k ys hb => z4x (h := h) (p := h.length) rfl (r := Qv2) (sz := 34) rfl L k (outL xs' ds' hs) 48 1 ys q0 hb (by decide) (by omega) (by unfold maxLen; omega)
 have gm := hmk (a, b)
 have hmE : wrE hs xs ds (a, b) xs' ds' = if (mkO jv jd (a, b)).2.length ≤ 4096 then 0 else 10 := by
  unfold wrE
  rw [if_neg (not_not_intro c0), if_neg (not_not_intro c1), if_neg (not_not_intro c2), if_neg c3, hJ, if_neg (not_not_intro c6)]
  by_cases q : (mkO jv jd (a, b)).2.length ≤ 4096
  ·rw [if_neg (not_not_intro q), if_pos q]
  ·rw [if_pos q, if_neg q]
 clear gm
 generalize hM : mkO jv jd (a, b) = M at *
 by_cases hB : jd = []
 ·subst hB
  have gmF : fmO jv [(a, b)] = M := hM
  have g7 : (([(a, b)] : Dots).length ≤ 100000) = True := g00
  have gu3 : ∀ (L : List AB) (k : Nat), ownC L k = some [.i .i64 a, .i .i64 b] → getS dotR (h ++ L) (.sl (h.length + k) 0 1 1 (some 2)) = some [(a, b)] := fun L k q => gu2 L k q
  rw [List.nil_append] at rgJ
  by_cases c7 : M.2.length ≤ 4096
  case neg =>
   rw [hmE, if_neg c7, if_pos (by decide)] at e
   cases e
   have c7' := eq_false c7
   simp only [X7f, KtR, YUa, YOR, XuN, simprocAttr, CO.tmps, Opd.tmps, optT, Nat.reducePow, Nat.reduceDiv, Nat.reduceMod, f1, f2, f3, f4, f5, z0s, qVB, Q02, JH2, YK0, hJ, c0, c1', c2, cs, c4', c5', c6', rg1, rgJ, g00, g7, n1, gu, f00, hL', k1, k2, gmF, zyz, YGv, qi, hl.isSl, hv'.isSl, hd'.isSl, hL2, YWe, ZqN, qIb, QKi, Jmb, qY6, z3, gu3, c7', XRx, JUv, Q40, qdw, ne_eq, not_false_eq_true, not_true_eq_false, decide_true, decide_false, zN5 hh, X9l hz, Zf1 hz, QwP hz]
   exact Bt.drop _ hh rfl (by simp only [zEu, Xto, XSf, J9P, JoB, ok_i, Bool.and_true])
  have c7' := eq_true c7
  rw [if_pos c7] at hmE
  rw [hmE, if_neg (not_not_intro rfl)] at e
  cases e
  have so := so hmE
  have eW : ∀ id, AV.sl id 0 ((outL xs' ds' hs).length + 1) ((outL xs' ds' hs).length + 1) (some 34) = rsl Qv2 id (wrL hs xs' ds' ((a, b), i)) := fun id => by
   unfold rsl wrL
   rw [zKT, if_neg (Nat.succ_ne_zero _)]
   rfl
  have eW1 : outL xs' ds' hs = [] → ∀ id, AV.sl id 0 1 1 (some 34) = rsl Qv2 id (wrL hs xs' ds' ((a, b), i)) := fun hO id => by
   have := eW id
   rw [hO] at this
   exact this
  by_cases hO : outL xs' ds' hs = []
  ·have so0 : ∀ (L : List AB) (k : Nat), L[k]? = some (.blk true true (.i .i64 a :: .i .i64 b :: idR.f i)) → Kr3 [.sl (h.length + k) 0 1 1 (some 34), .f (.func 50) [] []] (h ++ L) = some (.tu [], h ++ L.set k (resB Qv2 true (wrL hs xs' ds' ((a, b), i)))) := fun L k q => by
    have := so L k (by rw [hO]; exact q)
    rw [hO] at this
    exact this
   simp only [X7f, KtR, YUa, YOR, XuN, simprocAttr, CO.tmps, Opd.tmps, optT, Nat.reducePow, Nat.reduceDiv, Nat.reduceMod, f1, f2, f3, f4, f5, z0s, qVB, Q02, JH2, YK0, hJ, c0, c1', c2, cs, c4', c5', c6', rg1, rgJ, g00, g7, n1, gu, f00, hL', k1, k2, gmF, zyz, YGv, qi, hl.isSl, hv'.isSl, hd'.isSl, hL2, YWe, ZqN, qIb, QKi, Jmb, qY6, z3, gu3, c7', hO, qY6, z4, so0, XRx, JUv, Q40, qdw, ne_eq, not_false_eq_true, not_true_eq_false, decide_true, decide_false, zN5 hh, X9l hz, Zf1 hz, QwP hz]
   simp only [eW1 hO]
   exact Bt.sel [21, 14, 15] hh (by decide) (by simp only [qpr, FrSel, BlkSel, AV.ren, renL, AV.ok, okL, Option.some.injEq, exists_eq_left', List.length_cons, List.length_nil, Nat.reduceAdd, Nat.reduceLT, reduceCtorEq, implies_true, exists_eq']) (by simp only [qpr, FrSel, BlkSel, AV.ren, renL, AV.ok, okL, Option.some.injEq, exists_eq_left', List.length_cons, List.length_nil, Nat.reduceAdd, Nat.reduceLT, reduceCtorEq, implies_true, exists_eq'])
  ·have hO' : (outL xs' ds' hs).length ≠ 0 := fun q => hO (List.eq_nil_of_length_eq_zero q)
   have gro : ∀ id, apS Qv2 id (outL xs' ds' hs) = rsl Qv2 id (outL xs' ds' hs) := fun id => ZtQ _ hO'
   have fo := fo hO'
   simp only [X7f, KtR, YUa, YOR, XuN, simprocAttr, CO.tmps, Opd.tmps, optT, Nat.reducePow, Nat.reduceDiv, Nat.reduceMod, f1, f2, f3, f4, f5, z0s, qVB, Q02, JH2, YK0, hJ, c0, c1', c2, cs, c4', c5', c6', rg1, rgJ, g00, g7, n1, gu, f00, hL', k1, k2, gmF, zyz, YGv, qi, hl.isSl, hv'.isSl, hd'.isSl, hL2, YWe, ZqN, qIb, QKi, Jmb, qY6, z3, gu3, c7', gro, fo, so, XRx, JUv, Q40, qdw, ne_eq, not_false_eq_true, not_true_eq_false, decide_true, decide_false, zN5 hh, X9l hz, Zf1 hz, QwP hz]
   simp only [eW]
   exact Bt.sel [21, 14, 15] hh (by decide) (by simp only [qpr, FrSel, BlkSel, AV.ren, renL, AV.ok, okL, Option.some.injEq, exists_eq_left', List.length_cons, List.length_nil, Nat.reduceAdd, Nat.reduceLT, reduceCtorEq, implies_true, exists_eq']) (by simp only [qpr, FrSel, BlkSel, AV.ren, renL, AV.ok, okL, Option.some.injEq, exists_eq_left', List.length_cons, List.length_nil, Nat.reduceAdd, Nat.reduceLT, reduceCtorEq, implies_true, exists_eq'])
 ·have q0 : jd.length ≠ 0 := fun q => hB (List.eq_nil_of_length_eq_zero q)
  have grj : ∀ id, apS dotR id jd = rsl dotR id jd := fun id => ZtQ _ q0
  have fj := fj q0
  have gmF : fmO jv (jd ++ [(a, b)]) = M := hM
  by_cases c7 : M.2.length ≤ 4096
  case neg =>
   rw [hmE, if_neg c7, if_pos (by decide)] at e
   cases e
   have c7' := eq_false c7
   simp only [X7f, KtR, YUa, YOR, XuN, simprocAttr, CO.tmps, Opd.tmps, optT, Nat.reducePow, Nat.reduceDiv, Nat.reduceMod, f1, f2, f3, f4, f5, z0s, qVB, Q02, JH2, YK0, hJ, c0, c1', c2, cs, c4', c5', c6', rg1, rgJ, g00, g7, n1, gu, f00, hL', k1, k2, gmF, zyz, YGv, qi, hl.isSl, hv'.isSl, hd'.isSl, hL2, YWe, ZqN, qIb, QKi, Jmb, grj, fj, gu2, c7', XRx, JUv, Q40, qdw, ne_eq, not_false_eq_true, not_true_eq_false, decide_true, decide_false, zN5 hh, X9l hz, Zf1 hz, QwP hz]
   exact Bt.drop _ hh rfl (by simp only [zEu, Xto, XSf, J9P, JoB, ok_i, Bool.and_true])
  have c7' := eq_true c7
  rw [if_pos c7] at hmE
  rw [hmE, if_neg (not_not_intro rfl)] at e
  cases e
  have so := so hmE
  have eW : ∀ id, AV.sl id 0 ((outL xs' ds' hs).length + 1) ((outL xs' ds' hs).length + 1) (some 34) = rsl Qv2 id (wrL hs xs' ds' ((a, b), i)) := fun id => by
   unfold rsl wrL
   rw [zKT, if_neg (Nat.succ_ne_zero _)]
   rfl
  have eW1 : outL xs' ds' hs = [] → ∀ id, AV.sl id 0 1 1 (some 34) = rsl Qv2 id (wrL hs xs' ds' ((a, b), i)) := fun hO id => by
   have := eW id
   rw [hO] at this
   exact this
  by_cases hO : outL xs' ds' hs = []
  ·have so0 : ∀ (L : List AB) (k : Nat), L[k]? = some (.blk true true (.i .i64 a :: .i .i64 b :: idR.f i)) → Kr3 [.sl (h.length + k) 0 1 1 (some 34), .f (.func 50) [] []] (h ++ L) = some (.tu [], h ++ L.set k (resB Qv2 true (wrL hs xs' ds' ((a, b), i)))) := fun L k q => by
    have := so L k (by rw [hO]; exact q)
    rw [hO] at this
    exact this
   simp only [X7f, KtR, YUa, YOR, XuN, simprocAttr, CO.tmps, Opd.tmps, optT, Nat.reducePow, Nat.reduceDiv, Nat.reduceMod, f1, f2, f3, f4, f5, z0s, qVB, Q02, JH2, YK0, hJ, c0, c1', c2, cs, c4', c5', c6', rg1, rgJ, g00, g7, n1, gu, f00, hL', k1, k2, gmF, zyz, YGv, qi, hl.isSl, hv'.isSl, hd'.isSl, hL2, YWe, ZqN, qIb, QKi, Jmb, grj, fj, gu2, c7', hO, qY6, z4, so0, XRx, JUv, Q40, qdw, ne_eq, not_false_eq_true, not_true_eq_false, decide_true, decide_false, zN5 hh, X9l hz, Zf1 hz, QwP hz]
   simp only [eW1 hO]
   exact Bt.sel [21, 14, 15] hh (by decide) (by simp only [qpr, FrSel, BlkSel, AV.ren, renL, AV.ok, okL, Option.some.injEq, exists_eq_left', List.length_cons, List.length_nil, Nat.reduceAdd, Nat.reduceLT, reduceCtorEq, implies_true, exists_eq']) (by simp only [qpr, FrSel, BlkSel, AV.ren, renL, AV.ok, okL, Option.some.injEq, exists_eq_left', List.length_cons, List.length_nil, Nat.reduceAdd, Nat.reduceLT, reduceCtorEq, implies_true, exists_eq'])
  ·have hO' : (outL xs' ds' hs).length ≠ 0 := fun q => hO (List.eq_nil_of_length_eq_zero q)
   have gro : ∀ id, apS Qv2 id (outL xs' ds' hs) = rsl Qv2 id (outL xs' ds' hs) := fun id => ZtQ _ hO'
   have fo := fo hO'
   simp only [X7f, KtR, YUa, YOR, XuN, simprocAttr, CO.tmps, Opd.tmps, optT, Nat.reducePow, Nat.reduceDiv, Nat.reduceMod, f1, f2, f3, f4, f5, z0s, qVB, Q02, JH2, YK0, hJ, c0, c1', c2, cs, c4', c5', c6', rg1, rgJ, g00, g7, n1, gu, f00, hL', k1, k2, gmF, zyz, YGv, qi, hl.isSl, hv'.isSl, hd'.isSl, hL2, YWe, ZqN, qIb, QKi, Jmb, grj, fj, gu2, c7', gro, fo, so, XRx, JUv, Q40, qdw, ne_eq, not_false_eq_true, not_true_eq_false, decide_true, decide_false, zN5 hh, X9l hz, Zf1 hz, QwP hz]
   simp only [eW]
   exact Bt.sel [21, 14, 15] hh (by decide) (by simp only [qpr, FrSel, BlkSel, AV.ren, renL, AV.ok, okL, Option.some.injEq, exists_eq_left', List.length_cons, List.length_nil, Nat.reduceAdd, Nat.reduceLT, reduceCtorEq, implies_true, exists_eq']) (by simp only [qpr, FrSel, BlkSel, AV.ren, renL, AV.ok, okL, Option.some.injEq, exists_eq_left', List.length_cons, List.length_nil, Nat.reduceAdd, Nat.reduceLT, reduceCtorEq, implies_true, exists_eq'])
theorem Yjt : Spec Tryz.prog 18 Z6Z := by
 intro args h v h' e
 unfold Z6Z at e
 split at e
 ·rename_i l s t a b x s' t'
  obtain ⟨hs, hl, e⟩ := Ksw e
  obtain ⟨xs, hv, e⟩ := Ksw e
  obtain ⟨ds, hd, e⟩ := Ksw e
  obtain ⟨xs', hv', e⟩ := Ksw e
  obtain ⟨ds', hd', e⟩ := Ksw e
  obtain ⟨i, hx, e2⟩ := qAl e
  clear e
  subst hx
  split at e2
  ·rename_i hL
   split at e2
   ·rename_i c
    cases e2
    refine FnAt.c (FnAt.frz0 fun hz => qYf hz hl.frz hv.frz hd.frz hv'.frz hd'.frz hL.1 hL.2.1 hL.2.2 _ _ ?_)
    simp only [Z6Z, hl.frz.get, hv.frz.get, hd.frz.get, hv'.frz.get, hd'.frz.get, zJO, Option.bind_some]
    rw [if_pos hL, if_pos c]
   ·rename_i c
    cases e2
    refine FnAt.c (FnAt.frz fun hz => qYf hz hl.frz hv.frz hd.frz hv'.frz hd'.frz hL.1 hL.2.1 hL.2.2 _ _ ?_)
    simp only [Z6Z, hl.frz.get, hv.frz.get, hd.frz.get, hv'.frz.get, hd'.frz.get, zJO, Option.bind_some, List.length_map]
    rw [if_pos hL, if_neg c]
  ·cases e2
 ·cases e
end Go.Proofs.YtcncpbcbedfakaaGreat
end
section
namespace Go.Proofs.YtcncpbcbedfakaaGreat
open Go.Extern
theorem Zpk (l : List UInt8) (i : Nat) : (⟨l.toArray⟩ : ByteArray)[i]! = l.getD i 0 := by
 by_cases h : i < l.length
 ·have h' : i < (⟨l.toArray⟩ : ByteArray).size := by simpa [ByteArray.size] using h
  rw [getElem!_pos _ i h', List.getD_eq_getElem?_getD, List.getElem?_eq_getElem h]
  rfl
 ·have h' : ¬ i < (⟨l.toArray⟩ : ByteArray).size := by simpa [ByteArray.size] using h
  rw [getElem!_neg _ i h', List.getD_eq_getElem?_getD, List.getElem?_eq_none (by omega)]
  rfl
theorem Xit (l : List UInt8) : (⟨l.toArray⟩ : ByteArray).size = l.length := by simp [ByteArray.size]
theorem zRF : ∀ (l m : List UInt8), BytealgCompare.cmp ⟨l.toArray⟩ ⟨m.toArray⟩ = cmpB l m := by
 have key : ∀ (l m : List UInt8), BytealgCompare.cmp ⟨l.toArray⟩ ⟨m.toArray⟩ = match (List.range (min l.length m.length)).find? fun i => l.getD i 0 != m.getD i 0 with
   | some i => if l.getD i 0 < m.getD i 0 then -1 else 1
   | none => if l.length < m.length then -1 else if l.length > m.length then 1 else 0 := fun l m => by
  unfold BytealgCompare.cmp
  simp only [Zpk, Xit]
  rfl
 intro l
 induction l with
 | nil =>
  intro m
  rw [key]
  cases m with
  | nil => rfl
  | cons b m => simp [cmpB]
 | cons a l ih =>
  intro m
  cases m with
  | nil => rw [key]; simp [cmpB]
  | cons b m =>
   have h2 := ih m
   rw [key] at h2 ⊢
   have e : min (a :: l).length (b :: m).length = min l.length m.length + 1 := by simp only [List.length_cons]; omega
   rw [e, List.range_succ_eq_map, List.find?_cons]
   unfold cmpB
   by_cases hab : a = b
   ·subst hab
    have : ((a :: l).getD 0 0 != (a :: m).getD 0 0) = false := by simp
    rw [this, List.find?_map]
    rw [if_neg (UInt8.lt_irrefl a), if_neg (UInt8.lt_irrefl a), ← h2]
    have e2 : ((fun i => (a :: l).getD i 0 != (a :: m).getD i 0) ∘ Nat.succ) = fun i => l.getD i 0 != m.getD i 0 := by funext i; simp
    rw [e2]
    cases (List.range (min l.length m.length)).find? fun i => l.getD i 0 != m.getD i 0 with
    | none => simp
    | some i => simp
   ·have : ((a :: l).getD 0 0 != (b :: m).getD 0 0) = true := by simpa using hab
    rw [this]
    dsimp only
    by_cases h1 : a < b
    ·rw [if_pos h1]; simp [h1]
    ·rw [if_neg h1, if_pos (UInt8.lt_of_le_of_ne (UInt8.not_lt.1 h1) (Ne.symm hab))]
     simp [h1]
theorem KiJ : ∀ l : List UInt8, bytesOf (l.map u8A) = some l
 | [] => rfl
 | a :: l => by
  show (bytesOf (l.map u8A)).map (UInt8.ofNat ((a.toNat : Int)).toNat :: ·) = _
  rw [KiJ l, Int.toNat_natCast, UInt8.ofNat_toNat]
  rfl
end Go.Proofs.YtcncpbcbedfakaaGreat
end
section
namespace Go.Proofs.YtcncpbcbedfakaaGreat
open Go.Shelf
def qJy : Go.Shelf.Ren := ⟨fun | 6 => 66 | 15 => 88 | 14 => 106 | 28 => 127 | 29 => 128 | 20 => 137 | 21 => 138 | 22 => 139 | 23 => 140 | 24 => 141 | 25 => 142 | 26 => 143 | 27 => 144 | 46 => 163 | 47 => 149 | 48 => 150 | 49 => 164 | 50 => 165 | 57 => 173 | n => n, fun | 22 => 45 | 24 => 40 | 25 => 96 | 3 => 3 | 39 => 119 | 0 => 0 | 53 => 151 | 55 => 153 | 4 => 4 | 46 => 145 | 45 => 144 | 50 => 135 | 5 => 5 | 9 => 9 | 66 => 164 | 70 => 168 | 76 => 183 | 77 => 184 | n => n, fun | n => n⟩
theorem XUx : Go.Proofs.SlLaysF0.n6 Tryz.prog qJy := {
 mixed := by kernel_rfl
 f6 := ⟨Tryz.f66.name, by decide, Tryz.func66.trans (congrArg some (by kernel_rfl))⟩
 f14 := ⟨Tryz.f106.name, by decide, Tryz.func106.trans (congrArg some (by kernel_rfl))⟩
 f15 := Tryz.func88.trans (congrArg some (by kernel_rfl))
 f20 := ⟨Tryz.f137.name, by decide, Tryz.func137.trans (congrArg some (by kernel_rfl))⟩
 f21 := ⟨Tryz.f138.name, by decide, Tryz.func138.trans (congrArg some (by kernel_rfl))⟩
 f22 := ⟨Tryz.f139.name, by decide, Tryz.func139.trans (congrArg some (by kernel_rfl))⟩
 f23 := ⟨Tryz.f140.name, by decide, Tryz.func140.trans (congrArg some (by kernel_rfl))⟩
 f24 := ⟨Tryz.f141.name, by decide, Tryz.func141.trans (congrArg some (by kernel_rfl))⟩
 f25 := ⟨Tryz.f142.name, by decide, Tryz.func142.trans (congrArg some (by kernel_rfl))⟩
 f26 := ⟨Tryz.f143.name, by decide, Tryz.func143.trans (congrArg some (by kernel_rfl))⟩
 f27 := ⟨Tryz.f144.name, by decide, Tryz.func144.trans (congrArg some (by kernel_rfl))⟩
 f28 := Tryz.func127.trans (congrArg some (by kernel_rfl))
 f29 := Tryz.func128.trans (congrArg some (by kernel_rfl))
 f46 := ⟨Tryz.f163.name, by decide, Tryz.func163.trans (congrArg some (by kernel_rfl))⟩
 f47 := Tryz.func149.trans (congrArg some (by kernel_rfl))
 f48 := Tryz.func150.trans (congrArg some (by kernel_rfl))
 f49 := ⟨Tryz.f164.name, by decide, Tryz.func164.trans (congrArg some (by kernel_rfl))⟩
 f50 := ⟨Tryz.f165.name, by decide, Tryz.func165.trans (congrArg some (by kernel_rfl))⟩
 f57 := ⟨Tryz.f173.name, by decide, Tryz.func173.trans (congrArg some (by kernel_rfl))⟩
 t0 := Tryz.underlying0
 a0 := Tryz.isAgg0
 z0 := Tryz.sizeOf0
 v0 := Tryz.zeroValue0
 t3 := Tryz.underlying3
 a3 := Tryz.isAgg3
 z3 := Tryz.sizeOf3
 v3 := Tryz.zeroValue3
 t4 := Tryz.underlying4
 a4 := Tryz.isAgg4
 z4 := Tryz.sizeOf4
 v4 := Tryz.zeroValue4
 t5 := Tryz.underlying5
 a5 := Tryz.isAgg5
 z5 := Tryz.sizeOf5
 v5 := Tryz.zeroValue5
 t9 := Tryz.underlying9
 a9 := Tryz.isAgg9
 z9 := Tryz.sizeOf9
 v9 := Tryz.zeroValue9
 t22 := Tryz.underlying45
 a22 := Tryz.isAgg45
 z22 := Tryz.sizeOf45
 v22 := Tryz.zeroValue45
 t25 := Tryz.underlying96
 a25 := Tryz.isAgg96
 z25 := Tryz.sizeOf96
 v25 := Tryz.zeroValue96
 t39 := Tryz.underlying119
 a39 := Tryz.isAgg119
 z39 := Tryz.sizeOf119
 v39 := Tryz.zeroValue119
 t45 := Tryz.underlying144
 a45 := Tryz.isAgg144
 z45 := Tryz.sizeOf144
 v45 := Tryz.zeroValue144
 t46 := Tryz.underlying145
 a46 := Tryz.isAgg145
 z46 := Tryz.sizeOf145
 v46 := Tryz.zeroValue145
 t50 := Tryz.underlying135
 a50 := Tryz.isAgg135
 z50 := Tryz.sizeOf135
 v50 := Tryz.zeroValue135
 t53 := Tryz.underlying151
 a53 := Tryz.isAgg151
 z53 := Tryz.sizeOf151
 v53 := Tryz.zeroValue151
 t55 := Tryz.underlying153
 a55 := Tryz.isAgg153
 z55 := Tryz.sizeOf153
 v55 := Tryz.zeroValue153
 t66 := Tryz.underlying164
 a66 := Tryz.isAgg164
 z66 := Tryz.sizeOf164
 v66 := Tryz.zeroValue164
 t70 := Tryz.underlying168
 a70 := Tryz.isAgg168
 z70 := Tryz.sizeOf168
 v70 := Tryz.zeroValue168
 t76 := Tryz.underlying183
 a76 := Tryz.isAgg183
 z76 := Tryz.sizeOf183
 v76 := Tryz.zeroValue183
 t77 := Tryz.underlying184
 a77 := Tryz.isAgg184
 z77 := Tryz.sizeOf184
 v77 := Tryz.zeroValue184 }
end Go.Proofs.YtcncpbcbedfakaaGreat
end
