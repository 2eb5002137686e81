/- Part 26 of what the laws' proofs rest on. No condition. -/
import Derived.Test.YtcncpbcbedfakaaGreatRo25
set_option linter.all false
section
namespace Go.Proofs.YtcncpbcbedfakaaGreat
set_option maxRecDepth 100000
set_option maxHeartbeats 4000000
theorem ZrY {h L : List AB} {a b : Nat} {l v d : AV} {hs : List Hd} {vs : List Int} {ds : Dots} (b1 : bxL L a = some l) (b2 : ownC L b = some [v, d]) (h1 : getS Kd6 (h ++ L) l = some hs) (h2 : getS intR (h ++ L) v = some vs) (h3 : getS dotR (h ++ L) d = some ds) : qIn (h ++ L) (h.length + a) (h.length + b) = some (hs, vs, ds) := by
 refine ZOd ?_ (by rw [QP4]; exact b2) h1 h2 h3
 rw [← b1]
 exact ZnI L a
theorem ZM2 {l' l : List AV} (h : WkL l' l) : Wk (.tu l') (.tu l) := fun ρ c v => by
 cases v with
 | tu _ cs hn hv =>
  have := WkL.vl h (cs := cs) ⟨hn, hv⟩
  exact .tu l' cs this.1 this.2
theorem qAB {h H : List AB} {id : Nat} {L : List Hd} {a b e : AV} : Bt Tryz.prog h.length [.tu [.ag [apS Kd6 id L, a, b], e]] H [.tu [.ag [rsl Kd6 id L, a, b], e]] H := Bt.wk ⟨ZM2 ⟨Kql ⟨XIf _ _, Wk.refl _, Wk.refl _, trivial⟩, Wk.refl _, trivial⟩, trivial⟩
theorem XIg (v : List Int) (ds : Dots) (l : List Hd) : (outL v ds l).length ≤ l.length := List.length_filter_le _ _
end Go.Proofs.YtcncpbcbedfakaaGreat
end
section
namespace Go.Proofs.YtcncpbcbedfakaaGreat
open Go.RowKit Go.Shelf Go.Sort
variable {P : Program} {α : Type} {r : Row α}
def XWe [Inhabited α] (cf : α → α → Int) (l : List α) : List α := (pdq (ltOf cf) l.toArray 0 l.toArray.size (Lib.bitLen l.toArray.size) true true).toList
theorem JbT [Inhabited α] {cf : α → α → Int} (hO : SWO (ltOf cf)) (l : List α) : PermIn 0 l.toArray.size l.toArray (XWe cf l).toArray ∧ SortedIn (ltOf cf) 0 l.toArray.size (XWe cf l).toArray := by
 have := pdq_sorts (ltOf cf) hO l.toArray 0 l.toArray.size (Lib.bitLen l.toArray.size) true true (Nat.zero_le _) (Nat.le_refl _) (Or.inl rfl)
 exact this
theorem ZpG [Inhabited α] {cf : α → α → Int} (hO : SWO (ltOf cf)) (l : List α) : (XWe cf l).length = l.length := by
 have := (JbT hO l).1.1
 simpa using this
theorem zDf [Inhabited α] {cf : α → α → Int} (hO : SWO (ltOf cf)) (l : List α) : (XWe cf l).Perm l := by
 obtain ⟨⟨h1, _, h3⟩, _⟩ := JbT hO l
 have e1 : (XWe cf l).toArray.extract 0 l.toArray.size = (XWe cf l).toArray := by rw [← h1]; exact Array.extract_size
 rw [e1, Array.extract_size] at h3
 simpa using h3
theorem J3I [Inhabited α] {cf : α → α → Int} (hO : SWO (ltOf cf)) (l : List α) : (XWe cf l).Pairwise fun x y => ¬ cf y x < 0 := by
 have hl := ZpG hO l
 have h := (JbT hO l).2
 rw [List.pairwise_iff_getElem]
 intro i j hi hj hij
 have hi' : i < (XWe cf l).toArray.size := by simpa using hi
 have hj' : j < (XWe cf l).toArray.size := by simpa using hj
 have := h i j (Nat.zero_le _) hij (by simp; omega)
 rw [getElem!_pos _ j hj', getElem!_pos _ i hi'] at this
 simpa [ltOf] using this
theorem XP6 [Inhabited α] {N : Ren} (L : SlLaysF0.n6 P N) (aE : ∀ w, (isAgg (N.t 24)).run P w = .ok true w) (zE : ∀ w, (Go.sizeOf (N.t 24)).run P w = .ok r.sz w) {cf : α → α → Int} (hO : SWO (ltOf cf))
  {g : Nat} (hc : Cmps P g r cf) (hfl : ∀ x, ∀ a ∈ r.f x, a.fl = true) (h1 : ∀ x, ∀ v ∈ r.enc x, v.oneCell' = true)
  {h : List AB} {id : Nat} (l : List α) (hb : h[id]? = some (resB r true l)) (hl : l.length ≤ 1000000) :
  FnC P (N.f 6) [rsl r id l, .f (.func g) [] []] h (.tu []) (h.set id (resB r true (XWe cf l))) := by
 obtain ⟨nm, hnm, hf⟩ := L.f6
 refine ⟨⟨_, _, hf, by simpa using hnm, rfl⟩, fun ρ w vals hr hv => ?_⟩
 obtain ⟨v, f, rfl, hv1, hv2⟩ := ZP1 hv
 have := Zgd hv2
 subst this
 by_cases h0 : l.length = 0
 ·have : l = [] := List.eq_nil_of_length_eq_zero h0
  subst this
  simp only [rsl, List.length_nil, if_true] at hv1
  obtain ⟨a, c, rfl⟩ := z9X hv1 rfl
  refine (AnyF.slices_SortFunc_none L a c _ w).mono ?_
  rintro e w' ⟨rfl, rfl⟩
  rw [List.eq_nil_of_length_eq_zero (ZpG hO []), YyT h id _ hb]
  exact ⟨_, ρ, rfl, .tu [] #[] rfl fun j a c q => by simp at q, hr, EffP.refl _ _ _ _⟩
 ·simp only [rsl, if_neg h0] at hv1
  obtain ⟨b, o, n, cap', hρ, rfl, _, hlc, hcm, hcap⟩ := Yre hv1 h0
  have hB := hr.blk id _ b o n hb hρ
  simp only [resB, if_neg h0, BR] at hB
  obtain ⟨cs, e, fz, hheap, hm, hlen, hcells⟩ := hB
  obtain ⟨rfl, hn⟩ := hm trivial
  have hblk : b < w.heap.size := (Array.getElem?_eq_some_iff.1 hheap).1
  have hall : ∀ a ∈ r.cells l, a.fl = true := fun a ha => by
   obtain ⟨x, _, hx⟩ := List.mem_flatMap.1 ha
   exact hfl x a hx
  have hH : HoldsK r.enc r.sz w b o l.toArray := by
   unfold HoldsK
   rw [JlS]
   intro j hj
   have hj' : j < (r.cells l).length := by simpa using hj
   have hoj : o + j < cs.size := by omega
   refine ⟨?_, ?_⟩
   ·unfold World.cell?
    simp only [hheap]
    have hv := hcells j _ _ (List.getElem?_eq_getElem hj') (Array.getElem?_eq_getElem hoj)
    rw [getElem!_pos (((r.cells l).map AV.val).toArray) j hj]
    simp only [Option.isSome_none, Bool.false_eq_true, if_false, Array.getElem?_eq_getElem hoj, Option.some.injEq, List.getElem_toArray, List.getElem_map, id_eq]
    exact ZFR (hall _ (List.getElem_mem hj')) hv
   ·unfold World.frozen?
    simp only [hheap]
    simp
  obtain ⟨⟨gf, gb, hg1, hg2, hg3⟩, _⟩ := hc r.d r.d []
  have eg : ∀ args w, (callFunc g args).run P w = .ok (.enter g args) w := fun args w => by simp [callFunc, hg1, hg2, hg3]
  have hC := AnyQ.slices_SortFunc_eq L r.sz aE zE r.enc (fun x => by simp [Row.enc, r.len]) h1 cf hO g #[] b o cap' l.toArray w eg (hc.lays hfl b o l.toArray.size w) hH hblk (by simp; omega)
  refine Calls.mono (show Calls P (N.f 6) #[.slice (some ⟨b, o + 0, none⟩) l.length cap', .func (.func g) #[] #[]] w _ from hC) ?_
  rintro e w' ⟨rfl, n', os, rfl⟩
  have hll : (XWe cf l).length = l.length := ZpG hO l
  have hpq : pdq (ltOf cf) l.toArray 0 l.toArray.size (Lib.bitLen l.toArray.size) true true = (XWe cf l).toArray := rfl
  rw [hpq]
  generalize XWe cf l = l' at *
  have h0' : ¬ l'.length = 0 := by omega
  have hall' : ∀ a ∈ r.cells l', a.fl = true := fun a ha => by
   obtain ⟨x, _, hx⟩ := List.mem_flatMap.1 ha
   exact hfl x a hx
  have hcl : (r.cells l').length = (r.cells l).length := by rw [r.cells_len, r.cells_len, hll]
  have hW : sortWorldK r.enc r.sz w b o n' l'.toArray os = Go.Sort.grow (mapBlock (Go.Sort.ahead w n') b (putCells _root_.id o ((r.cells l').map AV.val).toArray)) os := by
   unfold sortWorldK putRowK putRow
   rw [JlS]
  rw [hW]
  have hput := hr.put (w' := mapBlock (Go.Sort.ahead w n') b (putCells _root_.id o ((r.cells l').map AV.val).toArray)) hb (by simp [resB, h0, AB.mut]) hρ (B' := resB r true l') (by
   simp only [resB, if_neg h0', BR]
   refine ⟨putCells _root_.id o ((r.cells l').map AV.val).toArray cs, e, (0, 0), ?_, fun _ => ⟨rfl, by simp [putCells]; exact hn⟩, by simp [putCells, hcl]; exact hlen, fun k a c ha hc' => ?_⟩
   ·simp only [mapBlock, Go.Sort.ahead, Array.getElem?_modify, if_true, hheap, Option.map_some, onCells]
   ·have hk := (List.getElem?_eq_some_iff.1 ha).1
    have hok : o + k < cs.size := by omega
    have hka : a = (r.cells l')[k] := (List.getElem?_eq_some_iff.1 ha).2.symm
    simp only [putCells, Array.getElem?_mapIdx, Array.getElem?_eq_getElem hok, Option.map_some] at hc'
    rw [if_pos (by constructor <;> simp <;> omega)] at hc'
    simp only [Option.some.injEq, id_eq, Nat.add_sub_cancel_left] at hc'
    rw [getElem!_pos (((r.cells l').map AV.val).toArray) k (by simpa using hk)] at hc'
    simp only [List.getElem_toArray, List.getElem_map] at hc'
    subst hka
    rw [← hc']
    exact Ybo _ (hall' _ (List.getElem_mem hk))) rfl rfl ⟨rfl, Nat.le_add_right _ _⟩ (by simp [mapBlock, Go.Sort.ahead]) (fun k hk => by
   simp only [mapBlock, Go.Sort.ahead, Array.getElem?_modify]
   rw [if_neg (fun q => hk q.symm)]) (fun _ => by simp [resB, h0, AB.live])
  have hgrow := hput.1.grown os
  exact ⟨_, ρ, rfl, .tu [] #[] rfl fun j a c q => by simp at q, hgrow.1, (hput.2.trans hgrow.2).p (Ext.refl _) (by rw [hr.len]; exact Nat.le_refl _)⟩
end Go.Proofs.YtcncpbcbedfakaaGreat
end
section
namespace Go.Proofs.YtcncpbcbedfakaaGreat
open Go.Shelf
def Zr1 : Go.Shelf.Ren := ⟨fun | 6 => 49 | 15 => 88 | 14 => 87 | 28 => 127 | 29 => 128 | 20 => 119 | 21 => 120 | 22 => 121 | 23 => 122 | 24 => 123 | 25 => 124 | 26 => 125 | 27 => 126 | 46 => 148 | 47 => 149 | 48 => 150 | 49 => 151 | 50 => 152 | 57 => 169 | n => n, fun | 22 => 22 | 24 => 54 | 25 => 83 | 3 => 3 | 39 => 119 | 0 => 0 | 53 => 151 | 55 => 153 | 4 => 4 | 46 => 145 | 45 => 144 | 50 => 135 | 5 => 5 | 9 => 9 | 66 => 164 | 70 => 168 | 76 => 183 | 77 => 184 | n => n, fun | n => n⟩
theorem zpi : Go.Proofs.SlLaysF0.n6 Tryz.prog Zr1 := {
 mixed := by kernel_rfl
 f6 := ⟨Tryz.f49.name, by decide, Tryz.func49.trans (congrArg some (by kernel_rfl))⟩
 f14 := ⟨Tryz.f87.name, by decide, Tryz.func87.trans (congrArg some (by kernel_rfl))⟩
 f15 := Tryz.func88.trans (congrArg some (by kernel_rfl))
 f20 := ⟨Tryz.f119.name, by decide, Tryz.func119.trans (congrArg some (by kernel_rfl))⟩
 f21 := ⟨Tryz.f120.name, by decide, Tryz.func120.trans (congrArg some (by kernel_rfl))⟩
 f22 := ⟨Tryz.f121.name, by decide, Tryz.func121.trans (congrArg some (by kernel_rfl))⟩
 f23 := ⟨Tryz.f122.name, by decide, Tryz.func122.trans (congrArg some (by kernel_rfl))⟩
 f24 := ⟨Tryz.f123.name, by decide, Tryz.func123.trans (congrArg some (by kernel_rfl))⟩
 f25 := ⟨Tryz.f124.name, by decide, Tryz.func124.trans (congrArg some (by kernel_rfl))⟩
 f26 := ⟨Tryz.f125.name, by decide, Tryz.func125.trans (congrArg some (by kernel_rfl))⟩
 f27 := ⟨Tryz.f126.name, by decide, Tryz.func126.trans (congrArg some (by kernel_rfl))⟩
 f28 := Tryz.func127.trans (congrArg some (by kernel_rfl))
 f29 := Tryz.func128.trans (congrArg some (by kernel_rfl))
 f46 := ⟨Tryz.f148.name, by decide, Tryz.func148.trans (congrArg some (by kernel_rfl))⟩
 f47 := Tryz.func149.trans (congrArg some (by kernel_rfl))
 f48 := Tryz.func150.trans (congrArg some (by kernel_rfl))
 f49 := ⟨Tryz.f151.name, by decide, Tryz.func151.trans (congrArg some (by kernel_rfl))⟩
 f50 := ⟨Tryz.f152.name, by decide, Tryz.func152.trans (congrArg some (by kernel_rfl))⟩
 f57 := ⟨Tryz.f169.name, by decide, Tryz.func169.trans (congrArg some (by kernel_rfl))⟩
 t0 := Tryz.underlying0
 a0 := Tryz.isAgg0
 z0 := Tryz.sizeOf0
 v0 := Tryz.zeroValue0
 t3 := Tryz.underlying3
 a3 := Tryz.isAgg3
 z3 := Tryz.sizeOf3
 v3 := Tryz.zeroValue3
 t4 := Tryz.underlying4
 a4 := Tryz.isAgg4
 z4 := Tryz.sizeOf4
 v4 := Tryz.zeroValue4
 t5 := Tryz.underlying5
 a5 := Tryz.isAgg5
 z5 := Tryz.sizeOf5
 v5 := Tryz.zeroValue5
 t9 := Tryz.underlying9
 a9 := Tryz.isAgg9
 z9 := Tryz.sizeOf9
 v9 := Tryz.zeroValue9
 t22 := Tryz.underlying22
 a22 := Tryz.isAgg22
 z22 := Tryz.sizeOf22
 v22 := Tryz.zeroValue22
 t25 := Tryz.underlying83
 a25 := Tryz.isAgg83
 z25 := Tryz.sizeOf83
 v25 := Tryz.zeroValue83
 t39 := Tryz.underlying119
 a39 := Tryz.isAgg119
 z39 := Tryz.sizeOf119
 v39 := Tryz.zeroValue119
 t45 := Tryz.underlying144
 a45 := Tryz.isAgg144
 z45 := Tryz.sizeOf144
 v45 := Tryz.zeroValue144
 t46 := Tryz.underlying145
 a46 := Tryz.isAgg145
 z46 := Tryz.sizeOf145
 v46 := Tryz.zeroValue145
 t50 := Tryz.underlying135
 a50 := Tryz.isAgg135
 z50 := Tryz.sizeOf135
 v50 := Tryz.zeroValue135
 t53 := Tryz.underlying151
 a53 := Tryz.isAgg151
 z53 := Tryz.sizeOf151
 v53 := Tryz.zeroValue151
 t55 := Tryz.underlying153
 a55 := Tryz.isAgg153
 z55 := Tryz.sizeOf153
 v55 := Tryz.zeroValue153
 t66 := Tryz.underlying164
 a66 := Tryz.isAgg164
 z66 := Tryz.sizeOf164
 v66 := Tryz.zeroValue164
 t70 := Tryz.underlying168
 a70 := Tryz.isAgg168
 z70 := Tryz.sizeOf168
 v70 := Tryz.zeroValue168
 t76 := Tryz.underlying183
 a76 := Tryz.isAgg183
 z76 := Tryz.sizeOf183
 v76 := Tryz.zeroValue183
 t77 := Tryz.underlying184
 a77 := Tryz.isAgg184
 z77 := Tryz.sizeOf184
 v77 := Tryz.zeroValue184 }
end Go.Proofs.YtcncpbcbedfakaaGreat
end
section
namespace Go.Proofs.YtcncpbcbedfakaaGreat
open Go.Sort
set_option maxRecDepth 100000
set_option maxHeartbeats 4000000
instance : Inhabited Hd := ⟨Kd6.d⟩
def cfH (x y : Hd) : Int := cmpD x.1 y.1
theorem XyD : SWO (ltOf cfH) := ⟨fun x => JCV.irrefl x.1, fun x y z => JCV.trans x.1 y.1 z.1, fun x y z => JCV.ntrans x.1 y.1 z.1⟩
theorem Ydp : Cmps Tryz.prog 50 Kd6 cfH := fun x y h => KRr _ _ _ _ (by simp only [z41, Ktb, Option.bind_some]; rfl)
theorem Qn1 (x : Hd) : ∀ v ∈ Kd6.enc x, v.oneCell' = true := fun v hv => by
 obtain ⟨a, ha, rfl⟩ := List.mem_map.1 (show v ∈ (Kd6.f x).map AV.val from hv)
 rw [Kw9] at ha
 rcases List.mem_cons.1 ha with rfl | ha
 ·rfl
 ·rcases List.mem_cons.1 ha with rfl | ha
  ·rfl
  ·obtain ⟨b, _, rfl⟩ := List.mem_map.1 (show a ∈ x.2.l.map u8A from ha)
   rfl
open Classical in
noncomputable def QRo : List AV → List AB → Option (AV × List AB)
 | [s, .f (.func 50) [] []], h => (getS Kd6 h s).bind fun l => match idOf s with
   | [id] => if l.length ≤ 1000000 ∧ s = rsl Kd6 id l ∧ h[id]? = some (resB Kd6 true l) then some (.tu [], h.set id (resB Kd6 true (XWe cfH l))) else none
   | _ => none
 | _, _ => none
theorem z20 : Spec Tryz.prog 49 QRo := by
 intro args h v h' e
 unfold QRo at e
 split at e
 ·rename_i s
  obtain ⟨l, hs, e⟩ := zZA e
  split at e
  ·rename_i id hid
   split at e
   ·rename_i hc
    cases e
    obtain ⟨h1, rfl, h3⟩ := hc
    exact XP6 (r := Kd6) zpi Tryz.isAgg54 Tryz.sizeOf54 XyD Ydp ZZ9 Qn1 l h3 h1
   ·cases e
  ·cases e
 ·cases e
theorem XlI {l : List Hd} (hd : l.Pairwise fun x y => x.1 ≠ y.1) : (XWe cfH l).Pairwise XSb :=
 ZZ1 (zDf XyD l) ((J3I XyD l).imp fun {x y} h q => h (by unfold cfH; rw [YtY]; exact q)) hd
theorem ZK2 (l : List Hd) (x : Hd) : x ∈ XWe cfH l ↔ x ∈ l := (zDf XyD l).mem_iff
theorem XLT (l : List Hd) : (XWe cfH l).length = l.length := ZpG XyD l
theorem Qae {x y : Hd} (h : x.1 ≠ y.1) : XSb x y ∨ XSb y x := by
 rcases YZw x.1 y.1 with q | q | q
 ·exact .inl q
 ·exact absurd q h
 ·exact .inr q
theorem X0H {o : List Hd} {x : Hd} (ho : o.Pairwise XSb) (hx : ∀ y ∈ o, y.1 ≠ x.1) : XWe cfH (o ++ [x]) = layG XSb o x := by
 refine Q5J qx1 (XlI (List.pairwise_append.2 ⟨ZJ0 ho, List.pairwise_singleton _ _, fun y hy z hz => ?_⟩)) (q3L qx1 ho fun y hy => Qae (hx y hy)) fun y => ?_
 ·rw [List.mem_singleton.1 hz]
  exact hx y hy
 ·rw [ZK2, X4W, List.mem_append, List.mem_singleton, or_comm]
open Classical in
noncomputable def getI (a : AV) : Option Dg := if e : ∃ y, a = .ag (idR.f y) then some e.choose else none
theorem KgE (y : Dg) : getI (.ag (idR.f y)) = some y := by
 have e : ∃ z, AV.ag (idR.f y) = .ag (idR.f z) := ⟨y, rfl⟩
 unfold getI
 rw [dif_pos e]
 have h := e.choose_spec
 rw [AV.ag.injEq] at h
 rw [← idR.inj _ _ h]
theorem JPm {β : Type} {a : AV} {f : Dg → Option β} {b : β} (e : (getI a).bind f = some b) : ∃ y, a = .ag (idR.f y) ∧ f y = some b := by
 unfold getI at e
 split at e
 ·rename_i h
  exact ⟨h.choose, h.choose_spec, e⟩
 ·cases e
noncomputable def mkO (v : List Int) (ds : Dots) (d : Int × Int) : List Int × Dots := fmO v (ds ++ [d])
noncomputable def wrE (hs : List Hd) (v : List Int) (ds : Dots) (d : Int × Int) (v' : List Int) (ds' : Dots) : Int :=
 if QeQ hs v ds ≠ 0 then QeQ hs v ds else if ¬ qfE d then 3 else if zEL v' ds' ≠ 0 then zEL v' ds' else if ZvJ v ds d ∨ ZvJ v' ds' d then 19
 else if ¬ (z9r v v' ds ds').2.length ≤ 4096 then 10 else if ¬ (mkO (z9r v v' ds ds').1 (z9r v v' ds ds').2 d).2.length ≤ 4096 then 10 else 0
theorem Jgl {hs : List Hd} {v : List Int} {ds : Dots} {d : Int × Int} {v' : List Int} {ds' : Dots} (h : wrE hs v ds d v' ds' = 0) : QeQ hs v ds = 0 ∧ qfE d ∧ zEL v' ds' = 0 ∧ ¬ ZvJ v ds d ∧ ¬ ZvJ v' ds' d ∧ (z9r v v' ds ds').2.length ≤ 4096 ∧ (mkO (z9r v v' ds ds').1 (z9r v v' ds ds').2 d).2.length ≤ 4096 := by
 unfold wrE at h
 split at h
 ·rename_i c; exact absurd h c
 ·rename_i c1
  split at h
  ·simp at h
  ·rename_i c2
   split at h
   ·rename_i c; exact absurd h c
   ·rename_i c3
    split at h
    ·simp at h
    ·rename_i c4
     split at h
     ·simp at h
     ·rename_i c5
      split at h
      ·simp at h
      ·rename_i c6
       exact ⟨Decidable.not_not.1 c1, Decidable.not_not.1 c2, Decidable.not_not.1 c3, fun q => c4 (.inl q), fun q => c4 (.inr q), Decidable.not_not.1 c5, Decidable.not_not.1 c6⟩
noncomputable def wrL (hs : List Hd) (v' : List Int) (ds' : Dots) (x : Hd) : List Hd := layG XSb (outL v' ds' hs) x
theorem JAn (hs : List Hd) (v' : List Int) (ds' : Dots) (x : Hd) : (wrL hs v' ds' x).length ≤ hs.length + 1 := by
 unfold wrL
 rw [K8p]
 have := XIg v' ds' hs
 omega
theorem ZE1 {v : List Int} {ds : Dots} (h : NF v ds) (hl : ds.length ≤ 4096) (l : List Hd) : outL v ds l = outG v ds l := by
 unfold outL outG
 congr 1
 funext x
 refine decide_eq_decide.2 (not_congr ?_)
 rw [qEQ h.rg, and_iff_right (h.check hl)]
theorem Yca {hs : List Hd} {v : List Int} {ds : Dots} {d : Int × Int} {v' : List Int} {ds' : Dots} (h : wrE hs v ds d v' ds' = 0) (i : Dg) : XWe cfH (outL v' ds' hs ++ [(d, i)]) = wrL hs v' ds' (d, i) := by
 obtain ⟨c1, _, _, c4, _⟩ := Jgl h
 have rg := XlN.1 c1
 refine X0H (rg.rise.filter _) fun y hy e => c4 ?_
 have := rg.sn y (List.mem_filter.1 hy).1
 rw [e] at this
 exact (qEQ rg.nf.rg d).2 this
noncomputable def K4d : List AV → List AB → Option (AV × List AB)
 | [.ag [l, s, t], .ag [.i .i64 a, .i .i64 b], x, .ag [s', t']], h => (getS Kd6 h l).bind fun hs => (getS intR h s).bind fun v => (getS dotR h t).bind fun ds => (getS intR h s').bind fun v' => (getS dotR h t').bind fun ds' => (getI x).bind fun i =>
   if hs.length ≤ 100000 ∧ t.capOk = true ∧ t'.capOk = true then
    if wrE hs v ds (a, b) v' ds' ≠ 0 then some (.tu [.ag [.ns, .ns, .ns], .i .i64 (wrE hs v ds (a, b) v' ds')], h)
    else some (.tu [.ag [rsl Kd6 h.length (wrL hs v' ds' ((a, b), i)), rsl intR (h.length + 1) (mkO (z9r v v' ds ds').1 (z9r v v' ds ds').2 (a, b)).1, rsl dotR (h.length + 2) (mkO (z9r v v' ds ds').1 (z9r v v' ds ds').2 (a, b)).2], .i .i64 0],
     h ++ [resB Kd6 true (wrL hs v' ds' ((a, b), i)), resB intR true (mkO (z9r v v' ds ds').1 (z9r v v' ds ds').2 (a, b)).1, resB dotR true (mkO (z9r v v' ds ds').1 (z9r v v' ds ds').2 (a, b)).2])
   else none
 | _, _ => none
theorem Yxe {h : List AB} (hz : h.map AB.freeze = h) {l s t s' t' : AV} {a b : Int} {i : Dg} {hs : List Hd} {xs xs' : List Int} {ds ds' : Dots} (hl : Rd Kd6 h l hs) (hv : Rd intR h s xs) (hd : Rd dotR h t ds) (hv' : Rd intR h s' xs') (hd' : Rd dotR h t' ds') (hL : hs.length ≤ 100000) (k1 : t.capOk = true) (k2 : t'.capOk = true) (v : AV) (h' : List AB) (e : K4d [.ag [l, s, t], .ag [.i .i64 a, .i .i64 b], .ag (idR.f i), .ag [s', t']] h = some (v, h')) :
  FnAt Tryz.prog 18 [.ag [l, s, t], .ag [.i .i64 a, .i .i64 b], .ag (idR.f i), .ag [s', t']] h v h' := by
 simp only [K4d, hl.get, hv.get, hd.get, hv'.get, hd'.get, KgE, Option.bind_some] at e
 rw [if_pos ⟨hL, k1, k2⟩] at e
 refine FnAt.run (by kernel_rfl) (T := ⟨[⟨27, K5v, fun _ => []⟩, ⟨59, KPV zEL, fun _ => []⟩, ⟨58, ZeZ, fun _ => []⟩, ⟨39, ZL1, fun _ => []⟩, ⟨48, z6i, fun _ => []⟩, ⟨46, qBy, fun _ => []⟩, ⟨60, QkO, fun _ => []⟩, ⟨49, QRo, fun _ => []⟩], []⟩) ⟨⟨qRe, ZlM, QJQ, z3r, KJQ, Khn, JH2, z20, trivial⟩, trivial⟩ Tryz.func18 sw18 fun ho hh => ?_
 simp only [XDC, Y8A, Bool.and_eq_true] at ho
 have f1 := hl.fx ho.1.1 (sz := 34) rfl
 have f2 := hv.fx ho.1.2.1 (sz := 1) rfl
 have f3 := hd.fx ho.1.2.2.1 (sz := 2) rfl
 have f4 := hv'.fx ho.2.2.2.1.1 (sz := 1) rfl
 have f5 := hd'.fx ho.2.2.2.1.2.1 (sz := 2) rfl
 have hL' : (hs.length ≤ 1000000) = True := eq_true (by omega)
 have hL2 : (hs.length ≤ 100000) = True := eq_true hL
 unfold w18
 by_cases c0 : QeQ hs xs ds = 0
 case neg =>
  have hE : wrE hs xs ds (a, b) xs' ds' = QeQ hs xs ds := by unfold wrE; rw [if_pos c0]
  rw [hE, if_pos c0] at e
  cases e
  have c0' := eq_false c0
  simp only [QhW, YqD, z18, KHF, Xq8, if_true, if_false, ↓reduceIte, Nat.reduceAdd, Nat.reduceSub, Nat.reduceLeDiff, Nat.reduceEqDiff, Nat.reduceMul, Nat.reduceLT, Int.reduceLT, Int.reduceLE, Int.reduceEq, CO.tmps, Opd.tmps, optT, Nat.reducePow, Nat.reduceDiv, Nat.reduceMod, f1, f2, f3, f4, f5, K5v, c0', hL', J46, Q0C, QVQ, Qa4, not_false_eq_true, decide_true, XUt hh, Ygn hz, QqV hz, qNQ hz]
  exact Bt.drop _ hh rfl (by simp only [Ztp, XDC, Xrx, Y8A, qn9, ok_i, Bool.and_true])
 have rg1 : (qD3 [] [(a, b)]) = (qfE (a, b)) := propext ⟨fun q => q.2.2 _ (.head _), fun q => ⟨Nat.zero_le _, by simp, by simpa using q⟩⟩
 have gu : ∀ (L : List AB) (k : Nat), ownC L k = some [.i .i64 a, .i .i64 b] → getS dotR (h ++ L) (.sl (h.length + k) 0 1 1 none) = some [(a, b)] := fun L k q => (ZCP (r := dotR) (n := 1) (l := [(a, b)]) q (by unfold maxLen; simp) (by simp)).get
 have g00 : (([(a, b)] : Dots).length ≤ 100000) = True := eq_true (by simp)
 by_cases c1 : qfE (a, b)
 case neg =>
  have hE : wrE hs xs ds (a, b) xs' ds' = 3 := by unfold wrE; rw [if_neg (not_not_intro c0), if_pos c1]
  rw [hE, if_pos (by decide)] at e
  cases e
  have c1' := eq_false c1
  simp only [QhW, YqD, z18, KHF, Xq8, if_true, if_false, ↓reduceIte, Nat.reduceAdd, Nat.reduceSub, Nat.reduceLeDiff, Nat.reduceEqDiff, Nat.reduceMul, Nat.reduceLT, Int.reduceLT, Int.reduceLE, Int.reduceEq, CO.tmps, Opd.tmps, optT, Nat.reducePow, Nat.reduceDiv, Nat.reduceMod, f1, f2, f3, f4, f5, K5v, ZeZ, c0, c1', rg1, g00, gu, hL', J46, Q0C, QVQ, Qa4, ne_eq, not_false_eq_true, not_true_eq_false, decide_true, decide_false, XUt hh, Ygn hz, QqV hz, qNQ hz]
  exact Bt.drop _ hh rfl (by simp only [Ztp, XDC, Xrx, Y8A, qn9, ok_i, Bool.and_true])
 have c1' := eq_true c1
 have f00 : ((fmO [] [(a, b)]).2.length ≤ 4096) = True := eq_true (Nat.le_trans (KAx (by rw [rg1]; exact c1)) (by simp))
 by_cases c2 : zEL xs' ds' = 0
 case neg =>
  have hE : wrE hs xs ds (a, b) xs' ds' = zEL xs' ds' := by unfold wrE; rw [if_neg (not_not_intro c0), if_neg (not_not_intro c1), if_pos c2]
  rw [hE, if_pos c2] at e
  cases e
  have c2' := eq_false c2
  simp only [QhW, YqD, z18, KHF, Xq8, if_true, if_false, ↓reduceIte, Nat.reduceAdd, Nat.reduceSub, Nat.reduceLeDiff, Nat.reduceEqDiff, Nat.reduceMul, Nat.reduceLT, Int.reduceLT, Int.reduceLE, Int.reduceEq, CO.tmps, Opd.tmps, optT, Nat.reducePow, Nat.reduceDiv, Nat.reduceMod, f1, f2, f3, f4, f5, K5v, KPV, ZeZ, c0, c1', c2', rg1, g00, gu, f00, hL', J46, Q0C, QVQ, Qa4, ne_eq, not_false_eq_true, not_true_eq_false, decide_true, decide_false, XUt hh, Ygn hz, QqV hz, qNQ hz]
  exact Bt.drop _ hh rfl (by simp only [Ztp, XDC, Xrx, Y8A, qn9, ok_i, Bool.and_true])
 have cs := (Zvz c0).1
 by_cases c3 : ZvJ xs ds (a, b) ∨ ZvJ xs' ds' (a, b)
 ·have hE : wrE hs xs ds (a, b) xs' ds' = 19 := by unfold wrE; rw [if_neg (not_not_intro c0), if_neg (not_not_intro c1), if_neg (not_not_intro c2), if_pos c3]
  rw [hE, if_pos (by decide)] at e
  cases e
  by_cases c4 : ZvJ xs ds (a, b)
  ·have c4' := eq_true c4
   simp only [QhW, YqD, z18, KHF, Xq8, if_true, if_false, ↓reduceIte, Nat.reduceAdd, Nat.reduceSub, Nat.reduceLeDiff, Nat.reduceEqDiff, Nat.reduceMul, Nat.reduceLT, Int.reduceLT, Int.reduceLE, Int.reduceEq, CO.tmps, Opd.tmps, optT, Nat.reducePow, Nat.reduceDiv, Nat.reduceMod, f1, f2, f3, f4, f5, K5v, KPV, ZeZ, ZL1, c0, c1', c2, cs, c4', rg1, g00, gu, f00, hL', J46, Q0C, QVQ, Qa4, ne_eq, not_false_eq_true, not_true_eq_false, decide_true, decide_false, XUt hh, Ygn hz, QqV hz, qNQ hz]
   exact Bt.drop _ hh rfl (by simp only [Ztp, XDC, Xrx, Y8A, qn9, ok_i, Bool.and_true])
  ·have c4' := eq_false c4
   have c5' := eq_true (c3.resolve_left c4)
   simp only [QhW, YqD, z18, KHF, Xq8, if_true, if_false, ↓reduceIte, Nat.reduceAdd, Nat.reduceSub, Nat.reduceLeDiff, Nat.reduceEqDiff, Nat.reduceMul, Nat.reduceLT, Int.reduceLT, Int.reduceLE, Int.reduceEq, CO.tmps, Opd.tmps, optT, Nat.reducePow, Nat.reduceDiv, Nat.reduceMod, f1, f2, f3, f4, f5, K5v, KPV, ZeZ, ZL1, c0, c1', c2, cs, c4', c5', rg1, g00, gu, f00, hL', J46, Q0C, QVQ, Qa4, ne_eq, not_false_eq_true, not_true_eq_false, decide_true, decide_false, XUt hh, Ygn hz, QqV hz, qNQ hz]
   exact Bt.drop _ hh rfl (by simp only [Ztp, XDC, Xrx, Y8A, qn9, ok_i, Bool.and_true])
 have c4' := eq_false (fun q => c3 (.inl q) : ¬ ZvJ xs ds (a, b))
 have c5' := eq_false (fun q => c3 (.inr q) : ¬ ZvJ xs' ds' (a, b))
 by_cases c6 : (z9r xs xs' ds ds').2.length ≤ 4096
 case neg =>
  have hE : wrE hs xs ds (a, b) xs' ds' = 10 := by unfold wrE; rw [if_neg (not_not_intro c0), if_neg (not_not_intro c1), if_neg (not_not_intro c2), if_neg c3, if_pos c6]
  rw [hE, if_pos (by decide)] at e
  cases e
  have c6' := eq_false c6
  simp only [QhW, YqD, z18, KHF, Xq8, if_true, if_false, ↓reduceIte, Nat.reduceAdd, Nat.reduceSub, Nat.reduceLeDiff, Nat.reduceEqDiff, Nat.reduceMul, Nat.reduceLT, Int.reduceLT, Int.reduceLE, Int.reduceEq, CO.tmps, Opd.tmps, optT, Nat.reducePow, Nat.reduceDiv, Nat.reduceMod, f1, f2, f3, f4, f5, K5v, KPV, ZeZ, ZL1, z6i, c0, c1', c2, cs, c4', c5', c6', rg1, g00, gu, f00, hL', k1, k2, J46, Q0C, QVQ, Qa4, ne_eq, not_false_eq_true, not_true_eq_false, decide_true, decide_false, XUt hh, Ygn hz, QqV hz, qNQ hz]
  exact Bt.drop _ hh rfl (by simp only [Ztp, XDC, Xrx, Y8A, qn9, ok_i, Bool.and_true])
 have c6' := eq_true c6
 have na := Zi4 (qmZ cs) (qmZ c2)
 have hmk : ∀ x, mkO (z9r xs xs' ds ds').1 (z9r xs xs' ds ds').2 x = fmO (z9r xs xs' ds ds').1 ((z9r xs xs' ds ds').2 ++ [x]) := fun _ => rfl
 have rgJ : qD3 (z9r xs xs' ds ds').1 ((z9r xs xs' ds ds').2 ++ [(a, b)]) = True := eq_true ⟨na.rg.1, na.rg.2.1, fun x hx => by
  rcases List.mem_append.1 hx with q | q
  ·exact na.rg.2.2 x q
  ·rw [List.mem_singleton.1 q]; exact c1⟩
 have lJ1 := na.rg.1
 have qi : ∀ (L : List AB) (a b : Nat), bxL L a = some l → ownC L b = some [s', t'] → qIn (h ++ L) (h.length + a) (h.length + b) = some (hs, xs', ds') := fun L a b b1 b2 => ZrY b1 b2 (hl.app L).get (hv'.app L).get (hd'.app L).get
 have hap : (z9r xs xs' ds ds').2 = [] ∨ (z9r xs xs' ds ds').2 ≠ [] := Classical.em _
 generalize hJ : z9r xs xs' ds ds' = J at *
 obtain ⟨jv, jd⟩ := J
 dsimp only at *
 have g7 : ((jd ++ [(a, b)]).length ≤ 100000) = True := eq_true (by rw [List.length_append]; simp; omega)
 have g8 : (jd ++ [(a, b)]).length ≤ maxLen := by unfold maxLen; rw [List.length_append]; simp; omega
 have z3 : (1 * 16 ≤ 140737488355328 ∧ 1 ≤ maxLen) = True := eq_true ⟨by decide, by unfold maxLen; omega⟩
 have z4 : (1 * 48 ≤ 140737488355328 ∧ 1 ≤ maxLen) = True := eq_true ⟨by decide, by unfold maxLen; omega⟩
 have n1 : (jv.length ≤ maxLen) = True := eq_true (by unfold maxLen; omega)
 have gu2 : ∀ (L : List AB) (k : Nat), ownC L k = some (dotR.cells jd ++ [.i .i64 a, .i .i64 b]) → getS dotR (h ++ L) (.sl (h.length + k) 0 (jd.length + 1) (jd.length + 1) (some 2)) = some (jd ++ [(a, b)]) := fun L k q => by
  have := (ZCP (h := h) (r := dotR) (n := jd.length + 1) (c := jd.length + 1) (kk := some 2) (l := jd ++ [(a, b)]) (L := L) (k := k) (by rw [q, K9W]; rfl) g8 (by simp)).get
  rw [List.take_of_length_le (by simp)] at this
  exact this
 have fj := fun (q0 : jd.length ≠ 0) L k ys hb => q9y (h := h) (p := h.length) rfl (r := dotR) (sz := 2) rfl L k jd 16 1 ys q0 hb (by decide) (by omega) (by unfold maxLen; omega)
 have lo := XIg xs' ds' hs
 have so : wrE hs xs ds (a, b) xs' ds' = 0 → ∀ (L : List AB) (k : Nat), L[k]? = some (.blk true true (Kd6.cells (outL xs' ds' hs) ++ (.i .i64 a :: .i .i64 b :: idR.f i))) → QRo [.sl (h.length + k) 0 ((outL xs' ds' hs).length + 1) ((outL xs' ds' hs).length + 1) (some 34), .f (.func 50) [] []] (h ++ L) = some (.tu [], h ++ L.set k (resB Kd6 true (wrL hs xs' ds' ((a, b), i)))) := fun hE L k q => by
  have e1 : AV.sl (h.length + k) 0 ((outL xs' ds' hs).length + 1) ((outL xs' ds' hs).length + 1) (some 34) = rsl Kd6 (h.length + k) (outL xs' ds' hs ++ [((a, b), i)]) := by rw [zOg]; rfl
  have e2 : AB.blk true true (Kd6.cells (outL xs' ds' hs) ++ (.i .i64 a :: .i .i64 b :: idR.f i)) = resB Kd6 true (outL xs' ds' hs ++ [((a, b), i)]) := by rw [YEn]; rfl
  rw [e1]
  rw [e2] at q
  have hn : (outL xs' ds' hs ++ [((a, b), i)]).length ≤ maxLen := by rw [List.length_append]; unfold maxLen; simp; omega
  have h2 : (h ++ L)[h.length + k]? = some (resB Kd6 true (outL xs' ds' hs ++ [((a, b), i)])) := by rw [KET]; exact q
  have h1 := (K0f h2 hn).get
  simp only [QRo, h1, Option.bind_some, Qqr]
  rw [if_pos ⟨by rw [List.length_append]; simp; omega, rfl, h2⟩, Yca hE, Yig]
 have fo := fun (q0 : (outL xs' ds' hs).length ≠ 0) L k ys hb => q9y (h := h) (p := h.length) rfl (r := Kd6) (sz := 34) rfl L k (outL xs' ds' hs) 48 1 ys q0 hb (by decide) (by omega) (by unfold maxLen; omega)
 have gm := hmk (a, b)
 have hmE : wrE hs xs ds (a, b) xs' ds' = if (mkO jv jd (a, b)).2.length ≤ 4096 then 0 else 10 := by
  unfold wrE
  rw [if_neg (not_not_intro c0), if_neg (not_not_intro c1), if_neg (not_not_intro c2), if_neg c3, hJ, if_neg (not_not_intro c6)]
  by_cases q : (mkO jv jd (a, b)).2.length ≤ 4096
  ·rw [if_neg (not_not_intro q), if_pos q]
  ·rw [if_pos q, if_neg q]
 clear gm
 generalize hM : mkO jv jd (a, b) = M at *
 by_cases hB : jd = []
 ·subst hB
  have gmF : fmO jv [(a, b)] = M := hM
  have g7 : (([(a, b)] : Dots).length ≤ 100000) = True := g00
  have gu3 : ∀ (L : List AB) (k : Nat), ownC L k = some [.i .i64 a, .i .i64 b] → getS dotR (h ++ L) (.sl (h.length + k) 0 1 1 (some 2)) = some [(a, b)] := fun L k q => gu2 L k q
  rw [List.nil_append] at rgJ
  by_cases c7 : M.2.length ≤ 4096
  case neg =>
   rw [hmE, if_neg c7, if_pos (by decide)] at e
   cases e
   have c7' := eq_false c7
   simp only [QhW, YqD, z18, KHF, Xq8, if_true, if_false, ↓reduceIte, Nat.reduceAdd, Nat.reduceSub, Nat.reduceLeDiff, Nat.reduceEqDiff, Nat.reduceMul, Nat.reduceLT, Int.reduceLT, Int.reduceLE, Int.reduceEq, CO.tmps, Opd.tmps, optT, Nat.reducePow, Nat.reduceDiv, Nat.reduceMod, f1, f2, f3, f4, f5, K5v, KPV, ZeZ, ZL1, z6i, hJ, c0, c1', c2, cs, c4', c5', c6', rg1, rgJ, g00, g7, n1, gu, f00, hL', k1, k2, gmF, qBy, QkO, qi, hl.isSl, hv'.isSl, hd'.isSl, hL2, Xm7, qiz, JrK, qyh, YlK, q8J, z3, gu3, c7', J46, Q0C, QVQ, Qa4, ne_eq, not_false_eq_true, not_true_eq_false, decide_true, decide_false, XUt hh, Ygn hz, QqV hz, qNQ hz]
   exact Bt.drop _ hh rfl (by simp only [Ztp, XDC, Xrx, Y8A, qn9, ok_i, Bool.and_true])
  have c7' := eq_true c7
  rw [if_pos c7] at hmE
  rw [hmE, if_neg (not_not_intro rfl)] at e
  cases e
  have so := so hmE
  have eW : ∀ id, AV.sl id 0 ((outL xs' ds' hs).length + 1) ((outL xs' ds' hs).length + 1) (some 34) = rsl Kd6 id (wrL hs xs' ds' ((a, b), i)) := fun id => by
   unfold rsl wrL
   rw [K8p, if_neg (Nat.succ_ne_zero _)]
   rfl
  have eW1 : outL xs' ds' hs = [] → ∀ id, AV.sl id 0 1 1 (some 34) = rsl Kd6 id (wrL hs xs' ds' ((a, b), i)) := fun hO id => by
   have := eW id
   rw [hO] at this
   exact this
  by_cases hO : outL xs' ds' hs = []
  ·have so0 : ∀ (L : List AB) (k : Nat), L[k]? = some (.blk true true (.i .i64 a :: .i .i64 b :: idR.f i)) → QRo [.sl (h.length + k) 0 1 1 (some 34), .f (.func 50) [] []] (h ++ L) = some (.tu [], h ++ L.set k (resB Kd6 true (wrL hs xs' ds' ((a, b), i)))) := fun L k q => by
    have := so L k (by rw [hO]; exact q)
    rw [hO] at this
    exact this
   simp only [QhW, YqD, z18, KHF, Xq8, if_true, if_false, ↓reduceIte, Nat.reduceAdd, Nat.reduceSub, Nat.reduceLeDiff, Nat.reduceEqDiff, Nat.reduceMul, Nat.reduceLT, Int.reduceLT, Int.reduceLE, Int.reduceEq, CO.tmps, Opd.tmps, optT, Nat.reducePow, Nat.reduceDiv, Nat.reduceMod, f1, f2, f3, f4, f5, K5v, KPV, ZeZ, ZL1, z6i, hJ, c0, c1', c2, cs, c4', c5', c6', rg1, rgJ, g00, g7, n1, gu, f00, hL', k1, k2, gmF, qBy, QkO, qi, hl.isSl, hv'.isSl, hd'.isSl, hL2, Xm7, qiz, JrK, qyh, YlK, q8J, z3, gu3, c7', hO, q8J, z4, so0, J46, Q0C, QVQ, Qa4, ne_eq, not_false_eq_true, not_true_eq_false, decide_true, decide_false, XUt hh, Ygn hz, QqV hz, qNQ hz]
   simp only [eW1 hO]
   exact Bt.sel [21, 14, 15] hh (by decide) (by simp only [KlE, FrSel, BlkSel, AV.ren, renL, AV.ok, okL, Option.some.injEq, exists_eq_left', List.length_cons, List.length_nil, Nat.reduceAdd, Nat.reduceLT, reduceCtorEq, implies_true, exists_eq']) (by simp only [KlE, FrSel, BlkSel, AV.ren, renL, AV.ok, okL, Option.some.injEq, exists_eq_left', List.length_cons, List.length_nil, Nat.reduceAdd, Nat.reduceLT, reduceCtorEq, implies_true, exists_eq'])
  ·have hO' : (outL xs' ds' hs).length ≠ 0 := fun q => hO (List.eq_nil_of_length_eq_zero q)
   have gro : ∀ id, apS Kd6 id (outL xs' ds' hs) = rsl Kd6 id (outL xs' ds' hs) := fun id => YM2 _ hO'
   have fo := fo hO'
   simp only [QhW, YqD, z18, KHF, Xq8, if_true, if_false, ↓reduceIte, Nat.reduceAdd, Nat.reduceSub, Nat.reduceLeDiff, Nat.reduceEqDiff, Nat.reduceMul, Nat.reduceLT, Int.reduceLT, Int.reduceLE, Int.reduceEq, CO.tmps, Opd.tmps, optT, Nat.reducePow, Nat.reduceDiv, Nat.reduceMod, f1, f2, f3, f4, f5, K5v, KPV, ZeZ, ZL1, z6i, hJ, c0, c1', c2, cs, c4', c5', c6', rg1, rgJ, g00, g7, n1, gu, f00, hL', k1, k2, gmF, qBy, QkO, qi, hl.isSl, hv'.isSl, hd'.isSl, hL2, Xm7, qiz, JrK, qyh, YlK, q8J, z3, gu3, c7', gro, fo, so, J46, Q0C, QVQ, Qa4, ne_eq, not_false_eq_true, not_true_eq_false, decide_true, decide_false, XUt hh, Ygn hz, QqV hz, qNQ hz]
   simp only [eW]
   exact Bt.sel [21, 14, 15] hh (by decide) (by simp only [KlE, FrSel, BlkSel, AV.ren, renL, AV.ok, okL, Option.some.injEq, exists_eq_left', List.length_cons, List.length_nil, Nat.reduceAdd, Nat.reduceLT, reduceCtorEq, implies_true, exists_eq']) (by simp only [KlE, FrSel, BlkSel, AV.ren, renL, AV.ok, okL, Option.some.injEq, exists_eq_left', List.length_cons, List.length_nil, Nat.reduceAdd, Nat.reduceLT, reduceCtorEq, implies_true, exists_eq'])
 ·have q0 : jd.length ≠ 0 := fun q => hB (List.eq_nil_of_length_eq_zero q)
  have grj : ∀ id, apS dotR id jd = rsl dotR id jd := fun id => YM2 _ q0
  have fj := fj q0
  have gmF : fmO jv (jd ++ [(a, b)]) = M := hM
  by_cases c7 : M.2.length ≤ 4096
  case neg =>
   rw [hmE, if_neg c7, if_pos (by decide)] at e
   cases e
   have c7' := eq_false c7
   simp only [QhW, YqD, z18, KHF, Xq8, if_true, if_false, ↓reduceIte, Nat.reduceAdd, Nat.reduceSub, Nat.reduceLeDiff, Nat.reduceEqDiff, Nat.reduceMul, Nat.reduceLT, Int.reduceLT, Int.reduceLE, Int.reduceEq, CO.tmps, Opd.tmps, optT, Nat.reducePow, Nat.reduceDiv, Nat.reduceMod, f1, f2, f3, f4, f5, K5v, KPV, ZeZ, ZL1, z6i, hJ, c0, c1', c2, cs, c4', c5', c6', rg1, rgJ, g00, g7, n1, gu, f00, hL', k1, k2, gmF, qBy, QkO, qi, hl.isSl, hv'.isSl, hd'.isSl, hL2, Xm7, qiz, JrK, qyh, YlK, grj, fj, gu2, c7', J46, Q0C, QVQ, Qa4, ne_eq, not_false_eq_true, not_true_eq_false, decide_true, decide_false, XUt hh, Ygn hz, QqV hz, qNQ hz]
   exact Bt.drop _ hh rfl (by simp only [Ztp, XDC, Xrx, Y8A, qn9, ok_i, Bool.and_true])
  have c7' := eq_true c7
  rw [if_pos c7] at hmE
  rw [hmE, if_neg (not_not_intro rfl)] at e
  cases e
  have so := so hmE
  have eW : ∀ id, AV.sl id 0 ((outL xs' ds' hs).length + 1) ((outL xs' ds' hs).length + 1) (some 34) = rsl Kd6 id (wrL hs xs' ds' ((a, b), i)) := fun id => by
   unfold rsl wrL
   rw [K8p, if_neg (Nat.succ_ne_zero _)]
   rfl
  have eW1 : outL xs' ds' hs = [] → ∀ id, AV.sl id 0 1 1 (some 34) = rsl Kd6 id (wrL hs xs' ds' ((a, b), i)) := fun hO id => by
   have := eW id
   rw [hO] at this
   exact this
  by_cases hO : outL xs' ds' hs = []
  ·have so0 : ∀ (L : List AB) (k : Nat), L[k]? = some (.blk true true (.i .i64 a :: .i .i64 b :: idR.f i)) → QRo [.sl (h.length + k) 0 1 1 (some 34), .f (.func 50) [] []] (h ++ L) = some (.tu [], h ++ L.set k (resB Kd6 true (wrL hs xs' ds' ((a, b), i)))) := fun L k q => by
    have := so L k (by rw [hO]; exact q)
    rw [hO] at this
    exact this
   simp only [QhW, YqD, z18, KHF, Xq8, if_true, if_false, ↓reduceIte, Nat.reduceAdd, Nat.reduceSub, Nat.reduceLeDiff, Nat.reduceEqDiff, Nat.reduceMul, Nat.reduceLT, Int.reduceLT, Int.reduceLE, Int.reduceEq, CO.tmps, Opd.tmps, optT, Nat.reducePow, Nat.reduceDiv, Nat.reduceMod, f1, f2, f3, f4, f5, K5v, KPV, ZeZ, ZL1, z6i, hJ, c0, c1', c2, cs, c4', c5', c6', rg1, rgJ, g00, g7, n1, gu, f00, hL', k1, k2, gmF, qBy, QkO, qi, hl.isSl, hv'.isSl, hd'.isSl, hL2, Xm7, qiz, JrK, qyh, YlK, grj, fj, gu2, c7', hO, q8J, z4, so0, J46, Q0C, QVQ, Qa4, ne_eq, not_false_eq_true, not_true_eq_false, decide_true, decide_false, XUt hh, Ygn hz, QqV hz, qNQ hz]
   simp only [eW1 hO]
   exact Bt.sel [21, 14, 15] hh (by decide) (by simp only [KlE, FrSel, BlkSel, AV.ren, renL, AV.ok, okL, Option.some.injEq, exists_eq_left', List.length_cons, List.length_nil, Nat.reduceAdd, Nat.reduceLT, reduceCtorEq, implies_true, exists_eq']) (by simp only [KlE, FrSel, BlkSel, AV.ren, renL, AV.ok, okL, Option.some.injEq, exists_eq_left', List.length_cons, List.length_nil, Nat.reduceAdd, Nat.reduceLT, reduceCtorEq, implies_true, exists_eq'])
  ·have hO' : (outL xs' ds' hs).length ≠ 0 := fun q => hO (List.eq_nil_of_length_eq_zero q)
   have gro : ∀ id, apS Kd6 id (outL xs' ds' hs) = rsl Kd6 id (outL xs' ds' hs) := fun id => YM2 _ hO'
   have fo := fo hO'
   simp only [QhW, YqD, z18, KHF, Xq8, if_true, if_false, ↓reduceIte, Nat.reduceAdd, Nat.reduceSub, Nat.reduceLeDiff, Nat.reduceEqDiff, Nat.reduceMul, Nat.reduceLT, Int.reduceLT, Int.reduceLE, Int.reduceEq, CO.tmps, Opd.tmps, optT, Nat.reducePow, Nat.reduceDiv, Nat.reduceMod, f1, f2, f3, f4, f5, K5v, KPV, ZeZ, ZL1, z6i, hJ, c0, c1', c2, cs, c4', c5', c6', rg1, rgJ, g00, g7, n1, gu, f00, hL', k1, k2, gmF, qBy, QkO, qi, hl.isSl, hv'.isSl, hd'.isSl, hL2, Xm7, qiz, JrK, qyh, YlK, grj, fj, gu2, c7', gro, fo, so, J46, Q0C, QVQ, Qa4, ne_eq, not_false_eq_true, not_true_eq_false, decide_true, decide_false, XUt hh, Ygn hz, QqV hz, qNQ hz]
   simp only [eW]
   exact Bt.sel [21, 14, 15] hh (by decide) (by simp only [KlE, FrSel, BlkSel, AV.ren, renL, AV.ok, okL, Option.some.injEq, exists_eq_left', List.length_cons, List.length_nil, Nat.reduceAdd, Nat.reduceLT, reduceCtorEq, implies_true, exists_eq']) (by simp only [KlE, FrSel, BlkSel, AV.ren, renL, AV.ok, okL, Option.some.injEq, exists_eq_left', List.length_cons, List.length_nil, Nat.reduceAdd, Nat.reduceLT, reduceCtorEq, implies_true, exists_eq'])
theorem KVZ : Spec Tryz.prog 18 K4d := by
 intro args h v h' e
 unfold K4d at e
 split at e
 ·rename_i l s t a b x s' t'
  obtain ⟨hs, hl, e⟩ := zZA e
  obtain ⟨xs, hv, e⟩ := zZA e
  obtain ⟨ds, hd, e⟩ := zZA e
  obtain ⟨xs', hv', e⟩ := zZA e
  obtain ⟨ds', hd', e⟩ := zZA e
  obtain ⟨i, hx, e2⟩ := JPm e
  clear e
  subst hx
  split at e2
  ·rename_i hL
   split at e2
   ·rename_i c
    cases e2
    refine FnAt.c (FnAt.frz0 fun hz => Yxe hz hl.frz hv.frz hd.frz hv'.frz hd'.frz hL.1 hL.2.1 hL.2.2 _ _ ?_)
    simp only [K4d, hl.frz.get, hv.frz.get, hd.frz.get, hv'.frz.get, hd'.frz.get, KgE, Option.bind_some]
    rw [if_pos hL, if_pos c]
   ·rename_i c
    cases e2
    refine FnAt.c (FnAt.frz fun hz => Yxe hz hl.frz hv.frz hd.frz hv'.frz hd'.frz hL.1 hL.2.1 hL.2.2 _ _ ?_)
    simp only [K4d, hl.frz.get, hv.frz.get, hd.frz.get, hv'.frz.get, hd'.frz.get, KgE, Option.bind_some, List.length_map]
    rw [if_pos hL, if_neg c]
  ·cases e2
 ·cases e
end Go.Proofs.YtcncpbcbedfakaaGreat
end
section
namespace Go.Proofs.YtcncpbcbedfakaaGreat
set_option maxRecDepth 100000
set_option maxHeartbeats 4000000
def XEV : List AV → List AB → Option (AV × List AB)
 | [.p id 0], h => match h[id]? with
  | some (.blk false true [a, b, c, d, e, f]) => if a.isSl = true ∧ b.isSl = true ∧ c.isSl = true ∧ d.isSl = true ∧ e.isSl = true ∧ f.isSl = true then some (.tu [], bxc h id [d, e, f, a, b, c]) else none
  | _ => none
 | _, _ => none
theorem Yci : Spec Tryz.prog 47 XEV := by
 intro args h v h' e
 unfold XEV at e
 split at e
 ·rename_i id
  split at e
  ·rename_i a b c d e' f hb
   split at e
   ·rename_i hs
    cases e
    obtain ⟨s1, s2, s3, s4, s5, s6⟩ := hs
    have hid := (List.getElem?_eq_some_iff.1 hb).1
    refine FnAt.c (FnAt.run (by kernel_rfl) (T := ⟨[], []⟩) ⟨trivial, trivial⟩ Tryz.func47 sw47 fun ho hh => ?_)
    have ok := hh id _ hb
    simp only [AB.ok, XDC, Xrx, Bool.and_eq_true, Bool.and_true] at ok
    obtain ⟨o1, o2, o3, o4, o5, o6⟩ := ok
    have e0 : h ++ [] = bxc h id [a, b, c, d, e', f] ++ [] := by rw [Jj8 hb]
    rw [e0]
    have up : ∀ (t : AV), t.ok (fun i => decide (i < h.length)) = true → (∀ c lo hi anc past, t.ok (qOk (h.length + c) lo hi anc past) = true) ∧ ∀ c, t.ok (fun i => decide (i < h.length + c)) = true := fun t ht => ⟨fun c lo hi anc past => AV.ok_mono (fun i q => YO5 (by simp only [decide_eq_true_eq] at q; omega)) t ht, fun c => AV.ok_mono (fun i q => by simp only [decide_eq_true_eq] at q ⊢; omega) t ht⟩
    have u := And.intro (up _ o1) (And.intro (up _ o2) (And.intro (up _ o3) (And.intro (up _ o4) (And.intro (up _ o5) (up _ o6)))))
    have q1 : ∀ c lo hi anc past, qOk (h.length + c) lo hi anc past id = true := fun c lo hi anc past => YO5 (by omega)
    have q2 : ∀ c, (id < h.length + c) = True := fun c => eq_true (by omega)
    have hidz : id < (h.map AB.freeze).length := by rw [List.length_map]; exact hid
    unfold w47
    simp only [QhW, YqD, z18, qdf, Qgl, if_true, if_false, reduceIte, Nat.reduceAdd, Nat.reduceSub, Nat.reduceLeDiff, Nat.reduceEqDiff, Nat.reduceMul, Nat.reduceLT, Int.reduceLT, Int.reduceLE, Int.reduceEq, CO.tmps, Opd.tmps, optT, Nat.reducePow, Nat.reduceDiv, Nat.reduceMod, Z11 hid, X6h hid, X6h hidz, zpI hid hh, QDs rfl hid, q69 hid, zC6 hidz, KEu, zed, XWQ, List.length_map, q1, q2, u, Xm8 s1, Xm8 s2, Xm8 s3, Xm8 s4, Xm8 s5, Xm8 s6]
    exact Bt.eq rfl (List.append_nil _)
   ·cases e
  ·cases e
 ·cases e
theorem YAG {h : List AB} {i : Nat} {c : List AV} {x : Hd} (e : ZMj h i = some c) (hx : getH (.ag c) = some x) : ZMj h i = some (Kd6.f x) := by
 unfold getH at hx
 split at hx
 ·rename_i q
  cases hx
  have := q.choose_spec
  rw [AV.ag.injEq] at this
  rw [e, ← this]
 ·cases hx
noncomputable def zKe : List AV → List AB → Option (AV × List AB)
 | [y, .p i 0], h => (ZMj h i).bind fun c => (getH (.ag c)).bind fun x => (getH y).bind fun z => some (.b (decide (z.1 = x.1)), h)
 | _, _ => none
theorem Jo7 : Spec Tryz.prog 44 zKe := by
 intro args h v h' e
 unfold zKe at e
 split at e
 ·rename_i y i
  obtain ⟨c, hc, e⟩ := Option.bind_eq_some_iff.1 e
  obtain ⟨x, hx, e⟩ := Option.bind_eq_some_iff.1 e
  obtain ⟨z, hy, e2⟩ := z3D e
  clear e
  subst hy
  cases e2
  have f1 := qbo (YAG hc hx)
  refine FnAt.c (FnAt.run (by kernel_rfl) (T := ⟨[], []⟩) ⟨trivial, trivial⟩ Tryz.func44 sw44 fun ho hh => ?_)
  have kd : ∀ z : Hd, (Kd6.f z).take 2 = [.i .i64 z.1.1, .i .i64 z.1.2] := fun _ => rfl
  unfold w44
  simp only [QhW, YqD, z18, KHF, Xq8, if_true, if_false, ↓reduceIte, Nat.reduceAdd, Nat.reduceSub, Nat.reduceLeDiff, Nat.reduceEqDiff, Nat.reduceMul, Nat.reduceLT, Int.reduceLT, Int.reduceLE, Int.reduceEq, CO.tmps, Opd.tmps, optT, Nat.reducePow, Nat.reduceDiv, Nat.reduceMod, f1, kd, QTL, zHG, eqcG]
  exact Bt.dropB _ hh (decide_eq_decide.2 ⟨fun q => Prod.ext q.1 q.2, fun q => by rw [q]; exact ⟨rfl, rfl⟩⟩)
 ·cases e
noncomputable def QKJ : List AV → List AB → Option (AV × List AB)
 | [s, .f (.func 44) [] [.p i 0]], h => (ZMj h i).bind fun c => (getH (.ag c)).bind fun x => (getS Kd6 h s).bind fun l => some (.i .i64 (idx (fun y : Hd => y.1 = x.1) l), h)
 | _, _ => none
theorem YJ6 : Spec Tryz.prog 43 QKJ := by
 intro args h v h' e
 unfold QKJ at e
 split at e
 ·rename_i s i
  obtain ⟨c, hc, e⟩ := Option.bind_eq_some_iff.1 e
  obtain ⟨x, hx0, e⟩ := Option.bind_eq_some_iff.1 e
  obtain ⟨l, hx, e⟩ := zZA e
  cases e
  have hb := YAG hc hx0
  refine FnAt.c (FnAt.run (by kernel_rfl) (T := ⟨[⟨44, zKe, fun _ => []⟩], []⟩) ⟨⟨Jo7, trivial⟩, trivial⟩ Tryz.func43 sw43 fun ho hh => ?_)
  simp only [XDC, Bool.and_eq_true] at ho
  have f1 := hx.fx ho.1 (sz := 34) rfl
  have k0 : ∀ y, ZMj (h ++ y) i = some (Kd6.f x) := (qbo hb).1
  unfold w43
  simp only [QhW, YqD, z18, Xq8, if_true, if_false, reduceIte, Nat.reduceAdd, Nat.reduceSub, Nat.reduceLeDiff, Nat.reduceEqDiff, Nat.reduceMul, Nat.reduceLT, Int.reduceLT, Int.reduceLE, Int.reduceEq, f1]
  refine zXO (S := Nat) (fun j => l.length - j) (fun j => [s, .f (.func 44) [] [.p i 0]] ++ tp 5 ++ [.i .i64 l.length, .i .i64 j] ++ tp 10) (fun j => j ≤ l.length ∧ idx (fun y : Hd => y.1 = x.1) l = JFo (fun y : Hd => y.1 = x.1) (l.drop j) j) 0 ⟨Nat.zero_le _, rfl⟩ (by simp only [z18, Xq8, if_true, if_false, reduceIte, Nat.reduceAdd, Nat.reduceSub, Nat.reduceLeDiff, Nat.reduceEqDiff, Nat.reduceMul, Nat.reduceLT, Int.reduceLT, Int.reduceLE, Int.reduceEq]) fun j hj => ?_
  simp only [z18, Xq8, if_true, if_false, reduceIte, Nat.reduceAdd, Nat.reduceSub, Nat.reduceLeDiff, Nat.reduceEqDiff, Nat.reduceMul, Nat.reduceLT, Int.reduceLT, Int.reduceLE, Int.reduceEq, f1]
  refine ⟨fun h2 => ?_, fun h2 => ?_⟩
  ·have e1 : IntKind.i64.wrap ((j : Int) + 1) = ((j + 1 : Nat) : Int) := ZWo (by have := hx.2; unfold maxLen at this; unfold In64; omega)
   have e2 := KAA (fun y : Hd => y.1 = x.1) Kd6.d j h2
   simp only [z18, Xq8, if_true, if_false, reduceIte, Nat.reduceAdd, Nat.reduceSub, Nat.reduceLeDiff, Nat.reduceEqDiff, Nat.reduceMul, Nat.reduceLT, Int.reduceLT, Int.reduceLE, Int.reduceEq, f1, h2, e1, zKe, Ktb, k0]
   refine ⟨fun h3 => Bt.eq (by rw [hj.2, e2, if_pos h3]) (List.append_nil h), fun h3 => ⟨j + 1, ⟨h2, ?_⟩, by omega, Wk.refl _⟩⟩
   rw [hj.2, e2, if_neg h3]
  ·exact Bt.eq (by rw [hj.2, List.drop_eq_nil_of_le (by omega)]; rfl) (List.append_nil h)
 ·cases e
end Go.Proofs.YtcncpbcbedfakaaGreat
end
