/- Part 20 of what the laws' proofs rest on. No condition. -/
import Derived.Test.YtfaccliekejngaaGreatOo19
set_option linter.all false
section
namespace Go.Proofs.YtfaccliekejngaaGreat
structure RG (l : List Hd) (v : List Int) (ds : Dots) : Prop where
 nf : NF v ds
 len : ds.length ≤ 4096
 rise : l.Pairwise KBL
 sn : ∀ x ∈ l, inC v ds x.1
theorem RG.one {l : List Hd} {v : List Int} {ds : Dots} (a : RG l v ds) {x y : Hd} (hx : x ∈ l) (hy : y ∈ l) (h : x.1 = y.1) : x = y := by
 have := a.rise
 obtain ⟨i, hi, rfl⟩ := List.getElem_of_mem hx
 obtain ⟨j, hj, rfl⟩ := List.getElem_of_mem hy
 rcases Nat.lt_trichotomy i j with q | rfl | q
 ·have z := List.pairwise_iff_getElem.1 this i j hi hj q
  unfold KBL at z
  rw [h] at z
  exact absurd z (zng _)
 ·rfl
 ·have z := List.pairwise_iff_getElem.1 this j i hj hi q
  unfold KBL at z
  rw [h] at z
  exact absurd z (zng _)
theorem YXv {l m : List Hd} (hp : m.Perm l) (hs : m.Pairwise fun x y => ¬ ZwT y.1 x.1) (hd : l.Pairwise fun x y => x.1 ≠ y.1) : m.Pairwise KBL := by
 have hd' : m.Pairwise fun x y => x.1 ≠ y.1 := (hp.pairwise_iff (fun {x y} h => Ne.symm h)).2 hd
 refine (hs.and hd').imp fun {x y} h => ?_
 rcases Y5F x.1 y.1 with q | q | q
 ·exact q
 ·exact absurd q h.2
 ·exact absurd q h.1
theorem Ypx {l : List Hd} (h : l.Pairwise KBL) : l.Pairwise fun x y => x.1 ≠ y.1 := h.imp fun {x y} q e => by
 unfold KBL at q
 rw [e] at q
 exact zng _ q
open Classical in
noncomputable def outG (v : List Int) (ds : Dots) (l : List Hd) : List Hd := l.filter fun x => decide (¬ inC v ds x.1)
theorem YSc {v : List Int} {ds : Dots} {l : List Hd} {x : Hd} : x ∈ outG v ds l ↔ x ∈ l ∧ ¬ inC v ds x.1 := by simp [outG]
theorem z79 {v : List Int} {ds : Dots} {l : List Hd} (h : l.Pairwise KBL) : (outG v ds l).Pairwise KBL := h.filter _
def zwL (l l' : List Hd) : Prop := ∀ x ∈ l, ∀ y ∈ l', x.1 = y.1 → x.2 = y.2
open Classical in
noncomputable def jnU (l l' : List Hd) (v v' : List Int) (ds ds' : Dots) : List Hd := (l.filter fun x => decide (∃ y ∈ l', y.1 = x.1)) ++ outG v' ds' l ++ outG v ds l'
theorem qWq {l l' : List Hd} {v v' : List Int} {ds ds' : Dots} {x : Hd} : x ∈ jnU l l' v v' ds ds' ↔ (x ∈ l ∧ ∃ y ∈ l', y.1 = x.1) ∨ (x ∈ l ∧ ¬ inC v' ds' x.1) ∨ (x ∈ l' ∧ ¬ inC v ds x.1) := by
 simp [jnU, outG]
theorem zm4 {l l' : List Hd} {v v' : List Int} {ds ds' : Dots} (a : RG l v ds) (b : RG l' v' ds') : (jnU l l' v v' ds ds').Pairwise fun x y => x.1 ≠ y.1 := by
 unfold jnU
 refine List.pairwise_append.2 ⟨List.pairwise_append.2 ⟨(Ypx a.rise).filter _, Ypx (z79 a.rise), fun x hx y hy e => ?_⟩, Ypx (z79 b.rise), fun x hx y hy e => ?_⟩
 ·have hx' := (List.mem_filter.1 hx).2
  obtain ⟨z, hz, hz2⟩ := of_decide_eq_true hx'
  have := (YSc.1 hy).2
  rw [← e, ← hz2] at this
  exact this (b.sn z hz)
 ·have h1 := (YSc.1 hy).2
  rw [← e] at h1
  rcases List.mem_append.1 hx with q | q
  ·exact h1 (a.sn x (List.mem_filter.1 q).1)
  ·exact h1 (a.sn x (YSc.1 q).1)
structure Jn (l l' : List Hd) (v v' : List Int) (ds ds' : Dots) (m : List Hd) : Prop where
 rise : m.Pairwise KBL
 mem : ∀ x, x ∈ m ↔ x ∈ jnU l l' v v' ds ds'
theorem Jn.uniq {l l' : List Hd} {v v' : List Int} {ds ds' : Dots} {m m' : List Hd} (h : Jn l l' v v' ds ds' m) (h' : Jn l l' v v' ds ds' m') : m = m' :=
 qfr XEZ h.rise h'.rise fun x => by rw [h.mem, h'.mem]
theorem Jn.rg {l l' : List Hd} {v v' : List Int} {ds ds' : Dots} {m : List Hd} (h : Jn l l' v v' ds ds' m) (a : RG l v ds) (b : RG l' v' ds') (hl : (zbr v v' ds ds').2.length ≤ 4096) : RG m (zbr v v' ds ds').1 (zbr v v' ds ds').2 :=
 ⟨QaH a.nf b.nf, hl, h.rise, fun x hx => (QoG a.nf b.nf _).2 (by
  rcases qWq.1 ((h.mem x).1 hx) with q | q | q
  ·exact .inl (a.sn x q.1)
  ·exact .inl (a.sn x q.1)
  ·exact .inr (b.sn x q.1))⟩
theorem XRH {l l' : List Hd} {v v' : List Int} {ds ds' : Dots} (g : zwL l l') {x : Hd} : x ∈ jnU l l' v v' ds ds' ↔ (x ∈ l ∧ x ∈ l') ∨ (x ∈ l ∧ ¬ inC v' ds' x.1) ∨ (x ∈ l' ∧ ¬ inC v ds x.1) := by
 rw [qWq]
 constructor
 ·rintro (⟨h1, y, hy, e⟩ | h | h)
  ·have : x = y := Prod.ext e.symm (g x h1 y hy e.symm)
   rw [← this] at hy
   exact .inl ⟨h1, hy⟩
  ·exact .inr (.inl h)
  ·exact .inr (.inr h)
 ·rintro (⟨h1, h2⟩ | h | h)
  ·exact .inl ⟨h1, x, h2, rfl⟩
  ·exact .inr (.inl h)
  ·exact .inr (.inr h)
section
variable {la lb lc : List Hd} {va vb vc : List Int} {da db dc : Dots}
end
end Go.Proofs.YtfaccliekejngaaGreat
end
section
namespace Go.Proofs.YtfaccliekejngaaGreat
set_option maxRecDepth 100000
set_option maxHeartbeats 4000000
noncomputable instance (l : List Hd) : Decidable (l.Pairwise KBL) := Classical.propDecidable _
noncomputable def qpE : List AV → List AB → Option (AV × List AB)
 | [s], h => (getS qjO h s).bind fun l => if l.length ≤ 1000000 then some (.b (decide (l.Pairwise KBL)), h) else none
 | _, _ => none
theorem Y73 {l : List Hd} {v : List Int} {ds : Dots} (c : KXy v ds = 0) : K16 v ds l l.length ↔ l.Pairwise KBL ∧ ¬ ∃ x ∈ l, zBP v ds x := by
 rw [JJZ XEZ]
 have gd : ∀ k (h : k < l.length), l.getD k qjO.d = l[k] := fun k h => by rw [List.getD_eq_getElem?_getD, List.getElem?_eq_getElem h]; rfl
 constructor
 ·intro h
  refine ⟨fun i hi => ?_, ?_⟩
  ·have := (h (i + 1) hi).1 (Nat.succ_pos _)
   rw [gd _ hi, Nat.add_sub_cancel, gd i (by omega)] at this
   exact this
  ·rintro ⟨x, hx, hl⟩
   obtain ⟨i, hi, rfl⟩ := List.getElem_of_mem hx
   have := (h i hi).2
   rw [gd i hi] at this
   exact hl this
 ·rintro ⟨h1, h2⟩ k hk
  refine ⟨fun h0 => ?_, ?_⟩
  ·obtain ⟨j, rfl⟩ : ∃ j, k = j + 1 := ⟨k - 1, by omega⟩
   rw [gd _ hk, Nat.add_sub_cancel, gd j (by omega)]
   exact h1 j hk
  ·rw [gd k hk]
   exact Decidable.not_not.1 fun q => h2 ⟨_, List.getElem_mem hk, q⟩
theorem zFp {l : List Hd} {v : List Int} {ds : Dots} : Kq6 l v ds = 0 ↔ RG l v ds := by
 constructor
 ·intro h
  obtain ⟨c, f⟩ := zvk h
  obtain ⟨h1, h2⟩ := (Y73 c).1 f
  refine ⟨KIn c, (YIo c).2.1, h1, fun x hx => ?_⟩
  have : KXy v ds = 0 ∧ YlY v ds x.1 := Decidable.not_not.1 fun q => h2 ⟨x, hx, q⟩
  exact (QbQ (KIn c).rg x.1).1 this.2
 ·intro h
  have c := h.nf.check h.len
  unfold Kq6
  rw [if_neg (not_not_intro c), if_pos ((Y73 c).2 ⟨h.rise, ?_⟩)]
  rintro ⟨x, hx, hl⟩
  exact hl ⟨c, (QbQ h.nf.rg x.1).2 (h.sn x hx)⟩
noncomputable def X7Q : List AV → List AB → Option (AV × List AB)
 | [.ag [l, s, t]], h => (getS qjO h l).bind fun hs => (getS intR h s).bind fun v => (getS dotR h t).bind fun ds => if hs.length ≤ 1000000 then some (.i .i64 (Kq6 hs v ds), h) else none
 | _, _ => none
end Go.Proofs.YtfaccliekejngaaGreat
end
section
namespace Go.Proofs.YtfaccliekejngaaGreat
set_option maxRecDepth 100000
set_option maxHeartbeats 4000000
theorem Jd8 {l' l : List AV} (h : WkL l' l) : Wk (.tu l') (.tu l) := fun ρ c v => by
 cases v with
 | tu _ cs hn hv =>
  have := WkL.vl h (cs := cs) ⟨hn, hv⟩
  exact .tu l' cs this.1 this.2
theorem ZD3 (v : List Int) (ds : Dots) (l : List Hd) : (outL v ds l).length ≤ l.length := List.length_filter_le _ _
end Go.Proofs.YtfaccliekejngaaGreat
end
section
namespace Go.Proofs.YtfaccliekejngaaGreat
open Go.RowKit Go.Shelf Go.Sort
variable {P : Program} {α : Type} {r : Row α}
def sortP [Inhabited α] (cf : α → α → Int) (l : List α) : List α := (pdq (ltOf cf) l.toArray 0 l.toArray.size (Lib.bitLen l.toArray.size) true true).toList
theorem Z6V [Inhabited α] {cf : α → α → Int} (hO : SWO (ltOf cf)) (l : List α) : PermIn 0 l.toArray.size l.toArray (sortP cf l).toArray ∧ SortedIn (ltOf cf) 0 l.toArray.size (sortP cf l).toArray := by
 have := pdq_sorts (ltOf cf) hO l.toArray 0 l.toArray.size (Lib.bitLen l.toArray.size) true true (Nat.zero_le _) (Nat.le_refl _) (Or.inl rfl)
 exact this
theorem zMn [Inhabited α] {cf : α → α → Int} (hO : SWO (ltOf cf)) (l : List α) : (sortP cf l).length = l.length := by
 have := (Z6V hO l).1.1
 simpa using this
theorem YRI [Inhabited α] {cf : α → α → Int} (hO : SWO (ltOf cf)) (l : List α) : (sortP cf l).Perm l := by
 obtain ⟨⟨h1, _, h3⟩, _⟩ := Z6V hO l
 have e1 : (sortP cf l).toArray.extract 0 l.toArray.size = (sortP cf l).toArray := by rw [← h1]; exact Array.extract_size
 rw [e1, Array.extract_size] at h3
 simpa using h3
theorem KIG [Inhabited α] {cf : α → α → Int} (hO : SWO (ltOf cf)) (l : List α) : (sortP cf l).Pairwise fun x y => ¬ cf y x < 0 := by
 have hl := zMn hO l
 have h := (Z6V hO l).2
 rw [List.pairwise_iff_getElem]
 intro i j hi hj hij
 have hi' : i < (sortP cf l).toArray.size := by simpa using hi
 have hj' : j < (sortP cf l).toArray.size := by simpa using hj
 have := h i j (Nat.zero_le _) hij (by simp; omega)
 rw [getElem!_pos _ j hj', getElem!_pos _ i hi'] at this
 simpa [ltOf] using this
theorem JCS [Inhabited α] {N : Ren} (L : SlLaysF0.n6 P N) (aE : ∀ w, (isAgg (N.t 24)).run P w = .ok true w) (zE : ∀ w, (Go.sizeOf (N.t 24)).run P w = .ok r.sz w) {cf : α → α → Int} (hO : SWO (ltOf cf))
  {g : Nat} (hc : Cmps P g r cf) (hfl : ∀ x, ∀ a ∈ r.f x, a.fl = true) (h1 : ∀ x, ∀ v ∈ r.enc x, v.oneCell' = true)
  {h : List AB} {id : Nat} (l : List α) (hb : h[id]? = some (resB r true l)) (hl : l.length ≤ 1000000) :
  FnC P (N.f 6) [rsl r id l, .f (.func g) [] []] h (.tu []) (h.set id (resB r true (sortP cf l))) := by
 obtain ⟨nm, hnm, hf⟩ := L.f6
 refine ⟨⟨_, _, hf, by simpa using hnm, rfl⟩, fun ρ w vals hr hv => ?_⟩
 obtain ⟨v, f, rfl, hv1, hv2⟩ := K7E hv
 have := qlx hv2
 subst this
 by_cases h0 : l.length = 0
 ·have : l = [] := List.eq_nil_of_length_eq_zero h0
  subst this
  simp only [rsl, List.length_nil, if_true] at hv1
  obtain ⟨a, c, rfl⟩ := QRT hv1 rfl
  refine (AnyF.slices_SortFunc_none L a c _ w).mono ?_
  rintro e w' ⟨rfl, rfl⟩
  rw [List.eq_nil_of_length_eq_zero (zMn hO []), JSk h id _ hb]
  exact ⟨_, ρ, rfl, .tu [] #[] rfl fun j a c q => by simp at q, hr, EffP.refl _ _ _ _⟩
 ·simp only [rsl, if_neg h0] at hv1
  obtain ⟨b, o, n, cap', hρ, rfl, _, hlc, hcm, hcap⟩ := Kjv hv1 h0
  have hB := hr.blk id _ b o n hb hρ
  simp only [resB, if_neg h0, BR] at hB
  obtain ⟨cs, e, fz, hheap, hm, hlen, hcells⟩ := hB
  obtain ⟨rfl, hn⟩ := hm trivial
  have hblk : b < w.heap.size := (Array.getElem?_eq_some_iff.1 hheap).1
  have hall : ∀ a ∈ r.cells l, a.fl = true := fun a ha => by
   obtain ⟨x, _, hx⟩ := List.mem_flatMap.1 ha
   exact hfl x a hx
  have hH : HoldsK r.enc r.sz w b o l.toArray := by
   unfold HoldsK
   rw [YCv]
   intro j hj
   have hj' : j < (r.cells l).length := by simpa using hj
   have hoj : o + j < cs.size := by omega
   refine ⟨?_, ?_⟩
   ·unfold World.cell?
    simp only [hheap]
    have hv := hcells j _ _ (List.getElem?_eq_getElem hj') (Array.getElem?_eq_getElem hoj)
    rw [getElem!_pos (((r.cells l).map AV.val).toArray) j hj]
    simp only [Option.isSome_none, Bool.false_eq_true, if_false, Array.getElem?_eq_getElem hoj, Option.some.injEq, List.getElem_toArray, List.getElem_map, id_eq]
    exact Xjg (hall _ (List.getElem_mem hj')) hv
   ·unfold World.frozen?
    simp only [hheap]
    simp
  obtain ⟨⟨gf, gb, hg1, hg2, hg3⟩, _⟩ := hc r.d r.d []
  have eg : ∀ args w, (callFunc g args).run P w = .ok (.enter g args) w := fun args w => by simp [callFunc, hg1, hg2, hg3]
  have hC := AnyQ.slices_SortFunc_eq L r.sz aE zE r.enc (fun x => by simp [Row.enc, r.len]) h1 cf hO g #[] b o cap' l.toArray w eg (hc.lays hfl b o l.toArray.size w) hH hblk (by simp; omega)
  refine Calls.mono (show Calls P (N.f 6) #[.slice (some ⟨b, o + 0, none⟩) l.length cap', .func (.func g) #[] #[]] w _ from hC) ?_
  rintro e w' ⟨rfl, n', os, rfl⟩
  have hll : (sortP cf l).length = l.length := zMn hO l
  have hpq : pdq (ltOf cf) l.toArray 0 l.toArray.size (Lib.bitLen l.toArray.size) true true = (sortP cf l).toArray := rfl
  rw [hpq]
  generalize sortP cf l = l' at *
  have h0' : ¬ l'.length = 0 := by omega
  have hall' : ∀ a ∈ r.cells l', a.fl = true := fun a ha => by
   obtain ⟨x, _, hx⟩ := List.mem_flatMap.1 ha
   exact hfl x a hx
  have hcl : (r.cells l').length = (r.cells l).length := by rw [r.cells_len, r.cells_len, hll]
  have hW : sortWorldK r.enc r.sz w b o n' l'.toArray os = Go.Sort.grow (mapBlock (Go.Sort.ahead w n') b (putCells _root_.id o ((r.cells l').map AV.val).toArray)) os := by
   unfold sortWorldK putRowK putRow
   rw [YCv]
  rw [hW]
  have hput := hr.put (w' := mapBlock (Go.Sort.ahead w n') b (putCells _root_.id o ((r.cells l').map AV.val).toArray)) hb (by simp [resB, h0, AB.mut]) hρ (B' := resB r true l') (by
   simp only [resB, if_neg h0', BR]
   refine ⟨putCells _root_.id o ((r.cells l').map AV.val).toArray cs, e, (0, 0), ?_, fun _ => ⟨rfl, by simp [putCells]; exact hn⟩, by simp [putCells, hcl]; exact hlen, fun k a c ha hc' => ?_⟩
   ·simp only [mapBlock, Go.Sort.ahead, Array.getElem?_modify, if_true, hheap, Option.map_some, onCells]
   ·have hk := (List.getElem?_eq_some_iff.1 ha).1
    have hok : o + k < cs.size := by omega
    have hka : a = (r.cells l')[k] := (List.getElem?_eq_some_iff.1 ha).2.symm
    simp only [putCells, Array.getElem?_mapIdx, Array.getElem?_eq_getElem hok, Option.map_some] at hc'
    rw [if_pos (by constructor <;> simp <;> omega)] at hc'
    simp only [Option.some.injEq, id_eq, Nat.add_sub_cancel_left] at hc'
    rw [getElem!_pos (((r.cells l').map AV.val).toArray) k (by simpa using hk)] at hc'
    simp only [List.getElem_toArray, List.getElem_map] at hc'
    subst hka
    rw [← hc']
    exact QSs _ (hall' _ (List.getElem_mem hk))) rfl rfl ⟨rfl, Nat.le_add_right _ _⟩ (by simp [mapBlock, Go.Sort.ahead]) (fun k hk => by
   simp only [mapBlock, Go.Sort.ahead, Array.getElem?_modify]
   rw [if_neg (fun q => hk q.symm)]) (fun _ => by simp [resB, h0, AB.live])
  have hgrow := hput.1.grown os
  exact ⟨_, ρ, rfl, .tu [] #[] rfl fun j a c q => by simp at q, hgrow.1, (hput.2.trans hgrow.2).p (Ext.refl _) (by rw [hr.len]; exact Nat.le_refl _)⟩
end Go.Proofs.YtfaccliekejngaaGreat
end
section
namespace Go.Proofs.YtfaccliekejngaaGreat
open Go.Shelf
def Jse : Go.Shelf.Ren := ⟨fun | 6 => 107 | 15 => 125 | 14 => 141 | 28 => 155 | 29 => 156 | 20 => 161 | 21 => 162 | 22 => 163 | 23 => 164 | 24 => 165 | 25 => 166 | 26 => 167 | 27 => 168 | 46 => 187 | 47 => 180 | 48 => 181 | 49 => 188 | 50 => 189 | 57 => 195 | n => n, fun | 22 => 22 | 24 => 66 | 25 => 128 | 3 => 3 | 39 => 139 | 0 => 0 | 53 => 166 | 55 => 168 | 4 => 4 | 46 => 160 | 45 => 159 | 50 => 146 | 5 => 5 | 9 => 9 | 66 => 181 | 70 => 185 | 76 => 196 | 77 => 197 | n => n, fun | n => n⟩
theorem Zi0 : Go.Proofs.SlLaysF0.n6 Tryz.prog Jse := {
 mixed := by kernel_rfl
 f6 := ⟨Tryz.f107.name, by decide, Tryz.func107.trans (congrArg some (by kernel_rfl))⟩
 f14 := ⟨Tryz.f141.name, by decide, Tryz.func141.trans (congrArg some (by kernel_rfl))⟩
 f15 := Tryz.func125.trans (congrArg some (by kernel_rfl))
 f20 := ⟨Tryz.f161.name, by decide, Tryz.func161.trans (congrArg some (by kernel_rfl))⟩
 f21 := ⟨Tryz.f162.name, by decide, Tryz.func162.trans (congrArg some (by kernel_rfl))⟩
 f22 := ⟨Tryz.f163.name, by decide, Tryz.func163.trans (congrArg some (by kernel_rfl))⟩
 f23 := ⟨Tryz.f164.name, by decide, Tryz.func164.trans (congrArg some (by kernel_rfl))⟩
 f24 := ⟨Tryz.f165.name, by decide, Tryz.func165.trans (congrArg some (by kernel_rfl))⟩
 f25 := ⟨Tryz.f166.name, by decide, Tryz.func166.trans (congrArg some (by kernel_rfl))⟩
 f26 := ⟨Tryz.f167.name, by decide, Tryz.func167.trans (congrArg some (by kernel_rfl))⟩
 f27 := ⟨Tryz.f168.name, by decide, Tryz.func168.trans (congrArg some (by kernel_rfl))⟩
 f28 := Tryz.func155.trans (congrArg some (by kernel_rfl))
 f29 := Tryz.func156.trans (congrArg some (by kernel_rfl))
 f46 := ⟨Tryz.f187.name, by decide, Tryz.func187.trans (congrArg some (by kernel_rfl))⟩
 f47 := Tryz.func180.trans (congrArg some (by kernel_rfl))
 f48 := Tryz.func181.trans (congrArg some (by kernel_rfl))
 f49 := ⟨Tryz.f188.name, by decide, Tryz.func188.trans (congrArg some (by kernel_rfl))⟩
 f50 := ⟨Tryz.f189.name, by decide, Tryz.func189.trans (congrArg some (by kernel_rfl))⟩
 f57 := ⟨Tryz.f195.name, by decide, Tryz.func195.trans (congrArg some (by kernel_rfl))⟩
 t0 := Tryz.underlying0
 a0 := Tryz.isAgg0
 z0 := Tryz.sizeOf0
 v0 := Tryz.zeroValue0
 t3 := Tryz.underlying3
 a3 := Tryz.isAgg3
 z3 := Tryz.sizeOf3
 v3 := Tryz.zeroValue3
 t4 := Tryz.underlying4
 a4 := Tryz.isAgg4
 z4 := Tryz.sizeOf4
 v4 := Tryz.zeroValue4
 t5 := Tryz.underlying5
 a5 := Tryz.isAgg5
 z5 := Tryz.sizeOf5
 v5 := Tryz.zeroValue5
 t9 := Tryz.underlying9
 a9 := Tryz.isAgg9
 z9 := Tryz.sizeOf9
 v9 := Tryz.zeroValue9
 t22 := Tryz.underlying22
 a22 := Tryz.isAgg22
 z22 := Tryz.sizeOf22
 v22 := Tryz.zeroValue22
 t25 := Tryz.underlying128
 a25 := Tryz.isAgg128
 z25 := Tryz.sizeOf128
 v25 := Tryz.zeroValue128
 t39 := Tryz.underlying139
 a39 := Tryz.isAgg139
 z39 := Tryz.sizeOf139
 v39 := Tryz.zeroValue139
 t45 := Tryz.underlying159
 a45 := Tryz.isAgg159
 z45 := Tryz.sizeOf159
 v45 := Tryz.zeroValue159
 t46 := Tryz.underlying160
 a46 := Tryz.isAgg160
 z46 := Tryz.sizeOf160
 v46 := Tryz.zeroValue160
 t50 := Tryz.underlying146
 a50 := Tryz.isAgg146
 z50 := Tryz.sizeOf146
 v50 := Tryz.zeroValue146
 t53 := Tryz.underlying166
 a53 := Tryz.isAgg166
 z53 := Tryz.sizeOf166
 v53 := Tryz.zeroValue166
 t55 := Tryz.underlying168
 a55 := Tryz.isAgg168
 z55 := Tryz.sizeOf168
 v55 := Tryz.zeroValue168
 t66 := Tryz.underlying181
 a66 := Tryz.isAgg181
 z66 := Tryz.sizeOf181
 v66 := Tryz.zeroValue181
 t70 := Tryz.underlying185
 a70 := Tryz.isAgg185
 z70 := Tryz.sizeOf185
 v70 := Tryz.zeroValue185
 t76 := Tryz.underlying196
 a76 := Tryz.isAgg196
 z76 := Tryz.sizeOf196
 v76 := Tryz.zeroValue196
 t77 := Tryz.underlying197
 a77 := Tryz.isAgg197
 z77 := Tryz.sizeOf197
 v77 := Tryz.zeroValue197 }
end Go.Proofs.YtfaccliekejngaaGreat
end
section
namespace Go.Proofs.YtfaccliekejngaaGreat
open Go.Sort
set_option maxRecDepth 100000
set_option maxHeartbeats 4000000
instance : Inhabited Hd := ⟨qjO.d⟩
def cfH (x y : Hd) : Int := cmpD x.1 y.1
theorem qMF : SWO (ltOf cfH) := ⟨fun x => ZlS.irrefl x.1, fun x y z => ZlS.trans x.1 y.1 z.1, fun x y z => ZlS.ntrans x.1 y.1 z.1⟩
theorem K2f (x : Hd) : ∀ v ∈ qjO.enc x, v.oneCell' = true := fun v hv => by
 obtain ⟨a, ha, rfl⟩ := List.mem_map.1 (show v ∈ (qjO.f x).map AV.val from hv)
 rw [YA0] at ha
 rcases List.mem_cons.1 ha with rfl | ha
 ·rfl
 ·rcases List.mem_cons.1 ha with rfl | ha
  ·rfl
  ·obtain ⟨b, _, rfl⟩ := List.mem_map.1 (show a ∈ x.2.l.map u8A from ha)
   rfl
theorem JFt {l : List Hd} (hd : l.Pairwise fun x y => x.1 ≠ y.1) : (sortP cfH l).Pairwise KBL :=
 YXv (YRI qMF l) ((KIG qMF l).imp fun {x y} h q => h (by unfold cfH; rw [qnp]; exact q)) hd
theorem ZFZ (l : List Hd) (x : Hd) : x ∈ sortP cfH l ↔ x ∈ l := (YRI qMF l).mem_iff
theorem KRk (l : List Hd) : (sortP cfH l).length = l.length := zMn qMF l
theorem JsL {x y : Hd} (h : x.1 ≠ y.1) : KBL x y ∨ KBL y x := by
 rcases Y5F x.1 y.1 with q | q | q
 ·exact .inl q
 ·exact absurd q h
 ·exact .inr q
theorem QoS {o : List Hd} {x : Hd} (ho : o.Pairwise KBL) (hx : ∀ y ∈ o, y.1 ≠ x.1) : sortP cfH (o ++ [x]) = layG KBL o x := by
 refine qfr XEZ (JFt (List.pairwise_append.2 ⟨Ypx ho, List.pairwise_singleton _ _, fun y hy z hz => ?_⟩)) (qFA XEZ ho fun y hy => JsL (hx y hy)) fun y => ?_
 ·rw [List.mem_singleton.1 hz]
  exact hx y hy
 ·rw [ZFZ, zeS, List.mem_append, List.mem_singleton, or_comm]
open Classical in
noncomputable def getI (a : AV) : Option Dg := if e : ∃ y, a = .ag (idR.f y) then some e.choose else none
theorem ZK2 (y : Dg) : getI (.ag (idR.f y)) = some y := by
 have e : ∃ z, AV.ag (idR.f y) = .ag (idR.f z) := ⟨y, rfl⟩
 unfold getI
 rw [dif_pos e]
 have h := e.choose_spec
 rw [AV.ag.injEq] at h
 rw [← idR.inj _ _ h]
theorem Kky {β : Type} {a : AV} {f : Dg → Option β} {b : β} (e : (getI a).bind f = some b) : ∃ y, a = .ag (idR.f y) ∧ f y = some b := by
 unfold getI at e
 split at e
 ·rename_i h
  exact ⟨h.choose, h.choose_spec, e⟩
 ·cases e
noncomputable def mkO (v : List Int) (ds : Dots) (d : Int × Int) : List Int × Dots := fmO v (ds ++ [d])
noncomputable def wrE (hs : List Hd) (v : List Int) (ds : Dots) (d : Int × Int) (v' : List Int) (ds' : Dots) : Int :=
 if Kq6 hs v ds ≠ 0 then Kq6 hs v ds else if ¬ KG5 d then 3 else if KXy v' ds' ≠ 0 then KXy v' ds' else if YlY v ds d ∨ YlY v' ds' d then 19
 else if ¬ (zbr v v' ds ds').2.length ≤ 4096 then 10 else if ¬ (mkO (zbr v v' ds ds').1 (zbr v v' ds ds').2 d).2.length ≤ 4096 then 10 else 0
noncomputable def wrL (hs : List Hd) (v' : List Int) (ds' : Dots) (x : Hd) : List Hd := layG KBL (outL v' ds' hs) x
theorem YD4 {v : List Int} {ds : Dots} (h : NF v ds) (hl : ds.length ≤ 4096) (l : List Hd) : outL v ds l = outG v ds l := by
 unfold outL outG
 congr 1
 funext x
 refine decide_eq_decide.2 (not_congr ?_)
 rw [QbQ h.rg, and_iff_right (h.check hl)]
end Go.Proofs.YtfaccliekejngaaGreat
end
section
namespace Go.Proofs.YtfaccliekejngaaGreat
set_option maxRecDepth 100000
set_option maxHeartbeats 4000000
def ixaV (k sz : Nat) (agg : Bool) : AV → AV → Option AV
 | .ag l, .i _ n => if 0 ≤ n ∧ n < k then (if agg then some (.ag ((l.drop (n.toNat * sz)).take sz)) else l[n.toNat * sz]?) else none
 | _, _ => none
theorem QqN {T : Env} {fr : List AV} {h : List AB} (k sz : Nat) (agg : Bool) (x i : Opd) : opR T (.ixa k sz agg x i) fr h = (ixaV k sz agg (x.ev fr) (i.ev fr)).map (·, h) := by
 show (match x.ev fr, i.ev fr with | .ag l, .i _ n => _ | _, _ => _) = _
 unfold ixaV
 split
 ·split
  ·split <;> rfl
  ·rfl
 ·rfl
def wsA : List AV → List Nat
 | [s, _] => idOf s
 | _ => []
noncomputable def jnL (l l' : List Hd) (v v' : List Int) (ds ds' : Dots) : List Hd := sortP cfH (jnU l l' v v' ds ds')
theorem JCg {l l' : List Hd} {v v' : List Int} {ds ds' : Dots} (a : RG l v ds) (b : RG l' v' ds') : Jn l l' v v' ds ds' (jnL l l' v v' ds ds') := ⟨JFt (zm4 a b), fun x => ZFZ _ x⟩
open Classical in
noncomputable def zXx : List AV → List AB → Option (AV × List AB)
 | [.ag [l, s, t], .ag [l', s', t']], h => (getS qjO h l).bind fun hs => (getS intR h s).bind fun v => (getS dotR h t).bind fun ds => (getS qjO h l').bind fun hs' => (getS intR h s').bind fun v' => (getS dotR h t').bind fun ds' =>
   if (hs.length ≤ 10000 ∧ hs'.length ≤ 10000) ∧ t.capOk = true ∧ t'.capOk = true then
    if Kq6 hs v ds ≠ 0 then some (.tu [.ag [.ns, .ns, .ns], .i .i64 (Kq6 hs v ds)], h)
    else if Kq6 hs' v' ds' ≠ 0 then some (.tu [.ag [.ns, .ns, .ns], .i .i64 (Kq6 hs' v' ds')], h)
    else if ¬ zwL hs hs' then some (.tu [.ag [.ns, .ns, .ns], .i .i64 9], h)
    else if ¬ (zbr v v' ds ds').2.length ≤ 4096 then some (.tu [.ag [.ns, .ns, .ns], .i .i64 10], h)
    else some (.tu [.ag [rsl qjO h.length (jnL hs hs' v v' ds ds'), rsl intR (h.length + 1) (zbr v v' ds ds').1, rsl dotR (h.length + 2) (zbr v v' ds ds').2], .i .i64 0], h ++ [resB qjO true (jnL hs hs' v v' ds ds'), resB intR true (zbr v v' ds ds').1, resB dotR true (zbr v v' ds ds').2])
   else none
 | _, _ => none
end Go.Proofs.YtfaccliekejngaaGreat
end
section
namespace Go.Proofs.YtfaccliekejngaaGreat
set_option maxRecDepth 100000
set_option maxHeartbeats 4000000
noncomputable instance (l l' : List Hd) : Decidable (zwL l l') := Classical.propDecidable _
theorem YAh {l : List Hd} {i : Nat} (h : i < l.length) (z : Hd) : z ∈ l.take (i + 1) ↔ z ∈ l.take i ∨ z = l.getD i qjO.d := by
 rw [List.take_succ_eq_append_getElem h, List.mem_append, List.mem_singleton, List.getD_eq_getElem?_getD, List.getElem?_eq_getElem h]
 rfl
theorem q44 {l : List Hd} {i : Nat} (h : i < l.length) : l.getD i qjO.d ∈ l := by
 rw [List.getD_eq_getElem?_getD, List.getElem?_eq_getElem h]
 exact List.getElem_mem h
end Go.Proofs.YtfaccliekejngaaGreat
end
section
namespace Go.Proofs.YtfaccliekejngaaGreat
set_option maxRecDepth 100000
set_option maxHeartbeats 4000000
theorem qam : Spec Tryz.prog 109 XpL := by
 intro args h v h' e
 unfold XpL at e
 split at e
 ·rename_i a b c d
  cases e
  refine FnAt.c (FnAt.frz0 fun hz => ?_)
  generalize h.map AB.freeze = h at *
  refine FnAt.run (by kernel_rfl) (T := ⟨[⟨143, Xsv, fun _ => []⟩, ⟨142, T_Or, fun _ => []⟩], []⟩) ⟨⟨K2T, YOj, trivial⟩, trivial⟩ Tryz.func109 Yoc fun ho hh => ?_
  unfold w109
  simp only [XH8, QN9, X1r, X5W, zVq, simprocAttr, CO.tmps, Opd.tmps, optT, Nat.reducePow, Nat.reduceDiv, Nat.reduceMod, Xsv, T_Or, QNE hh, QFK hz, K9V hz, Ksi hz]
  exact Bt.dropI _ hh (by simp only [orI, cmpD]; by_cases h1 : cmpI a c = 0 <;> by_cases h2 : cmpI b d = 0 <;> simp [h1, h2])
 ·cases e
def KVs (v : List Int) (ds : Dots) (l : Dots) (i : Nat) : Prop := ∀ k, k < i → (0 < k → ZwT (l.getD (k - 1) dotR.d) (l.getD k dotR.d)) ∧ (KXy v ds = 0 ∧ YlY v ds (l.getD k dotR.d))
noncomputable instance (v : List Int) (ds : Dots) (l : Dots) (i : Nat) : Decidable (KVs v ds l i) := Classical.propDecidable _
theorem qHh (l : List Hd) (k : Nat) : (l.map (·.1)).getD k dotR.d = (l.getD k qjO.d).1 := by
 rw [List.getD_eq_getElem?_getD, List.getD_eq_getElem?_getD, List.getElem?_map]
 cases l[k]? <;> rfl
theorem Ygp (v : List Int) (ds : Dots) (l : List Hd) (i : Nat) : KVs v ds (l.map (·.1)) i ↔ K16 v ds l i := by
 unfold KVs K16
 simp only [qHh]
noncomputable def ZiF : List AV → List AB → Option (AV × List AB)
 | [l, .ag [s, t]], h => (getS dotR h l).bind fun ks => (getS intR h s).bind fun v => (getS dotR h t).bind fun ds => some (.b (decide (KVs v ds ks ks.length)), h)
 | _, _ => none
theorem QV2 : Spec Tryz.prog 84 ZiF := by
 intro args h v h' e
 unfold ZiF at e
 split at e
 ·rename_i l s t
  obtain ⟨ks, hl, e⟩ := YI8 e
  obtain ⟨xs, hv, e⟩ := YI8 e
  obtain ⟨ds, hd, e⟩ := YI8 e
  cases e
  refine FnAt.c (FnAt.frz0 fun hz => ?_)
  replace hl := hl.frz
  replace hv := hv.frz
  replace hd := hd.frz
  generalize h.map AB.freeze = h at *
  refine FnAt.run (by kernel_rfl) (T := ⟨[⟨109, XpL, fun _ => []⟩, ⟨70, zEW, fun _ => []⟩], []⟩) ⟨⟨qam, zUE, trivial⟩, trivial⟩ Tryz.func84 sw84 fun ho hh => ?_
  simp only [qMC, JAX, Bool.and_eq_true] at ho
  have f1 := hl.fx ho.1 (sz := 2) rfl
  have f2 := hv.fx ho.2.1.1 (sz := 1) rfl
  have f3 := hd.fx ho.2.1.2.1 (sz := 2) rfl
  unfold w84
  simp only [XH8, QN9, X1r, X5W, zVq, simprocAttr, CO.tmps, Opd.tmps, optT, Nat.reducePow, Nat.reduceDiv, Nat.reduceMod, f1, f2, f3]
  have mm : ∀ v : AV, v.ok (fun i => decide (i < h.length)) = true → ∀ c, v.ok (fun i => decide (i < h.length + c)) = true := fun v q c => AV.ok_mono (fun i q => by simp only [decide_eq_true_eq] at q ⊢; omega) v q
  have fo := fun c => And.intro (mm l ho.1 c) (And.intro (mm s ho.2.1.1 c) (mm t ho.2.1.2.1 c))
  have rn : ∀ (t : AV), t.ok (fun i => decide (i < h.length)) = true → ∀ sel, Wk (t.ren (selN h.length sel)) t := fun t ht sel => Wk.ren (fun i hi => Xdk hi) ht
  have fr := fun sel => And.intro (rn l ho.1 sel) (And.intro (rn s ho.2.1.1 sel) (rn t ho.2.1.2.1 sel))
  refine YHj (S := Nat) (fun i => ks.length - i) (fun i => [l] ++ tp 2 ++ [.p (h.length + 0) 0] ++ tp 3 ++ [l, .i .i64 ks.length, .i .i64 i] ++ tp 23) (fun _ => h ++ [.blk false true [s, t]]) (fun i => i ≤ ks.length ∧ KVs xs ds ks i) 0 ⟨Nat.zero_le _, fun k hk => absurd hk (Nat.not_lt_zero _)⟩ (Bt.wk (by simp only [X1r, zVq, simprocAttr])) fun i hi => ?_
  by_cases g1 : i < ks.length
  ·have g1' := eq_true g1
   have e1 : IntKind.i64.wrap ((i : Int) + 1) = ((i + 1 : Nat) : Int) := ZL4 (by have := hl.2; unfold maxLen at this; unfold In64; omega)
   have hstep : KVs xs ds ks (i + 1) ↔ (0 < i → ZwT (ks.getD (i - 1) dotR.d) (ks.getD i dotR.d)) ∧ (KXy xs ds = 0 ∧ YlY xs ds (ks.getD i dotR.d)) := by
    constructor
    ·intro q
     exact q i (Nat.lt_succ_self i)
    ·rintro q k hk
     rcases Nat.lt_succ_iff_lt_or_eq.1 hk with z | rfl
     ·exact hi.2 k z
     ·exact q
   have hbad : ¬ KVs xs ds ks (i + 1) → decide (KVs xs ds ks ks.length) = false := fun q => decide_eq_false fun z => q fun k hk' => z k (by omega)
   by_cases g0 : i = 0
   ·have gz : ((0 : Int) < (i : Int)) = False := eq_false (by omega)
    simp only [X1r, X5W, zVq, simprocAttr, CO.tmps, Opd.tmps, optT, Nat.reducePow, Nat.reduceDiv, Nat.reduceMod, f1, f2, f3, g1', gz, e1, XpL, zEW, KdD, QNE hh, QFK hz, K9V hz, Ksi hz]
    refine ⟨fun q => Bt.dropB _ hh (hbad fun z => q (hstep.1 z).2).symm, fun q => ?_⟩
    exact ⟨i + 1, ⟨g1, hstep.2 ⟨fun z => absurd z (by omega), Decidable.not_not.1 q⟩⟩, by dsimp only; omega, Bt.sel [0] hh (by decide) (by simp only [q9C, FrSel, BlkSel, AV.ren, renL, AV.ok, okL, Option.some.injEq, exists_eq_left', List.length_cons, List.length_nil, Nat.reduceAdd, Nat.reduceLT, reduceCtorEq, implies_true, exists_eq', fo, fr]) (by simp only [q9C, FrSel, BlkSel, AV.ren, renL, AV.ok, okL, Option.some.injEq, exists_eq_left', List.length_cons, List.length_nil, Nat.reduceAdd, Nat.reduceLT, reduceCtorEq, implies_true, exists_eq', fo, fr])⟩
   ·have gz : ((0 : Int) < (i : Int)) = True := eq_true (by omega)
    have e2 : IntKind.i64.wrap ((i : Int) - 1) = ((i - 1 : Nat) : Int) := by
     have : (i : Int) - 1 = ((i - 1 : Nat) : Int) := by omega
     rw [this]
     exact ZL4 (by have := hl.2; unfold maxLen at this; unfold In64; omega)
    have g2' : (i - 1 < ks.length) = True := eq_true (by omega)
    have nl : ∀ a b, (0 ≤ cmpD a b) → ¬ ZwT a b := fun a b q => by rw [← qnp]; omega
    have np : ∀ a b, ¬ (0 ≤ cmpD a b) → ZwT a b := fun a b q => by rw [← qnp]; omega
    simp only [X1r, X5W, zVq, simprocAttr, CO.tmps, Opd.tmps, optT, Nat.reducePow, Nat.reduceDiv, Nat.reduceMod, f1, f2, f3, g1', g2', e1, e2, gz, XpL, zEW, KdD, QNE hh, QFK hz, K9V hz, Ksi hz]
    refine ⟨fun q => Bt.dropB _ hh (hbad fun z => nl _ _ q ((hstep.1 z).1 (by omega))).symm, fun p => ⟨fun q => Bt.dropB _ hh (hbad fun z => q (hstep.1 z).2).symm, fun q => ?_⟩⟩
    exact ⟨i + 1, ⟨g1, hstep.2 ⟨fun _ => np _ _ p, Decidable.not_not.1 q⟩⟩, by dsimp only; omega, Bt.sel [0] hh (by decide) (by simp only [q9C, FrSel, BlkSel, AV.ren, renL, AV.ok, okL, Option.some.injEq, exists_eq_left', List.length_cons, List.length_nil, Nat.reduceAdd, Nat.reduceLT, reduceCtorEq, implies_true, exists_eq', fo, fr]) (by simp only [q9C, FrSel, BlkSel, AV.ren, renL, AV.ok, okL, Option.some.injEq, exists_eq_left', List.length_cons, List.length_nil, Nat.reduceAdd, Nat.reduceLT, reduceCtorEq, implies_true, exists_eq', fo, fr])⟩
  ·obtain rfl : i = ks.length := by omega
   have g1' := eq_false g1
   simp only [X1r, X5W, zVq, simprocAttr, CO.tmps, Opd.tmps, optT, Nat.reducePow, Nat.reduceDiv, Nat.reduceMod, f1, f2, f3, g1']
   exact Bt.dropB _ hh (decide_eq_true hi.2).symm
 ·cases e
noncomputable def KmK : List AV → List AB → Option (AV × List AB)
 | [l], h => (getS qjO h l).bind fun hs => if hs.length ≤ 1000000 then some (apS dotR h.length (hs.map (·.1)), h ++ [resB dotR true (hs.map (·.1))]) else none
 | _, _ => none
theorem QKd : Spec Tryz.prog 85 KmK := by
 intro args h v h' e
 unfold KmK at e
 split at e
 ·rename_i l
  obtain ⟨hs, hl, e⟩ := YI8 e
  split at e
  ·rename_i hL
   cases e
   refine FnAt.c (FnAt.run (by kernel_rfl) (T := ⟨[], []⟩) ⟨trivial, trivial⟩ Tryz.func85 sw85 fun ho hh => ?_)
   simp only [qMC, Bool.and_eq_true] at ho
   have f1 := hl.fx ho.1 (sz := 34) rfl
   have mm : ∀ v : AV, v.ok (fun i => decide (i < h.length)) = true → ∀ c, v.ok (fun i => decide (i < h.length + c)) = true := fun v q c => AV.ok_mono (fun i q => by simp only [decide_eq_true_eq] at q ⊢; omega) v q
   have fo := mm l ho.1
   have rn : ∀ (t : AV), t.ok (fun i => decide (i < h.length)) = true → ∀ sel, Wk (t.ren (selN h.length sel)) t := fun t ht sel => Wk.ren (fun i hi => Xdk hi) ht
   have fr := rn l ho.1
   unfold w85
   simp only [XH8, QN9, X1r, X5W, zVq, simprocAttr, CO.tmps, Opd.tmps, optT, Nat.reducePow, Nat.reduceDiv, Nat.reduceMod, f1]
   refine YHj (S := Nat) (fun i => hs.length - i) (fun i => tp 2 ++ [apS dotR (h.length + 0) ((hs.take i).map (·.1))] ++ tp 2 ++ [l, .i .i64 hs.length, .i .i64 i] ++ tp 10) (fun i => h ++ [resB dotR true ((hs.take i).map (·.1))]) (fun i => i ≤ hs.length) 0 (Nat.zero_le _) ?_ fun i hi => ?_
   ·show Bt _ _ _ _ _ (h ++ ([] ++ List.replicate 1 .dead))
    rw [← List.append_assoc]
    refine Bt.trans (Bt.wk ?_) (Bt.pad _ _ 1)
    rw [show apS dotR (h.length + 0) ((hs.take 0).map (·.1)) = .ns from rfl]
    simp only [X1r, zVq, simprocAttr]
   ·by_cases gi : i < hs.length
    ·have gi' := eq_true gi
     have e1 : IntKind.i64.wrap ((i : Int) + 1) = ((i + 1 : Nat) : Int) := ZL4 (by unfold In64; omega)
     have hst : (hs.take (i + 1)).map (·.1) = (hs.take i).map (·.1) ++ [(hs.getD i qjO.d).1] := by
      rw [List.take_succ_eq_append_getElem gi, List.map_append, List.getD_eq_getElem?_getD, List.getElem?_eq_getElem gi]
      rfl
     have lo : ((hs.take i).map (·.1)).length = i := by rw [List.length_map, List.length_take]; omega
     have ao : ∀ (n : Nat) (L : Dots), (apS dotR (n + 0) L).ok (fun i => decide (i < n + 1)) = true := fun n L => ZrU _ _ _ (by simp)
     generalize hx : hs.getD i qjO.d = x at *
     generalize ho2 : (hs.take i).map (·.1) = o at *
     have kd : ∀ z : Hd, (qjO.f z).take 2 = [.i .i64 z.1.1, .i .i64 z.1.2] := fun _ => rfl
     by_cases hB : o = []
     ·have z3 : (1 * 16 ≤ 140737488355328 ∧ 1 ≤ maxLen) = True := eq_true ⟨by decide, by unfold maxLen; omega⟩
      simp only [hB, ZLN, X1r, X5W, zVq, simprocAttr, CO.tmps, Opd.tmps, optT, Nat.reducePow, Nat.reduceDiv, Nat.reduceMod, f1, gi', hx, kd, XEe, zp7, ZOt, Ke3, List.length_cons, List.length_nil, e1, z3]
      refine ⟨i + 1, gi, by dsimp only; omega, ?_⟩
      simp only [hst, hB, List.nil_append, J8D, KvS, KdD]
      exact Bt.sel [3] hh (by decide) (by simp only [q9C, FrSel, BlkSel, AV.ren, renL, AV.ok, okL, Option.some.injEq, exists_eq_left', List.length_cons, List.length_nil, Nat.reduceAdd, Nat.reduceLT, reduceCtorEq, implies_true, exists_eq', fo, fr]) (by simp only [q9C, FrSel, BlkSel, AV.ren, renL, AV.ok, okL, Option.some.injEq, exists_eq_left', List.length_cons, List.length_nil, Nat.reduceAdd, Nat.reduceLT, reduceCtorEq, implies_true, exists_eq', fo, fr, ZeP])
     ·have hlB : o.length ≠ 0 := fun q => hB (List.eq_nil_of_length_eq_zero q)
      have gr : ∀ id, apS dotR id o = rsl dotR id o := fun id => J0z _ hlB
      have fa := fun L k ys hb => KDi (h := h) (p := h.length) rfl (r := dotR) (sz := 2) rfl L k o 16 1 ys hlB hb (by decide) (by omega) (by unfold maxLen; omega)
      simp only [gr, X1r, X5W, zVq, simprocAttr, CO.tmps, Opd.tmps, optT, Nat.reducePow, Nat.reduceDiv, Nat.reduceMod, f1, gi', hx, kd, XEe, zp7, ZOt, Ke3, List.length_cons, List.length_nil, e1, fa]
      refine ⟨i + 1, gi, by dsimp only; omega, ?_⟩
      simp only [hst, XlZ, zbl, KdD]
      exact Bt.sel [3] hh (by decide) (by simp only [q9C, FrSel, BlkSel, AV.ren, renL, AV.ok, okL, Option.some.injEq, exists_eq_left', List.length_cons, List.length_nil, Nat.reduceAdd, Nat.reduceLT, reduceCtorEq, implies_true, exists_eq', fo, fr]) (by simp only [q9C, FrSel, BlkSel, AV.ren, renL, AV.ok, okL, Option.some.injEq, exists_eq_left', List.length_cons, List.length_nil, Nat.reduceAdd, Nat.reduceLT, reduceCtorEq, implies_true, exists_eq', fo, fr, ZeP])
    ·obtain rfl : i = hs.length := by omega
     have gi' := eq_false gi
     simp only [List.take_length, X1r, X5W, zVq, simprocAttr, CO.tmps, Opd.tmps, optT, Nat.reducePow, Nat.reduceDiv, Nat.reduceMod, f1, gi']
     exact Bt.eq rfl rfl
  ·cases e
 ·cases e
theorem zRg : Spec Tryz.prog 31 X7Q := by
 intro args h v h' e
 unfold X7Q at e
 split at e
 ·rename_i l s t
  obtain ⟨hs, hl, e⟩ := YI8 e
  obtain ⟨xs, hv, e⟩ := YI8 e
  obtain ⟨ds, hd, e⟩ := YI8 e
  split at e
  ·rename_i hL
   cases e
   refine FnAt.c (FnAt.frz0 fun hz => ?_)
   replace hl := hl.frz
   replace hv := hv.frz
   replace hd := hd.frz
   generalize h.map AB.freeze = h at *
   refine FnAt.run (by kernel_rfl) (T := ⟨[⟨47, zZH KXy, fun _ => []⟩, ⟨85, KmK, fun _ => []⟩, ⟨84, ZiF, fun _ => []⟩], []⟩) ⟨⟨QMk, QKd, QV2, trivial⟩, trivial⟩ Tryz.func31 sw31 fun ho hh => ?_
   simp only [qMC, JAX, Bool.and_eq_true] at ho
   have f1 := hl.fx ho.1.1 (sz := 34) rfl
   have f2 := hv.fx ho.1.2.1 (sz := 1) rfl
   have f3 := hd.fx ho.1.2.2.1 (sz := 2) rfl
   have hL' := eq_true hL
   unfold w31
   by_cases c : KXy xs ds = 0
   case neg =>
    have c' := eq_false c
    have hG : Kq6 hs xs ds = KXy xs ds := by unfold Kq6; rw [if_pos c]
    rw [hG]
    simp only [XH8, QN9, X1r, X5W, zVq, simprocAttr, CO.tmps, Opd.tmps, optT, Nat.reducePow, Nat.reduceDiv, Nat.reduceMod, f1, f2, f3, zZH, c', ne_eq, not_false_eq_true, not_true_eq_false, decide_true, decide_false]
    exact Bt.dropI _ hh rfl
   have hG : Kq6 hs xs ds = if K16 xs ds hs hs.length then 0 else 2 := by
    unfold Kq6
    rw [if_neg (not_not_intro c)]
   have hM : (hs.map (·.1)).length = hs.length := List.length_map _
   have hm : (hs.length ≤ maxLen) = True := eq_true hl.2
   have hF := Ygp xs ds hs hs.length
   rw [hG]
   by_cases h0 : hs = []
   ·subst h0
    have q1 : K16 xs ds ([] : List Hd) 0 = True := eq_true fun k hk => absurd hk (Nat.not_lt_zero _)
    have q2 : KVs xs ds [] 0 = True := eq_true fun k hk => absurd hk (Nat.not_lt_zero _)
    simp only [XH8, QN9, X1r, X5W, zVq, simprocAttr, CO.tmps, Opd.tmps, optT, Nat.reducePow, Nat.reduceDiv, Nat.reduceMod, f1, f2, f3, zZH, KmK, ZiF, zlS, List.map_nil, ZLN, List.length_nil, c, hL', q1, q2, ne_eq, not_false_eq_true, not_true_eq_false, decide_true, decide_false, QNE hh, QFK hz, K9V hz, Ksi hz]
    exact Bt.dropI _ hh rfl
   ·have hlB : (hs.map (·.1)).length ≠ 0 := fun q => h0 (List.eq_nil_of_length_eq_zero (by rwa [hM] at q))
    have gr : ∀ id, apS dotR id (hs.map (·.1)) = rsl dotR id (hs.map (·.1)) := fun id => J0z _ hlB
    by_cases q : K16 xs ds hs hs.length
    ·have q' := eq_true (hF.2 q)
     rw [if_pos q]
     simp only [XH8, QN9, X1r, X5W, zVq, simprocAttr, CO.tmps, Opd.tmps, optT, Nat.reducePow, Nat.reduceDiv, Nat.reduceMod, f1, f2, f3, zZH, KmK, ZiF, gr, YaF, zw7, hM, hm, c, hL', q', ne_eq, not_false_eq_true, not_true_eq_false, decide_true, decide_false, QNE hh, QFK hz, K9V hz, Ksi hz]
     exact Bt.dropI _ hh rfl
    ·have q' := eq_false fun z => q (hF.1 z)
     rw [if_neg q]
     simp only [XH8, QN9, X1r, X5W, zVq, simprocAttr, CO.tmps, Opd.tmps, optT, Nat.reducePow, Nat.reduceDiv, Nat.reduceMod, f1, f2, f3, zZH, KmK, ZiF, gr, YaF, zw7, hM, hm, c, hL', q', ne_eq, not_false_eq_true, not_true_eq_false, decide_true, decide_false, QNE hh, QFK hz, K9V hz, Ksi hz]
     exact Bt.dropI _ hh rfl
  ·cases e
 ·cases e
noncomputable def XrY : List AV → List AB → Option (AV × List AB)
 | [a, b], h => (getS qjO h a).bind fun hs => (getS qjO h b).bind fun hs' => some (.b (decide (¬ zwL hs hs')), h)
 | _, _ => none
theorem zOv : Spec Tryz.prog 53 XrY := by
 intro args h v h' e
 unfold XrY at e
 split at e
 ·rename_i l l'
  obtain ⟨hs, hl, e⟩ := YI8 e
  obtain ⟨hs', hl', e⟩ := YI8 e
  cases e
  refine FnAt.c (FnAt.run (by kernel_rfl) (T := ⟨[], []⟩) ⟨trivial, trivial⟩ Tryz.func53 sw53 fun ho hh => ?_)
  simp only [qMC, JAX, Bool.and_eq_true] at ho
  have f1 := hl.fx ho.1 (sz := 34) rfl
  have f2 := hl'.fx ho.2.1 (sz := 34) rfl
  have mm : ∀ v : AV, v.ok (fun i => decide (i < h.length)) = true → ∀ c, v.ok (fun i => decide (i < h.length + c)) = true := fun v q c => AV.ok_mono (fun i q => by simp only [decide_eq_true_eq] at q ⊢; omega) v q
  have fo := fun c => And.intro (mm l ho.1 c) (mm l' ho.2.1 c)
  have rn : ∀ (t : AV), t.ok (fun i => decide (i < h.length)) = true → ∀ sel, Wk (t.ren (selN h.length sel)) t := fun t ht sel => Wk.ren (fun i hi => Xdk hi) ht
  have fr := fun sel => And.intro (rn l ho.1 sel) (rn l' ho.2.1 sel)
  have kd : ∀ z : Hd, (qjO.f z).take 2 = [.i .i64 z.1.1, .i .i64 z.1.2] := fun _ => rfl
  unfold w53
  simp only [XH8, QN9, X1r, X5W, zVq, simprocAttr, CO.tmps, Opd.tmps, optT, Nat.reducePow, Nat.reduceDiv, Nat.reduceMod, f1, f2]
  refine YHj (S := Nat) (fun i => hs.length - i) (fun i => tp 1 ++ [l'] ++ tp 7 ++ [l, .i .i64 hs.length, .i .i64 i] ++ tp 23) (fun _ => h ++ []) (fun i => i ≤ hs.length ∧ zwL (hs.take i) hs') 0 ⟨Nat.zero_le _, fun x hx => by simp at hx⟩ (Bt.wk (by simp only [X1r, zVq, simprocAttr])) fun i hi => ?_
  by_cases gi : i < hs.length
  ·have gi' := eq_true gi
   have e1 : IntKind.i64.wrap ((i : Int) + 1) = ((i + 1 : Nat) : Int) := ZL4 (by have := hl.2; unfold maxLen at this; unfold In64; omega)
   have hxm := q44 gi
   have htk := YAh gi
   generalize hx : hs.getD i qjO.d = x at *
   simp only [X1r, X5W, zVq, simprocAttr, CO.tmps, Opd.tmps, optT, Nat.reducePow, Nat.reduceDiv, Nat.reduceMod, f1, f2, gi', hx, XEe, zp7, ZOt, Ke3, List.length_cons, List.length_nil]
   refine YHj (S := Nat) (fun k => hs'.length - k) (fun k => tp 1 ++ [l'] ++ tp 4 ++ [.p (h.length + 0) 0] ++ tp 2 ++ [l, .i .i64 hs.length, .i .i64 i] ++ tp 3 ++ [l', .i .i64 hs'.length, .i .i64 k] ++ tp 17) (fun _ => h ++ [.blk true true (qjO.f x)]) (fun k => k ≤ hs'.length ∧ ∀ y ∈ hs'.take k, x.1 = y.1 → x.2 = y.2) 0 ⟨Nat.zero_le _, fun x hx => by simp at hx⟩ (Bt.wk (by simp only [X1r, zVq, simprocAttr])) fun k hk => ?_
   by_cases gk : k < hs'.length
   ·have gk' := eq_true gk
    have e2 : IntKind.i64.wrap ((k : Int) + 1) = ((k + 1 : Nat) : Int) := ZL4 (by have := hl'.2; unfold maxLen at this; unfold In64; omega)
    have hym := q44 gk
    have htk2 := YAh gk
    generalize hy : hs'.getD k qjO.d = y at *
    simp only [X1r, X5W, zVq, simprocAttr, CO.tmps, Opd.tmps, optT, Nat.reducePow, Nat.reduceDiv, Nat.reduceMod, f1, f2, gk', e2, hy, eqcG, QLO, Zph, kd, qfY, XEe, zp7, ZOt, Ke3, List.length_cons, List.length_nil]
    refine ⟨fun q => ⟨fun q2 => Bt.dropB _ hh (decide_eq_true (p := ¬ zwL hs hs') fun z => q2 (z x hxm y hym (Prod.ext q.1 q.2))).symm, fun q2 => ?_⟩, fun q => ?_⟩
    ·refine ⟨k + 1, ⟨gk, fun z hz ez => ?_⟩, by dsimp only; omega, Bt.sel [0] hh (by decide) (by simp only [q9C, FrSel, BlkSel, AV.ren, renL, AV.ok, okL, Option.some.injEq, exists_eq_left', List.length_cons, List.length_nil, Nat.reduceAdd, Nat.reduceLT, reduceCtorEq, implies_true, exists_eq', fo, fr]) (by simp only [q9C, FrSel, BlkSel, AV.ren, renL, AV.ok, okL, Option.some.injEq, exists_eq_left', List.length_cons, List.length_nil, Nat.reduceAdd, Nat.reduceLT, reduceCtorEq, implies_true, exists_eq', fo, fr])⟩
     rcases (htk2 z).1 hz with w | w
     ·exact hk.2 z w ez
     ·rw [w]; exact Classical.not_not.1 q2
    ·refine ⟨k + 1, ⟨gk, fun z hz ez => ?_⟩, by dsimp only; omega, Bt.sel [0] hh (by decide) (by simp only [q9C, FrSel, BlkSel, AV.ren, renL, AV.ok, okL, Option.some.injEq, exists_eq_left', List.length_cons, List.length_nil, Nat.reduceAdd, Nat.reduceLT, reduceCtorEq, implies_true, exists_eq', fo, fr]) (by simp only [q9C, FrSel, BlkSel, AV.ren, renL, AV.ok, okL, Option.some.injEq, exists_eq_left', List.length_cons, List.length_nil, Nat.reduceAdd, Nat.reduceLT, reduceCtorEq, implies_true, exists_eq', fo, fr])⟩
     rcases (htk2 z).1 hz with w | w
     ·exact hk.2 z w ez
     ·exact absurd (by rw [ez, w]; exact ⟨rfl, rfl⟩) q
   ·obtain rfl : k = hs'.length := by omega
    have gk' := eq_false gk
    have hk2 := hk.2
    rw [List.take_length] at hk2
    simp only [X1r, X5W, zVq, simprocAttr, CO.tmps, Opd.tmps, optT, Nat.reducePow, Nat.reduceDiv, Nat.reduceMod, f1, f2, gk', e1]
    refine ⟨i + 1, ⟨gi, fun z hz y hy ez => ?_⟩, by dsimp only; omega, Bt.sel [] hh (by decide) (by simp only [q9C, FrSel, BlkSel, AV.ren, renL, AV.ok, okL, Option.some.injEq, exists_eq_left', List.length_cons, List.length_nil, Nat.reduceAdd, Nat.reduceLT, reduceCtorEq, implies_true, exists_eq', fo, fr]) (by simp only [q9C, FrSel, BlkSel, AV.ren, renL, AV.ok, okL, Option.some.injEq, exists_eq_left', List.length_cons, List.length_nil, Nat.reduceAdd, Nat.reduceLT, reduceCtorEq, implies_true, exists_eq', ho.1, ho.2.1, fr])⟩
    rcases (htk z).1 hz with w | w
    ·exact hi.2 z w y hy ez
    ·rw [w] at ez ⊢
     exact hk2 y hy ez
  ·obtain rfl : i = hs.length := by omega
   have gi' := eq_false gi
   have hi2 := hi.2
   rw [List.take_length] at hi2
   simp only [X1r, X5W, zVq, simprocAttr, CO.tmps, Opd.tmps, optT, Nat.reducePow, Nat.reduceDiv, Nat.reduceMod, f1, f2, gi']
   exact Bt.dropB _ hh (decide_eq_false (not_not_intro hi2)).symm
 ·cases e
end Go.Proofs.YtfaccliekejngaaGreat
end
section
namespace Go.Proofs.YtfaccliekejngaaGreat
open Go.Extern
theorem zb6 (l : List UInt8) (i : Nat) : (⟨l.toArray⟩ : ByteArray)[i]! = l.getD i 0 := by
 by_cases h : i < l.length
 ·have h' : i < (⟨l.toArray⟩ : ByteArray).size := by simpa [ByteArray.size] using h
  rw [getElem!_pos _ i h', List.getD_eq_getElem?_getD, List.getElem?_eq_getElem h]
  rfl
 ·have h' : ¬ i < (⟨l.toArray⟩ : ByteArray).size := by simpa [ByteArray.size] using h
  rw [getElem!_neg _ i h', List.getD_eq_getElem?_getD, List.getElem?_eq_none (by omega)]
  rfl
theorem qlf (l : List UInt8) : (⟨l.toArray⟩ : ByteArray).size = l.length := by simp [ByteArray.size]
theorem Zct : ∀ (l m : List UInt8), BytealgCompare.cmp ⟨l.toArray⟩ ⟨m.toArray⟩ = cmpB l m := by
 have key : ∀ (l m : List UInt8), BytealgCompare.cmp ⟨l.toArray⟩ ⟨m.toArray⟩ = match (List.range (min l.length m.length)).find? fun i => l.getD i 0 != m.getD i 0 with
   | some i => if l.getD i 0 < m.getD i 0 then -1 else 1
   | none => if l.length < m.length then -1 else if l.length > m.length then 1 else 0 := fun l m => by
  unfold BytealgCompare.cmp
  simp only [zb6, qlf]
  rfl
 intro l
 induction l with
 | nil =>
  intro m
  rw [key]
  cases m with
  | nil => rfl
  | cons b m => simp [cmpB]
 | cons a l ih =>
  intro m
  cases m with
  | nil => rw [key]; simp [cmpB]
  | cons b m =>
   have h2 := ih m
   rw [key] at h2 ⊢
   have e : min (a :: l).length (b :: m).length = min l.length m.length + 1 := by simp only [List.length_cons]; omega
   rw [e, List.range_succ_eq_map, List.find?_cons]
   unfold cmpB
   by_cases hab : a = b
   ·subst hab
    have : ((a :: l).getD 0 0 != (a :: m).getD 0 0) = false := by simp
    rw [this, List.find?_map]
    rw [if_neg (UInt8.lt_irrefl a), if_neg (UInt8.lt_irrefl a), ← h2]
    have e2 : ((fun i => (a :: l).getD i 0 != (a :: m).getD i 0) ∘ Nat.succ) = fun i => l.getD i 0 != m.getD i 0 := by funext i; simp
    rw [e2]
    cases (List.range (min l.length m.length)).find? fun i => l.getD i 0 != m.getD i 0 with
    | none => simp
    | some i => simp
   ·have : ((a :: l).getD 0 0 != (b :: m).getD 0 0) = true := by simpa using hab
    rw [this]
    dsimp only
    by_cases h1 : a < b
    ·rw [if_pos h1]; simp [h1]
    ·rw [if_neg h1, if_pos (UInt8.lt_of_le_of_ne (UInt8.not_lt.1 h1) (Ne.symm hab))]
     simp [h1]
theorem J8Q : ∀ l : List UInt8, bytesOf (l.map u8A) = some l
 | [] => rfl
 | a :: l => by
  show (bytesOf (l.map u8A)).map (UInt8.ofNat ((a.toNat : Int)).toNat :: ·) = _
  rw [J8Q l, Int.toNat_natCast, UInt8.ofNat_toNat]
  rfl
end Go.Proofs.YtfaccliekejngaaGreat
end
section
namespace Go.Proofs.YtfaccliekejngaaGreat
open Go.Shelf
def JUX : Go.Shelf.Ren := ⟨fun | 6 => 79 | 15 => 125 | 14 => 124 | 28 => 155 | 29 => 156 | 20 => 147 | 21 => 148 | 22 => 149 | 23 => 150 | 24 => 151 | 25 => 152 | 26 => 153 | 27 => 154 | 46 => 179 | 47 => 180 | 48 => 181 | 49 => 182 | 50 => 183 | 57 => 193 | n => n, fun | 22 => 53 | 24 => 50 | 25 => 102 | 3 => 3 | 39 => 139 | 0 => 0 | 53 => 166 | 55 => 168 | 4 => 4 | 46 => 160 | 45 => 159 | 50 => 146 | 5 => 5 | 9 => 9 | 66 => 181 | 70 => 185 | 76 => 196 | 77 => 197 | n => n, fun | n => n⟩
theorem zhZ : Go.Proofs.SlLaysF0.n6 Tryz.prog JUX := {
 mixed := by kernel_rfl
 f6 := ⟨Tryz.f79.name, by decide, Tryz.func79.trans (congrArg some (by kernel_rfl))⟩
 f14 := ⟨Tryz.f124.name, by decide, Tryz.func124.trans (congrArg some (by kernel_rfl))⟩
 f15 := Tryz.func125.trans (congrArg some (by kernel_rfl))
 f20 := ⟨Tryz.f147.name, by decide, Tryz.func147.trans (congrArg some (by kernel_rfl))⟩
 f21 := ⟨Tryz.f148.name, by decide, Tryz.func148.trans (congrArg some (by kernel_rfl))⟩
 f22 := ⟨Tryz.f149.name, by decide, Tryz.func149.trans (congrArg some (by kernel_rfl))⟩
 f23 := ⟨Tryz.f150.name, by decide, Tryz.func150.trans (congrArg some (by kernel_rfl))⟩
 f24 := ⟨Tryz.f151.name, by decide, Tryz.func151.trans (congrArg some (by kernel_rfl))⟩
 f25 := ⟨Tryz.f152.name, by decide, Tryz.func152.trans (congrArg some (by kernel_rfl))⟩
 f26 := ⟨Tryz.f153.name, by decide, Tryz.func153.trans (congrArg some (by kernel_rfl))⟩
 f27 := ⟨Tryz.f154.name, by decide, Tryz.func154.trans (congrArg some (by kernel_rfl))⟩
 f28 := Tryz.func155.trans (congrArg some (by kernel_rfl))
 f29 := Tryz.func156.trans (congrArg some (by kernel_rfl))
 f46 := ⟨Tryz.f179.name, by decide, Tryz.func179.trans (congrArg some (by kernel_rfl))⟩
 f47 := Tryz.func180.trans (congrArg some (by kernel_rfl))
 f48 := Tryz.func181.trans (congrArg some (by kernel_rfl))
 f49 := ⟨Tryz.f182.name, by decide, Tryz.func182.trans (congrArg some (by kernel_rfl))⟩
 f50 := ⟨Tryz.f183.name, by decide, Tryz.func183.trans (congrArg some (by kernel_rfl))⟩
 f57 := ⟨Tryz.f193.name, by decide, Tryz.func193.trans (congrArg some (by kernel_rfl))⟩
 t0 := Tryz.underlying0
 a0 := Tryz.isAgg0
 z0 := Tryz.sizeOf0
 v0 := Tryz.zeroValue0
 t3 := Tryz.underlying3
 a3 := Tryz.isAgg3
 z3 := Tryz.sizeOf3
 v3 := Tryz.zeroValue3
 t4 := Tryz.underlying4
 a4 := Tryz.isAgg4
 z4 := Tryz.sizeOf4
 v4 := Tryz.zeroValue4
 t5 := Tryz.underlying5
 a5 := Tryz.isAgg5
 z5 := Tryz.sizeOf5
 v5 := Tryz.zeroValue5
 t9 := Tryz.underlying9
 a9 := Tryz.isAgg9
 z9 := Tryz.sizeOf9
 v9 := Tryz.zeroValue9
 t22 := Tryz.underlying53
 a22 := Tryz.isAgg53
 z22 := Tryz.sizeOf53
 v22 := Tryz.zeroValue53
 t25 := Tryz.underlying102
 a25 := Tryz.isAgg102
 z25 := Tryz.sizeOf102
 v25 := Tryz.zeroValue102
 t39 := Tryz.underlying139
 a39 := Tryz.isAgg139
 z39 := Tryz.sizeOf139
 v39 := Tryz.zeroValue139
 t45 := Tryz.underlying159
 a45 := Tryz.isAgg159
 z45 := Tryz.sizeOf159
 v45 := Tryz.zeroValue159
 t46 := Tryz.underlying160
 a46 := Tryz.isAgg160
 z46 := Tryz.sizeOf160
 v46 := Tryz.zeroValue160
 t50 := Tryz.underlying146
 a50 := Tryz.isAgg146
 z50 := Tryz.sizeOf146
 v50 := Tryz.zeroValue146
 t53 := Tryz.underlying166
 a53 := Tryz.isAgg166
 z53 := Tryz.sizeOf166
 v53 := Tryz.zeroValue166
 t55 := Tryz.underlying168
 a55 := Tryz.isAgg168
 z55 := Tryz.sizeOf168
 v55 := Tryz.zeroValue168
 t66 := Tryz.underlying181
 a66 := Tryz.isAgg181
 z66 := Tryz.sizeOf181
 v66 := Tryz.zeroValue181
 t70 := Tryz.underlying185
 a70 := Tryz.isAgg185
 z70 := Tryz.sizeOf185
 v70 := Tryz.zeroValue185
 t76 := Tryz.underlying196
 a76 := Tryz.isAgg196
 z76 := Tryz.sizeOf196
 v76 := Tryz.zeroValue196
 t77 := Tryz.underlying197
 a77 := Tryz.isAgg197
 z77 := Tryz.sizeOf197
 v77 := Tryz.zeroValue197 }
end Go.Proofs.YtfaccliekejngaaGreat
end
section
namespace Go.Proofs.YtfaccliekejngaaGreat
open Go.Sort
set_option maxRecDepth 100000
set_option maxHeartbeats 4000000
theorem XMs (x : Dg) : bytesOf (idR.f x) = some x.l := J8Q x.l
noncomputable def YZ4 : List AV → List AB → Option (AV × List AB)
 | [a, b], h => (srcV h 1 a).bind fun (_, xs) => (srcV h 1 b).bind fun (_, ys) => (bytesOf xs).bind fun l => (bytesOf ys).bind fun m => some (.i .i64 (cmpB l m), h)
 | _, _ => none
theorem ZZo {T : Env} {fr : List AV} {h : List AB} (x y : Opd) : opR T (.bcmp x y) fr h = YZ4 [x.ev fr, y.ev fr] h := by
 show ((srcV h 1 (x.ev fr)).bind fun (_, xs) => (srcV h 1 (y.ev fr)).bind fun (_, ys) => (bytesOf xs).bind fun l => (bytesOf ys).map fun m => (AV.i .i64 (Go.Extern.BytealgCompare.cmp ⟨l.toArray⟩ ⟨m.toArray⟩), h)) = _
 simp only [YZ4, Zct]
 congr 1; funext p; congr 1; funext q; congr 1; funext l
 cases bytesOf q.2 <;> rfl
theorem qwi : Spec Tryz.prog 126 YZ4 := by
 intro args h v h' e
 have e0 := e
 unfold YZ4 at e
 split at e
 ·rename_i a b
  obtain ⟨⟨_, xs⟩, h1, e⟩ := Option.bind_eq_some_iff.1 e
  obtain ⟨⟨_, ys⟩, h2, e⟩ := Option.bind_eq_some_iff.1 e
  obtain ⟨l, h3, e⟩ := Option.bind_eq_some_iff.1 e
  obtain ⟨m, h4, e⟩ := Option.bind_eq_some_iff.1 e
  cases e
  refine FnAt.c (FnAt.run (by kernel_rfl) (T := ⟨[], []⟩) ⟨trivial, trivial⟩ Tryz.func126 J0O fun ho hh => ?_)
  have e1 : YZ4 [a, b] (h ++ []) = some (.i .i64 (cmpB l m), h) := by rw [List.append_nil]; exact e0
  unfold w126
  simp only [XH8, QN9, X1r, zVq, simprocAttr, ZZo, e1]
  exact Bt.eq rfl rfl
 ·cases e
theorem Xb1 {T : Env} {fr : List AV} {h : List AB} (n sz : Nat) (x : Opd) (lo hi mx : Option Opd) : opR T (.sla n sz x lo hi mx) fr h = (slA n sz (x.ev fr) (lo.map (Opd.ev fr)) (hi.map (Opd.ev fr)) (mx.map (Opd.ev fr))).map (·, h) := _root_.id rfl
theorem YEk (id off : Nat) : slA 32 1 (.p id off) none none none = some (.sl id off 32 32 none) := by simp [slA, bnd]
noncomputable def KNS : List AV → List AB → Option (AV × List AB)
 | [a, b], h => (getI a).bind fun x => (getI b).bind fun y => some (.i .i64 (cmpG x y), h)
 | _, _ => none
theorem XQh : Spec Tryz.prog 80 KNS := by
 intro args h v h' e
 unfold KNS at e
 split at e
 ·rename_i a b
  obtain ⟨x, hx, e2⟩ := Kky e
  obtain ⟨y, hy, e3⟩ := Kky e2
  clear e e2
  subst hx hy
  cases e3
  refine FnAt.c (FnAt.frz0 fun hz => ?_)
  generalize h.map AB.freeze = h at *
  refine FnAt.run (by kernel_rfl) (T := ⟨[⟨126, YZ4, fun _ => []⟩], []⟩) ⟨⟨qwi, trivial⟩, trivial⟩ Tryz.func80 sw80 fun ho hh => ?_
  unfold w80
  simp only [XH8, QN9, X1r, X5W, zVq, simprocAttr, CO.tmps, Opd.tmps, optT, Nat.reducePow, Nat.reduceDiv, Nat.reduceMod, Xb1, YEk, Option.map_none, YZ4, XMs, Ydx, XwU, Kb6, Ke3, QNE hh, QFK hz, K9V hz, Ksi hz]
  exact Bt.dropI _ hh rfl
 ·cases e
instance : Inhabited Dg := ⟨KFp⟩
theorem XSX : SWO (ltOf cmpG) := ⟨fun x => by
  unfold ltOf
  rw [decide_eq_false_iff_not]
  exact J4F.irr x, fun x y z h1 h2 => by
  unfold ltOf at *
  rw [decide_eq_true_eq] at *
  exact J4F.tr h1 h2, fun x y z h1 h2 => by
  unfold ltOf at *
  rw [decide_eq_false_iff_not] at *
  intro h3
  rcases qox x y with q | q | q
  ·exact h1 q
  ·subst q; exact h2 h3
  ·exact h2 (J4F.tr q h3)⟩
theorem Xco : Cmps Tryz.prog 80 idR cmpG := fun x y h => XQh _ _ _ _ (by simp only [KNS, ZK2, Option.bind_some])
theorem Jk7 (x : Dg) : ∀ v ∈ idR.enc x, v.oneCell' = true := fun v hv => by
 obtain ⟨a, ha, rfl⟩ := List.mem_map.1 (show v ∈ (idR.f x).map AV.val from hv)
 obtain ⟨b, _, rfl⟩ := List.mem_map.1 (show a ∈ x.l.map u8A from ha)
 rfl
open Classical in
noncomputable def ZUk : List AV → List AB → Option (AV × List AB)
 | [s, .f (.func 80) [] []], h => (getS idR h s).bind fun l => match idOf s with
   | [id] => if l.length ≤ 1000000 ∧ s = rsl idR id l ∧ h[id]? = some (resB idR true l) then some (.tu [], h.set id (resB idR true (sortP cmpG l))) else none
   | _ => none
 | _, _ => none
theorem zJ5 : Spec Tryz.prog 79 ZUk := by
 intro args h v h' e
 unfold ZUk at e
 split at e
 ·rename_i s
  obtain ⟨l, hs, e⟩ := YI8 e
  split at e
  ·rename_i id hid
   split at e
   ·rename_i hc
    cases e
    obtain ⟨h1, rfl, h3⟩ := hc
    exact JCS (r := idR) zhZ Tryz.isAgg50 Tryz.sizeOf50 XSX Xco XQU Jk7 l h3 h1
   ·cases e
  ·cases e
 ·cases e
theorem Yht {l : List Dg} (h : l.length < 2) : cpI l = l := by
 unfold cpI
 match l, h with
 | [], _ => rfl
 | [a], _ => rfl
noncomputable def dgsL (hs : List Hd) : List Dg := cpI (sortP cmpG (hs.map (·.2)))
theorem qPx (hs : List Hd) : (dgsL hs).length ≤ hs.length := by
 have := Y2Q (Eq (α := Dg)) (sortP cmpG (hs.map (·.2)))
 rw [zMn XSX, List.length_map] at this
 exact this
noncomputable def QrX : List AV → List AB → Option (AV × List AB)
 | [.ag [l, s, t]], h => (getS qjO h l).bind fun hs => (getS intR h s).bind fun v => (getS dotR h t).bind fun ds => if hs.length ≤ 100000 then
   if Kq6 hs v ds = 0 then some (rsl idR h.length (dgsL hs), h ++ [resB idR true (dgsL hs)]) else some (.ns, h)
   else none
 | _, _ => none
end Go.Proofs.YtfaccliekejngaaGreat
end
