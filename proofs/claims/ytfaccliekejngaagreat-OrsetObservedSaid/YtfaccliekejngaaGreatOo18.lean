/- Part 18 of what the laws' proofs rest on. No condition. -/
import Derived.Shelf.SlSortCmp.NoneTotal
import Derived.Test.YtfaccliekejngaaGreatOo17
set_option linter.all false
section
namespace Go.Proofs.YtfaccliekejngaaGreat
open Go.Shelf
def XUH : Go.Shelf.Ren := ⟨fun | 6 => 118 | 15 => 125 | 14 => 146 | 28 => 155 | 29 => 156 | 20 => 171 | 21 => 172 | 22 => 173 | 23 => 174 | 24 => 175 | 25 => 176 | 26 => 177 | 27 => 178 | 46 => 190 | 47 => 180 | 48 => 181 | 49 => 191 | 50 => 192 | 57 => 196 | n => n, fun | 22 => 24 | 24 => 48 | 25 => 127 | 3 => 3 | 39 => 139 | 0 => 0 | 53 => 166 | 55 => 168 | 4 => 4 | 46 => 160 | 45 => 159 | 50 => 146 | 5 => 5 | 9 => 9 | 66 => 181 | 70 => 185 | 76 => 196 | 77 => 197 | n => n, fun | n => n⟩
theorem q0m : Go.Proofs.SlLaysF0.n6 Tryz.prog XUH := {
 mixed := by kernel_rfl
 f6 := ⟨Tryz.f118.name, by decide, Tryz.func118.trans (congrArg some (by kernel_rfl))⟩
 f14 := ⟨Tryz.f146.name, by decide, Tryz.func146.trans (congrArg some (by kernel_rfl))⟩
 f15 := Tryz.func125.trans (congrArg some (by kernel_rfl))
 f20 := ⟨Tryz.f171.name, by decide, Tryz.func171.trans (congrArg some (by kernel_rfl))⟩
 f21 := ⟨Tryz.f172.name, by decide, Tryz.func172.trans (congrArg some (by kernel_rfl))⟩
 f22 := ⟨Tryz.f173.name, by decide, Tryz.func173.trans (congrArg some (by kernel_rfl))⟩
 f23 := ⟨Tryz.f174.name, by decide, Tryz.func174.trans (congrArg some (by kernel_rfl))⟩
 f24 := ⟨Tryz.f175.name, by decide, Tryz.func175.trans (congrArg some (by kernel_rfl))⟩
 f25 := ⟨Tryz.f176.name, by decide, Tryz.func176.trans (congrArg some (by kernel_rfl))⟩
 f26 := ⟨Tryz.f177.name, by decide, Tryz.func177.trans (congrArg some (by kernel_rfl))⟩
 f27 := ⟨Tryz.f178.name, by decide, Tryz.func178.trans (congrArg some (by kernel_rfl))⟩
 f28 := Tryz.func155.trans (congrArg some (by kernel_rfl))
 f29 := Tryz.func156.trans (congrArg some (by kernel_rfl))
 f46 := ⟨Tryz.f190.name, by decide, Tryz.func190.trans (congrArg some (by kernel_rfl))⟩
 f47 := Tryz.func180.trans (congrArg some (by kernel_rfl))
 f48 := Tryz.func181.trans (congrArg some (by kernel_rfl))
 f49 := ⟨Tryz.f191.name, by decide, Tryz.func191.trans (congrArg some (by kernel_rfl))⟩
 f50 := ⟨Tryz.f192.name, by decide, Tryz.func192.trans (congrArg some (by kernel_rfl))⟩
 f57 := ⟨Tryz.f196.name, by decide, Tryz.func196.trans (congrArg some (by kernel_rfl))⟩
 t0 := Tryz.underlying0
 a0 := Tryz.isAgg0
 z0 := Tryz.sizeOf0
 v0 := Tryz.zeroValue0
 t3 := Tryz.underlying3
 a3 := Tryz.isAgg3
 z3 := Tryz.sizeOf3
 v3 := Tryz.zeroValue3
 t4 := Tryz.underlying4
 a4 := Tryz.isAgg4
 z4 := Tryz.sizeOf4
 v4 := Tryz.zeroValue4
 t5 := Tryz.underlying5
 a5 := Tryz.isAgg5
 z5 := Tryz.sizeOf5
 v5 := Tryz.zeroValue5
 t9 := Tryz.underlying9
 a9 := Tryz.isAgg9
 z9 := Tryz.sizeOf9
 v9 := Tryz.zeroValue9
 t22 := Tryz.underlying24
 a22 := Tryz.isAgg24
 z22 := Tryz.sizeOf24
 v22 := Tryz.zeroValue24
 t25 := Tryz.underlying127
 a25 := Tryz.isAgg127
 z25 := Tryz.sizeOf127
 v25 := Tryz.zeroValue127
 t39 := Tryz.underlying139
 a39 := Tryz.isAgg139
 z39 := Tryz.sizeOf139
 v39 := Tryz.zeroValue139
 t45 := Tryz.underlying159
 a45 := Tryz.isAgg159
 z45 := Tryz.sizeOf159
 v45 := Tryz.zeroValue159
 t46 := Tryz.underlying160
 a46 := Tryz.isAgg160
 z46 := Tryz.sizeOf160
 v46 := Tryz.zeroValue160
 t50 := Tryz.underlying146
 a50 := Tryz.isAgg146
 z50 := Tryz.sizeOf146
 v50 := Tryz.zeroValue146
 t53 := Tryz.underlying166
 a53 := Tryz.isAgg166
 z53 := Tryz.sizeOf166
 v53 := Tryz.zeroValue166
 t55 := Tryz.underlying168
 a55 := Tryz.isAgg168
 z55 := Tryz.sizeOf168
 v55 := Tryz.zeroValue168
 t66 := Tryz.underlying181
 a66 := Tryz.isAgg181
 z66 := Tryz.sizeOf181
 v66 := Tryz.zeroValue181
 t70 := Tryz.underlying185
 a70 := Tryz.isAgg185
 z70 := Tryz.sizeOf185
 v70 := Tryz.zeroValue185
 t76 := Tryz.underlying196
 a76 := Tryz.isAgg196
 z76 := Tryz.sizeOf196
 v76 := Tryz.zeroValue196
 t77 := Tryz.underlying197
 a77 := Tryz.isAgg197
 z77 := Tryz.sizeOf197
 v77 := Tryz.zeroValue197 }
end Go.Proofs.YtfaccliekejngaaGreat
end
section
namespace Go.Proofs.YtfaccliekejngaaGreat
open Go.RowKit Go.Shelf Go.Sort
variable {P : Program} {α : Type} {r : Row α}
def Cmps (P : Program) (g : Nat) (r : Row α) (cf : α → α → Int) : Prop := ∀ x y (h : List AB), FnC P g [.ag (r.f x), .ag (r.f y)] h (.i .i64 (cf x y)) h
def Row.enc (r : Row α) (x : α) : List Value := (r.f x).map AV.val
theorem Cmps.lays [Inhabited α] {g : Nat} {cf : α → α → Int} (hc : Cmps P g r cf) (hfl : ∀ x, ∀ a ∈ r.f x, a.fl = true) (blk off size : Nat) (w : World) : CmpLays P g #[] r.enc r.sz cf blk off size w := by
 intro m os dk _ x y
 generalize sortWorldK r.enc r.sz w blk off m dk os = W
 have hv : VL [] [.ag (r.f x), .ag (r.f y)] #[.agg (r.enc x).toArray, .agg (r.enc y).toArray] :=
  VL.cons (Y5G (qJ6 [] _ (hfl x))) (VL.one (Y5G (qJ6 [] _ (hfl y))))
 rw [Array.append_empty]
 refine ((hc x y []).2 [] W _ (In.nil (K := KC P) W).rel hv).mono ?_
 rintro e w' ⟨v', ρ', rfl, hva, _, heff⟩
 cases hva
 refine ⟨rfl, w'.drawn - W.drawn, w'.heap.extract W.heap.size w'.heap.size, ?_⟩
 have hkeep : ∀ b, b < W.heap.size → w'.heap[b]? = W.heap[b]? := fun b hb => heff.keep b hb fun ⟨i, B, o, h1, _⟩ => by simp at h1
 have hheap : w'.heap = W.heap ++ w'.heap.extract W.heap.size w'.heap.size := by
  apply Array.ext_getElem?
  intro b
  by_cases hb : b < W.heap.size
  ·rw [hkeep b hb, Array.getElem?_append_left hb]
  ·have := heff.size
   rw [Array.getElem?_append_right (by omega), Array.getElem?_extract]
   split
   ·congr 1; omega
   ·rw [Array.getElem?_eq_none]; omega
 have hos := heff.os
 have htape := heff.tape
 have hout := heff.output
 obtain ⟨hp, tp, dr, os', ou⟩ := w'
 simp only at hheap hos htape hout
 simp only [Go.Sort.grow, World.drewN, World.mk.injEq]
 exact ⟨hheap, htape, by omega, hos, hout.1⟩
theorem YCv [Inhabited α] (l : List α) : flatK r.enc r.sz l.toArray = ((r.cells l).map AV.val).toArray := by
 have hs : (flatK r.enc r.sz l.toArray).size = l.length * r.sz := by simp
 refine ext_get! (by rw [hs]; simp [r.cells_len]) fun t ht => ?_
 rw [hs] at ht
 have hpos := r.pos
 have hdiv : t / r.sz < l.length := (Nat.div_lt_iff_lt_mul hpos).2 ht
 have hmod : t % r.sz < r.sz := Nat.mod_lt _ hpos
 have hg := r.cells_get l (t / r.sz) (t % r.sz) hdiv hmod
 rw [Nat.mul_comm, Nat.div_add_mod] at hg
 rw [get_flatK _ _ _ _ (by simpa using ht)]
 have hlt : t % r.sz < (r.f (l.getD (t / r.sz) r.d)).length := by rw [r.len]; exact hmod
 have e1 : l.toArray[t / r.sz]! = l.getD (t / r.sz) r.d := by
  rw [getElem!_pos _ _ (by simpa using hdiv), List.getD_eq_getElem?_getD, List.getElem?_eq_getElem hdiv]
  simp
 rw [e1]
 have htl : t < (r.cells l).length := by rw [r.cells_len]; exact ht
 rw [List.getElem?_eq_getElem htl, List.getElem?_eq_getElem hlt] at hg
 simp only [Option.some.injEq] at hg
 rw [getElem!_pos _ _ (by simpa [Row.enc] using hlt), getElem!_pos _ _ (by simpa using htl)]
 simp only [Row.enc, List.getElem_map, List.getElem_toArray, hg]
theorem Rel.grown {K : Code → CC → Prop} {ρ : Mp} {h : List AB} {w : World} (i : Rel K ρ h w) (os : Array Obj) : Rel K ρ h (Go.Sort.grow w os) ∧ Eff ρ h w ρ h (Go.Sort.grow w os) := by
 have hk : ∀ b, b < w.heap.size → (Go.Sort.grow w os).heap[b]? = w.heap[b]? := fun b hb => by
  simp only [Go.Sort.grow]
  rw [Array.getElem?_append_left hb]
 refine ⟨⟨i.len, fun j B b o n h1 h2 => (i.blk j B b o n h1 h2).same (Ext.refl _) fun hl => hk b ((i.blk j B b o n h1 h2).lt hl), i.sep⟩, rfl, rfl, ⟨rfl, Nat.le_refl _⟩, by simp [Go.Sort.grow], fun b hb _ => hk b hb, fun _ q => .inl q, fun _ _ q => .inl q⟩
theorem Kjv {ρ : Mp} {id off len cap : Nat} {k : Option Nat} {v : Value} (e : VR ρ (.sl id off len cap k) v) (h : len ≠ 0) :
  ∃ b o n cap', ρ[id]? = some (b, o, n) ∧ v = .slice (some ⟨b, o + off, none⟩) len cap' ∧ len ≤ cap ∧ cap ≤ cap' ∧ cap' ≤ maxLen ∧ (∀ z, k = some z → z ≠ 0 → o + off + cap' * z ≤ n) := by
 cases e with
 | sl id off len cap k b o n cap' hρ h1 h2 h3 h4 h5 => exact ⟨b, o, n, cap', hρ, rfl, h1, h2, h3, h5⟩
 | sz id off a c hc hn => exact absurd rfl h
theorem QRT {ρ : Mp} {id off len cap : Nat} {k : Option Nat} {v : Value} (e : VR ρ (.sl id off len cap k) v) (h : len = 0) : ∃ a c, v = .slice a 0 c := by
 cases e with
 | sl id off len cap k b o n cap' hρ h1 h2 h3 h4 h5 => subst h; exact ⟨_, _, rfl⟩
 | sz id off a c hc hn => exact ⟨_, _, rfl⟩
theorem qlx {ρ : Mp} {g : Nat} {v : Value} (e : VR ρ (.f (.func g) [] []) v) : v = .func (.func g) #[] #[] := by
 cases e with
 | f fn fst cap fst' cap' h0 h1 _ _ =>
  have e1 : fst' = #[] := Array.eq_empty_of_size_eq_zero h0.symm
  have e2 : cap' = #[] := Array.eq_empty_of_size_eq_zero h1.symm
  rw [e1, e2]
theorem K7E {ρ : Mp} {a b : AV} {vals : Array Value} (h : VL ρ [a, b] vals) : ∃ x y, vals = #[x, y] ∧ VR ρ a x ∧ VR ρ b y := by
 obtain ⟨hs, hv⟩ := h
 obtain ⟨l⟩ := vals
 match l, hs with
 | [x, y], _ => exact ⟨x, y, rfl, hv 0 a x rfl rfl, hv 1 b y rfl rfl⟩
theorem JSk (h : List AB) (i : Nat) (B : AB) (e : h[i]? = some B) : h.set i B = h := by
 apply List.ext_getElem?
 intro j
 rw [List.getElem?_set]
 split
 ·rename_i hij
  subst hij
  split
  ·exact e.symm
  ·rename_i hlt
   exact absurd (List.getElem?_eq_some_iff.1 e).1 hlt
 ·rfl
theorem qVL [Inhabited α] {N : Ren} (L : SlLaysF0.n6 P N) (aE : ∀ w, (isAgg (N.t 24)).run P w = .ok true w) (zE : ∀ w, (Go.sizeOf (N.t 24)).run P w = .ok r.sz w) {cf : α → α → Int} (hO : SWO (ltOf cf))
  (hT : ∀ x y, (ltOf cf) x y = false → (ltOf cf) y x = false → x = y) {g : Nat} (hc : Cmps P g r cf) (hfl : ∀ x, ∀ a ∈ r.f x, a.fl = true) (h1 : ∀ x, ∀ v ∈ r.enc x, v.oneCell' = true)
  {h : List AB} {id : Nat} (l : List α) (hb : h[id]? = some (resB r true l)) (hl : l.length ≤ 1000000) :
  FnC P (N.f 6) [rsl r id l, .f (.func g) [] []] h (.tu []) (h.set id (resB r true (l.mergeSort fun x y => !(ltOf cf) y x))) := by
 obtain ⟨nm, hnm, hf⟩ := L.f6
 refine ⟨⟨_, _, hf, by simpa using hnm, rfl⟩, fun ρ w vals hr hv => ?_⟩
 obtain ⟨v, f, rfl, hv1, hv2⟩ := K7E hv
 have := qlx hv2
 subst this
 by_cases h0 : l.length = 0
 ·have : l = [] := List.eq_nil_of_length_eq_zero h0
  subst this
  simp only [rsl, List.length_nil, if_true] at hv1
  obtain ⟨a, c, rfl⟩ := QRT hv1 rfl
  refine (AnyF.slices_SortFunc_none L a c _ w).mono ?_
  rintro e w' ⟨rfl, rfl⟩
  rw [List.mergeSort_nil, JSk h id _ hb]
  exact ⟨_, ρ, rfl, .tu [] #[] rfl fun j a c q => by simp at q, hr, EffP.refl _ _ _ _⟩
 ·simp only [rsl, if_neg h0] at hv1
  obtain ⟨b, o, n, cap', hρ, rfl, _, hlc, hcm, hcap⟩ := Kjv hv1 h0
  have hB := hr.blk id _ b o n hb hρ
  simp only [resB, if_neg h0, BR] at hB
  obtain ⟨cs, e, fz, hheap, hm, hlen, hcells⟩ := hB
  obtain ⟨rfl, hn⟩ := hm trivial
  have hblk : b < w.heap.size := (Array.getElem?_eq_some_iff.1 hheap).1
  have hall : ∀ a ∈ r.cells l, a.fl = true := fun a ha => by
   obtain ⟨x, _, hx⟩ := List.mem_flatMap.1 ha
   exact hfl x a hx
  have hH : HoldsK r.enc r.sz w b o l.toArray := by
   unfold HoldsK
   rw [YCv]
   intro j hj
   have hj' : j < (r.cells l).length := by simpa using hj
   have hoj : o + j < cs.size := by omega
   refine ⟨?_, ?_⟩
   ·unfold World.cell?
    simp only [hheap]
    have hv := hcells j _ _ (List.getElem?_eq_getElem hj') (Array.getElem?_eq_getElem hoj)
    rw [getElem!_pos (((r.cells l).map AV.val).toArray) j hj]
    simp only [Option.isSome_none, Bool.false_eq_true, if_false, Array.getElem?_eq_getElem hoj, Option.some.injEq, List.getElem_toArray, List.getElem_map, id_eq]
    exact Xjg (hall _ (List.getElem_mem hj')) hv
   ·unfold World.frozen?
    simp only [hheap]
    simp
  obtain ⟨⟨gf, gb, hg1, hg2, hg3⟩, _⟩ := hc r.d r.d []
  have eg : ∀ args w, (callFunc g args).run P w = .ok (.enter g args) w := fun args w => by simp [callFunc, hg1, hg2, hg3]
  have hC := AnyQ.slices_SortFunc_total L r.sz aE zE r.enc (fun x => by simp [Row.enc, r.len]) h1 cf hO g #[] b o cap' l.toArray w eg (hc.lays hfl b o l.toArray.size w) hH hblk (by simp; omega) hT
  refine Calls.mono (show Calls P (N.f 6) #[.slice (some ⟨b, o + 0, none⟩) l.length cap', .func (.func g) #[] #[]] w _ from hC) ?_
  rintro e w' ⟨rfl, n', os, rfl⟩
  rw [List.toList_toArray]
  generalize hl' : (l.mergeSort fun x y => !(ltOf cf) y x) = l'
  have hll : l'.length = l.length := by rw [← hl', List.length_mergeSort]
  have h0' : ¬ l'.length = 0 := by omega
  have hall' : ∀ a ∈ r.cells l', a.fl = true := fun a ha => by
   obtain ⟨x, _, hx⟩ := List.mem_flatMap.1 ha
   exact hfl x a hx
  have hcl : (r.cells l').length = (r.cells l).length := by rw [r.cells_len, r.cells_len, hll]
  have hW : sortWorldK r.enc r.sz w b o n' l'.toArray os = Go.Sort.grow (mapBlock (Go.Sort.ahead w n') b (putCells _root_.id o ((r.cells l').map AV.val).toArray)) os := by
   unfold sortWorldK putRowK putRow
   rw [YCv]
  rw [hW]
  have hput := hr.put (w' := mapBlock (Go.Sort.ahead w n') b (putCells _root_.id o ((r.cells l').map AV.val).toArray)) hb (by simp [resB, h0, AB.mut]) hρ (B' := resB r true l') (by
   simp only [resB, if_neg h0', BR]
   refine ⟨putCells _root_.id o ((r.cells l').map AV.val).toArray cs, e, (0, 0), ?_, fun _ => ⟨rfl, by simp [putCells]; exact hn⟩, by simp [putCells, hcl]; exact hlen, fun k a c ha hc' => ?_⟩
   ·simp only [mapBlock, Go.Sort.ahead, Array.getElem?_modify, if_true, hheap, Option.map_some, onCells]
   ·have hk := (List.getElem?_eq_some_iff.1 ha).1
    have hok : o + k < cs.size := by omega
    have hka : a = (r.cells l')[k] := (List.getElem?_eq_some_iff.1 ha).2.symm
    simp only [putCells, Array.getElem?_mapIdx, Array.getElem?_eq_getElem hok, Option.map_some] at hc'
    rw [if_pos (by constructor <;> simp <;> omega)] at hc'
    simp only [Option.some.injEq, id_eq, Nat.add_sub_cancel_left] at hc'
    rw [getElem!_pos (((r.cells l').map AV.val).toArray) k (by simpa using hk)] at hc'
    simp only [List.getElem_toArray, List.getElem_map] at hc'
    subst hka
    rw [← hc']
    exact QSs _ (hall' _ (List.getElem_mem hk))) rfl rfl ⟨rfl, Nat.le_add_right _ _⟩ (by simp [mapBlock, Go.Sort.ahead]) (fun k hk => by
   simp only [mapBlock, Go.Sort.ahead, Array.getElem?_modify]
   rw [if_neg (fun q => hk q.symm)]) (fun _ => by simp [resB, h0, AB.live])
  have hgrow := hput.1.grown os
  exact ⟨_, ρ, rfl, .tu [] #[] rfl fun j a c q => by simp at q, hgrow.1, (hput.2.trans hgrow.2).p (Ext.refl _) (by rw [hr.len]; exact Nat.le_refl _)⟩
end Go.Proofs.YtfaccliekejngaaGreat
end
section
namespace Go.Proofs.YtfaccliekejngaaGreat
open Go.Sort
theorem ZlS : SWO (ltOf cmpD) := ⟨fun x => by
  unfold ltOf
  rw [decide_eq_false_iff_not, qnp]
  exact zng x, fun x y z h1 h2 => by
  unfold ltOf at *
  rw [decide_eq_true_eq, qnp] at *
  exact YKM h1 h2, fun x y z h1 h2 => by
  unfold ltOf at *
  rw [decide_eq_false_iff_not, qnp] at *
  intro h3
  rcases Y5F x y with q | q | q
  ·exact h1 q
  ·subst q; exact h2 h3
  ·exact h2 (YKM q h3)⟩
theorem XHn (x y : Int × Int) (h1 : ltOf cmpD x y = false) (h2 : ltOf cmpD y x = false) : x = y := by
 unfold ltOf at *
 rw [decide_eq_false_iff_not, qnp] at *
 rcases Y5F x y with q | q | q
 ·exact absurd q h1
 ·exact q
 ·exact absurd q h2
theorem XXH : Cmps Tryz.prog 119 dotR cmpD := fun x y h => qNy _ _ _ _ (by rw [KdD, KdD]; rfl)
theorem YYp (x : Int × Int) : ∀ v ∈ dotR.enc x, v.oneCell' = true := fun v hv => by
 simp only [Row.enc, KdD, List.map_cons, List.map_nil, AV.val, List.mem_cons, List.not_mem_nil, or_false] at hv
 rcases hv with rfl | rfl <;> rfl
theorem Xkg : Spec Tryz.prog 118 QG2 := by
 intro args h v h' e
 unfold QG2 at e
 split at e
 ·rename_i s
  obtain ⟨l, hs, e⟩ := YI8 e
  split at e
  ·rename_i id hid
   split at e
   ·rename_i hc
    cases e
    obtain ⟨h1, rfl, h3⟩ := hc
    exact qVL (r := dotR) q0m Tryz.isAgg48 Tryz.sizeOf48 ZlS XHn XXH JNn YYp l h3 h1
   ·cases e
  ·cases e
 ·cases e
theorem Yh0 : Spec Tryz.prog 71 Jpg := Jqi Xkg
end Go.Proofs.YtfaccliekejngaaGreat
end
section
namespace Go.Proofs.YtfaccliekejngaaGreat
set_option maxRecDepth 100000
set_option maxHeartbeats 4000000
theorem QMk : Spec Tryz.prog 47 (zZH KXy) := by
 intro args h v h' e
 unfold zZH at e
 split at e
 ·rename_i s t
  obtain ⟨vs, hs, e⟩ := YI8 e
  obtain ⟨ds, ht, e⟩ := YI8 e
  cases e
  refine FnAt.c (FnAt.run (by kernel_rfl) (T := ⟨[⟨92, Qhe, fun _ => []⟩, ⟨71, Jpg, fun _ => []⟩, ⟨93, qcq, fun _ => []⟩, ⟨94, Y5a, fun _ => []⟩], []⟩) ⟨⟨Qq7, Yh0, zVn, XSC, trivial⟩, trivial⟩ Tryz.func47 sw47 fun ho hh => ?_)
  simp only [qMC, JAX, Bool.and_eq_true] at ho
  have f1 := hs.fx ho.1.1 (sz := 1) rfl
  have f2 := ht.fx ho.1.2.1 (sz := 2) rfl
  unfold w47
  by_cases hr : J6E vs ds
  ·have gr := eq_true hr
   by_cases h1 : 4096 < ds.length
   ·have g1 : ((4096 : Int) < (ds.length : Int)) = True := eq_true (by omega)
    simp only [XH8, QN9, X1r, zVq, simprocAttr, false_implies, f1, f2, Qhe, gr, g1]
    exact Bt.dropI _ hh (by simp only [KXy, gr, not_true_eq_false, if_false]; rw [if_pos h1])
   ·have g1 : ((4096 : Int) < (ds.length : Int)) = False := eq_false (by omega)
    have g2 : (ds.length ≤ 100000) = True := eq_true (by omega)
    by_cases h6 : (fmO vs ds).2.length ≤ 4096
    ·have g6 := eq_true h6
     have g7 : ((fmO vs ds).1.length ≤ maxLen) = True := eq_true (by
      have := ZGW (fmR vs (layR ds)).1 16
      simp only [fmO, List.length_take]
      unfold maxLen
      omega)
     have g8 : ((fmO vs ds).2.length ≤ maxLen) = True := eq_true (by unfold maxLen; omega)
     simp only [XH8, QN9, X1r, zVq, simprocAttr, false_implies, f1, f2, Qhe, gr, g1, g2, g6, g7, g8, Jpg, qcq, Y5a]
     have g9 : ¬ 4096 < ds.length := h1
     have gp : (fmO vs ds = (vs, ds)) ↔ ((fmO vs ds).1 = vs ∧ (fmO vs ds).2 = ds) := Prod.ext_iff
     refine ⟨fun q => ?_, fun q => ⟨fun z => ?_, fun z => ?_⟩⟩
     ·exact Bt.dropI _ hh (by simp only [KXy, gr, not_true_eq_false, if_false, if_neg g9, if_neg (fun e => q (gp.1 e).1)])
     ·exact Bt.dropI _ hh (by simp only [KXy, gr, not_true_eq_false, if_false, if_neg g9, if_neg (fun e => z (gp.1 e).2)])
     ·exact Bt.dropI _ hh (by simp only [KXy, gr, not_true_eq_false, if_false, if_neg g9]; rw [if_pos (gp.2 ⟨Decidable.not_not.1 q, Decidable.not_not.1 z⟩)])
    ·have g6 := eq_false h6
     simp only [XH8, QN9, X1r, zVq, simprocAttr, false_implies, f1, f2, Qhe, gr, g1, g2, g6, Jpg, qcq, Y5a]
     have g9 : ¬ 4096 < ds.length := h1
     exact Bt.dropI _ hh (by simp only [KXy, gr, not_true_eq_false, if_false, if_neg g9]; rw [if_neg]; intro e; rw [e] at h6; exact h6 (Nat.le_of_not_lt h1))
  ·have gr := eq_false hr
   simp only [XH8, QN9, X1r, zVq, simprocAttr, false_implies, f1, f2, Qhe, gr]
   exact Bt.dropI _ hh (by simp only [KXy, gr, not_false_eq_true, if_true])
 ·cases e
end Go.Proofs.YtfaccliekejngaaGreat
end
section
namespace Go.Proofs.YtfaccliekejngaaGreat
set_option maxRecDepth 100000
set_option maxHeartbeats 4000000
def JZl (la lb : Dots) : Prop := la.length = 0 ∨ (0 < lb.length ∧ cmpD (lb.getD 0 dotR.d) (la.getD 0 dotR.d) < 0)
instance (la lb : Dots) : Decidable (JZl la lb) := by unfold JZl; infer_instance
def mrgD : Nat → Dots → Dots → Dots
 | 0, _, _ => []
 | n + 1, la, lb => if JZl la lb then lb.getD 0 dotR.d :: mrgD n la (lb.drop 1) else la.getD 0 dotR.d :: mrgD n (la.drop 1) lb
def jA : CC := CC.reg 6 [{ dst := some 8, guard := none, op := CO.new true [AV.i (.i64) 0, AV.i (.i64) 0] }, { dst := none, guard := none, op := CO.st (some 2) (Opd.t 8) (Opd.t 21) }]
def jB : CC := CC.block 1 (CC.reg 7 [{ dst := some 22, guard := none, op := CO.ld none (Opd.t 7) }, { dst := some 23, guard := none, op := CO.ld (some 2) (Opd.t 8) }, { dst := some 24, guard := none, op := CO.bls true 1 [AV.i (.i64) 0, AV.i (.i64) 0] [(0, 2, Opd.t 23)] }, { dst := some 25, guard := none, op := CO.app false true 2 16 (Opd.t 22) (Opd.t 24) }, { dst := none, guard := none, op := CO.st none (Opd.t 7) (Opd.t 25) }])
def jFr (p : Nat) (s t s' t' : AV) : List AV := [.ag [s, t], .ag [s', t'], .p (p + 0) 0, .p (p + 1) 0, .p (p + 2) 0, .i .i64 0, .i .i64 0, .p (p + 3) 0, .tu [], .ag [s, t], .ag [s', t'], .i .i64 0, .i .i64 0, .b false, .tu [], .tu [], .p (p + 0) 1, t, .p (p + 1) 1, t', .f (.func 137) [] [.p (p + 4) 0, .p (p + 5) 0], .tu [], .tu [], .tu [], .tu [], .tu [], .tu [], .tu [], .tu [], .tu [], .tu [], .tu [], .tu [], .tu [], .tu [], .tu [], .tu [], .tu [], .tu [], .tu []]
def jL (p : Nat) (s t s' t' acc sa sb : AV) (B : AB) : List AB := [.blk false true [s, t], .blk false true [s', t'], .blk false true [.ns, .ns], .blk false true [acc], .blk false true [sa], .blk false true [sb], .lp .ready .n (jFr p s t s' t') [21] jA jB, B]
theorem ZnZ (h : List AB) (s t s' t' sa sb : AV) (l : Dots) (a b : Int) (hl : l.length ≤ 1000000) :
  RdAt' Tryz.prog (h.length + 6) [.ag [.i .i64 a, .i .i64 b]] (h ++ jL h.length s t s' t' (apS dotR (h.length + 7) l) sa sb (resB dotR true l)) (.b true)
   (h ++ (jL h.length s t s' t' (.sl (h.length + 10) 0 (l.length + 1) (l.length + 1) (some 2)) sa sb .dead ++ [.blk true true [.i .i64 a, .i .i64 b], .blk true true [.i .i64 a, .i .i64 b], .blk true true (dotR.cells l ++ [.i .i64 a, .i .i64 b])])) := by
 have e1 := fun L hL => J7h (h := h) (r := dotR) (sz := 2) rfl L 7 l 16 1 [.i .i64 a, .i .i64 b] hL (by decide) (by omega) (by unfold maxLen; omega)
 refine RdAt'.run (by kernel_rfl) (T := ⟨[], []⟩) ⟨trivial, trivial⟩ (by rw [Yn6]; rfl) rfl ?_
 simp only [jFr, qTQ, jA, jL, X1r, zVq, simprocAttr]
 refine ⟨_, _, _, _, _, by rw [Yn6]; rfl, ?_⟩
 simp only [jB, X1r, zVq, simprocAttr, e1]
 exact ⟨_, _, _, _, _, _, by rw [Yn6]; rfl, rfl, by unfold zLe; dsimp only; rw [zpT]; rfl⟩
structure Prt (h : List AB) (s : AV) (l : Dots) : Prop where
 rd : Rd dotR h s l
 cap : s.capOk = true
 ok : s.ok (fun i => decide (i < h.length)) = true
theorem KhC {sz i : Nat} {s s' : AV} (e : slL sz s (some (.i .i64 (i : Int))) none none = some s') (hc : s.capOk = true) (hl : ∀ n, lenV s = some (n : Int) → i ≤ n) : s'.capOk = true := by
 cases s with
 | sl id off n c k =>
  have hi := hl n rfl
  simp only [AV.capOk, decide_eq_true_eq] at hc
  have hb : bnd 0 n (some (.i .i64 (i : Int))) = some i := by
   simp only [bnd]
   rw [if_pos (by omega)]
   rfl
  have hb0 : bnd n c none = some n := rfl
  simp only [slL, hb, hb0, Option.bind_some, Option.map_some, Option.some.injEq] at e
  subst e
  split
  ·simpa only [AV.capOk, decide_eq_true_eq] using hc
  ·split
   ·simp only [AV.capOk, decide_eq_true_eq]
    omega
   ·split <;> rfl
 | ns =>
  simp only [slL] at e
  obtain ⟨x, h1, e⟩ := Option.bind_eq_some_iff.1 e
  obtain ⟨y, h2, e⟩ := Option.map_eq_some_iff.1 e
  subst e
  rfl
 | se =>
  simp only [slL] at e
  obtain ⟨x, h1, e⟩ := Option.bind_eq_some_iff.1 e
  obtain ⟨y, h2, e⟩ := Option.map_eq_some_iff.1 e
  subst e
  rfl
 | _ => cases e
theorem Xu2 {h : List AB} (hh : HOk h) {s t s' t' sa sb : AV} (os : s.ok (fun i => decide (i < h.length)) = true) (ot : t.ok (fun i => decide (i < h.length)) = true) (os' : s'.ok (fun i => decide (i < h.length)) = true) (ot' : t'.ok (fun i => decide (i < h.length)) = true)
  (oa : sa.ok (fun i => decide (i < h.length)) = true) (ob : sb.ok (fun i => decide (i < h.length)) = true) (l : Dots) : HOk (h ++ jL h.length s t s' t' (apS dotR (h.length + 7) l) sa sb (resB dotR true l)) := by
 have up : ∀ {x : AV}, x.ok (fun i => decide (i < h.length)) = true → x.ok (fun i => decide (i < h.length + 8)) = true := fun {x} hx => AV.ok_mono (fun i q => by simp only [decide_eq_true_eq] at q ⊢; omega) _ hx
 have e1 := up os
 have e2 := up ot
 have e3 := up os'
 have e4 := up ot'
 have e5 := up oa
 have e6 := up ob
 have e7 : (apS dotR (h.length + 7) l).ok (fun i => decide (i < h.length + 8)) = true := ZrU _ _ _ (by simp)
 rw [QNE hh]
 simp only [jL, jFr, List.all_cons, List.all_nil, List.length_cons, List.length_nil, Nat.zero_add, Nat.reduceAdd, Jsj, XnY, Kwt, ZnY, qMC, YI0, JAX, ok_p, ok_i, ok_b, ok_f, ZVg, Yiy, e1, e2, e3, e4, e5, e6, e7, KSA, Bool.and_true, Bool.and_eq_true, decide_eq_true_eq, true_and, and_true]
 simp
theorem Bt.dropJ {P : Program} {h F L : List AB} {v : AV} (hk : HOk (h ++ F)) (hok : v.ok (fun i => decide (i < (h ++ F).length)) = true) : Bt P (h.length + F.length) [v] (h ++ (F ++ L)) [v] (h ++ F) := by
 have := Bt.drop (P := P) (a := v) L hk rfl hok
 rwa [List.append_assoc, List.length_append] at this
theorem Jvg (h : List AB) (hz : h.map AB.freeze = h) (hh : HOk h) {s t s' t' sa sb : AV} {v v' : List Int} {ds ds' la lb : Dots} (hs : Rd intR h s v) (ht : Rd dotR h t ds) (hs' : Rd intR h s' v') (ht' : Rd dotR h t' ds')
  (os : s.ok (fun i => decide (i < h.length)) = true) (ot : t.ok (fun i => decide (i < h.length)) = true) (os' : s'.ok (fun i => decide (i < h.length)) = true) (ot' : t'.ok (fun i => decide (i < h.length)) = true)
  (pa : Prt h sa la) (pb : Prt h sb lb) (l : Dots) (hn : la.length + lb.length ≠ 0) :
  if JZl la lb then ∃ sb', Prt h sb' (lb.drop 1) ∧ FnAt Tryz.prog 138 [.p (h.length + 4) 0, .p (h.length + 5) 0] (h ++ jL h.length s t s' t' (apS dotR (h.length + 7) l) sa sb (resB dotR true l)) (.ag (dotR.f (lb.getD 0 dotR.d))) (h ++ jL h.length s t s' t' (apS dotR (h.length + 7) l) sa sb' (resB dotR true l))
  else ∃ sa', Prt h sa' (la.drop 1) ∧ FnAt Tryz.prog 138 [.p (h.length + 4) 0, .p (h.length + 5) 0] (h ++ jL h.length s t s' t' (apS dotR (h.length + 7) l) sa sb (resB dotR true l)) (.ag (dotR.f (la.getD 0 dotR.d))) (h ++ jL h.length s t s' t' (apS dotR (h.length + 7) l) sa' sb (resB dotR true l)) := by
 have f1 := hs.fx os (sz := 1) rfl
 have f2 := ht.fx ot (sz := 2) rfl
 have f3 := hs'.fx os' (sz := 1) rfl
 have f4 := ht'.fx ot' (sz := 2) rfl
 have f5 := pa.rd.fx pa.ok (sz := 2) rfl
 have f6 := pb.rd.fx pb.ok (sz := 2) rfl
 have t0 : (0 : Int).toNat = 0 := rfl
 by_cases h1 : la.length = 0
 ·have hb : 0 < lb.length := by omega
  rw [if_pos (.inl h1)]
  obtain ⟨sb', e1, e2, e3⟩ := pb.rd.dropS pb.cap (i := 1) (by omega) (sz := 2) rfl
  have o1 := e3 _ pb.ok
  refine ⟨sb', ⟨e2, KhC e1 pb.cap fun n q => by have := q.symm.trans pb.rd.len; simp only [Option.some.injEq] at this; omega, o1⟩, ?_⟩
  have e4 : slL 2 sb (some (.i .i64 1)) none none = some sb' := e1
  have hI : ((0 : Int) < (lb.length : Int)) = True := eq_true (by omega)
  refine FnAt.run (by kernel_rfl) (T := ⟨[⟨119, XpL, fun _ => []⟩], []⟩) ⟨⟨qNy, trivial⟩, trivial⟩ Tryz.func138 KCM fun _ _ => ?_
  have hk := Xu2 hh os ot os' ot' pa.ok o1 l
  unfold w138
  simp only [t0, hI, jL, jFr, jA, jB, XH8, QN9, X1r, Z1D, zVq, simprocAttr, CO.tmps, Opd.tmps, optT, Nat.reducePow, Nat.reduceDiv, Nat.reduceMod, f1, f2, f3, f4, f5, f6, XpL, QNE hh, QZp hz, h1, hb, KdD, e4, Qwl e2.isSl, YCL e2.isSl]
  exact Bt.dropJ hk rfl
 ·have ha : 0 < la.length := by omega
  have hIa : ((0 : Int) < (la.length : Int)) = True := eq_true (by omega)
  have h1' : ((la.length : Int) = 0) = False := eq_false (by omega)
  by_cases h2 : lb.length = 0
  ·rw [if_neg (fun q => q.elim h1 fun z => by omega)]
   obtain ⟨sa', e1, e2, e3⟩ := pa.rd.dropS pa.cap (i := 1) (by omega) (sz := 2) rfl
   have o1 := e3 _ pa.ok
   refine ⟨sa', ⟨e2, KhC e1 pa.cap fun n q => by have := q.symm.trans pa.rd.len; simp only [Option.some.injEq] at this; omega, o1⟩, ?_⟩
   have e4 : slL 2 sa (some (.i .i64 1)) none none = some sa' := e1
   refine FnAt.run (by kernel_rfl) (T := ⟨[⟨119, XpL, fun _ => []⟩], []⟩) ⟨⟨qNy, trivial⟩, trivial⟩ Tryz.func138 KCM fun _ _ => ?_
   have hk := Xu2 hh os ot os' ot' o1 pb.ok l
   have h2' : ((0 : Int) < (lb.length : Int)) = False := eq_false (by omega)
   unfold w138
   simp only [t0, hIa, h1', h2', jL, jFr, jA, jB, XH8, QN9, X1r, Z1D, zVq, simprocAttr, CO.tmps, Opd.tmps, optT, Nat.reducePow, Nat.reduceDiv, Nat.reduceMod, f1, f2, f3, f4, f5, f6, XpL, QNE hh, QZp hz, ha, KdD, e4, Qwl e2.isSl, YCL e2.isSl]
   exact Bt.dropJ hk rfl
  ·have hb : 0 < lb.length := by omega
   have hIb : ((0 : Int) < (lb.length : Int)) = True := eq_true (by omega)
   by_cases h3 : cmpD (lb.getD 0 dotR.d) (la.getD 0 dotR.d) < 0
   ·rw [if_pos (.inr ⟨hb, h3⟩)]
    obtain ⟨sb', e1, e2, e3⟩ := pb.rd.dropS pb.cap (i := 1) (by omega) (sz := 2) rfl
    have o1 := e3 _ pb.ok
    refine ⟨sb', ⟨e2, KhC e1 pb.cap fun n q => by have := q.symm.trans pb.rd.len; simp only [Option.some.injEq] at this; omega, o1⟩, ?_⟩
    have e4 : slL 2 sb (some (.i .i64 1)) none none = some sb' := e1
    refine FnAt.run (by kernel_rfl) (T := ⟨[⟨119, XpL, fun _ => []⟩], []⟩) ⟨⟨qNy, trivial⟩, trivial⟩ Tryz.func138 KCM fun _ _ => ?_
    have hk := Xu2 hh os ot os' ot' pa.ok o1 l
    have g3 := eq_true h3
    unfold w138
    simp only [t0, hIa, hIb, h1', g3, ZIt, jL, jFr, jA, jB, XH8, QN9, X1r, Z1D, zVq, simprocAttr, CO.tmps, Opd.tmps, optT, Nat.reducePow, Nat.reduceDiv, Nat.reduceMod, f1, f2, f3, f4, f5, f6, XpL, QNE hh, QZp hz, ha, hb, KdD, e4, Qwl e2.isSl, YCL e2.isSl]
    exact Bt.dropJ hk rfl
   ·rw [if_neg (fun q => q.elim h1 fun z => h3 z.2)]
    obtain ⟨sa', e1, e2, e3⟩ := pa.rd.dropS pa.cap (i := 1) (by omega) (sz := 2) rfl
    have o1 := e3 _ pa.ok
    refine ⟨sa', ⟨e2, KhC e1 pa.cap fun n q => by have := q.symm.trans pa.rd.len; simp only [Option.some.injEq] at this; omega, o1⟩, ?_⟩
    have e4 : slL 2 sa (some (.i .i64 1)) none none = some sa' := e1
    refine FnAt.run (by kernel_rfl) (T := ⟨[⟨119, XpL, fun _ => []⟩], []⟩) ⟨⟨qNy, trivial⟩, trivial⟩ Tryz.func138 KCM fun _ _ => ?_
    have hk := Xu2 hh os ot os' ot' o1 pb.ok l
    have g3 := eq_false h3
    unfold w138
    simp only [t0, hIa, hIb, h1', g3, ZIt, jL, jFr, jA, jB, XH8, QN9, X1r, Z1D, zVq, simprocAttr, CO.tmps, Opd.tmps, optT, Nat.reducePow, Nat.reduceDiv, Nat.reduceMod, f1, f2, f3, f4, f5, f6, XpL, QNE hh, QZp hz, ha, hb, KdD, e4, Qwl e2.isSl, YCL e2.isSl]
    exact Bt.dropJ hk rfl
end Go.Proofs.YtfaccliekejngaaGreat
end
section
namespace Go.Proofs.YtfaccliekejngaaGreat
theorem XHA {a b c : Int × Int} (h1 : ¬ ZwT b a) (h2 : ¬ ZwT c b) : ¬ ZwT c a := by simp only [ZwT] at *; omega
theorem QON (x : Int × Int) (l : Dots) : (x :: l).getD 0 dotR.d = x := rfl
theorem Kom : ∀ (n : Nat) (la lb : Dots), la.length + lb.length = n → (mrgD n la lb).Perm (la ++ lb)
 | 0, la, lb, h => by
  have h1 : la = [] := List.eq_nil_of_length_eq_zero (by omega)
  have h2 : lb = [] := List.eq_nil_of_length_eq_zero (by omega)
  subst h1 h2
  exact List.Perm.refl _
 | n + 1, la, lb, h => by
  unfold mrgD
  split
  ·rename_i c
   cases lb with
   | nil => rcases c with q | q <;> simp_all
   | cons y lb =>
    have := Kom n la lb (by simp only [List.length_cons] at h; omega)
    exact (this.cons y).trans List.perm_middle.symm
  ·rename_i c
   cases la with
   | nil => exact absurd (.inl rfl) c
   | cons x la =>
    have := Kom n la lb (by simp only [List.length_cons] at h; omega)
    exact this.cons x
theorem KFA : ∀ (n : Nat) (la lb : Dots), la.length + lb.length = n → QdO la → QdO lb → QdO (mrgD n la lb)
 | 0, la, lb, _, _, _ => List.Pairwise.nil
 | n + 1, la, lb, h, ra, rb => by
  unfold mrgD
  split
  ·rename_i c
   cases lb with
   | nil => rcases c with q | q <;> simp_all
   | cons y lb =>
    have hr := List.pairwise_cons.1 rb
    have hn : la.length + lb.length = n := by simp only [List.length_cons] at h; omega
    refine List.pairwise_cons.2 ⟨fun x hx => ?_, KFA n la lb hn ra hr.2⟩
    rcases List.mem_append.1 ((Kom n la lb hn).mem_iff.1 hx) with q | q
    ·cases la with
     | nil => cases q
     | cons a la =>
      rcases c with c | c
      ·simp at c
      ·have h1 := (qnp _ _).1 c.2
       simp only [QON] at h1 ⊢
       intro h2
       rcases List.mem_cons.1 q with rfl | q
       ·exact zng _ (YKM h1 h2)
       ·exact (List.pairwise_cons.1 ra).1 x q (YKM h2 h1)
    ·exact hr.1 x q
  ·rename_i c
   cases la with
   | nil => exact absurd (.inl rfl) c
   | cons a la =>
    have hr := List.pairwise_cons.1 ra
    have hn : la.length + lb.length = n := by simp only [List.length_cons] at h; omega
    refine List.pairwise_cons.2 ⟨fun x hx => ?_, KFA n la lb hn hr.2 rb⟩
    rcases List.mem_append.1 ((Kom n la lb hn).mem_iff.1 hx) with q | q
    ·exact hr.1 x q
    ·cases lb with
     | nil => cases q
     | cons b lb =>
      have h1 : ¬ ZwT b a := fun z => c (.inr ⟨by simp, (qnp _ _).2 (by simpa using z)⟩)
      simp only [QON]
      rcases List.mem_cons.1 q with rfl | q
      ·exact h1
      ·exact XHA h1 ((List.pairwise_cons.1 rb).1 x q)
theorem qzV {L ds : Dots} (hr : QdO L) (hm : ∀ d, d ∈ L ↔ d ∈ ds) (hd : ∀ d ∈ ds, KG5 d) (x : List Int) : absR (x, []) L = absR (x, []) (srtD ds) := by
 rw [qcV L _ fun d h => hd d ((hm d).1 h), qcV (srtD ds) _ fun d h => hd d ((Qlc ds d).1 h), qD3]
 congr 1
 exact ZYJ (qBQ hr) (Jwr ds) fun d => by rw [KKt, hm, YHT]
theorem YCi {l : Dots} (h : Rise l) : QdO l := h.imp fun {a b} q z => zng _ (YKM q z)
theorem Ygw : ∀ (l : Dots) (t : List Int × Dots), Rise l → Rise t.2 → (∀ x ∈ t.2, ∀ d ∈ l, ZwT x d) → Rise (l.foldl fmD t).2
 | [], t, _, h, _ => h
 | d :: l, t, hl, ht, hx => by
  have r := List.pairwise_cons.1 hl
  have hin : ∀ x ∈ (fmD t d).2, x ∈ t.2 ∨ x = d := fun x h => by
   unfold fmD at h
   split at h
   ·exact .inl h
   ·split at h
    ·simpa using h
    ·exact .inl h
  refine Ygw l (fmD t d) r.2 ?_ fun x h y hy => ?_
  ·unfold fmD
   split
   ·exact ht
   ·split
    ·exact List.pairwise_append.2 ⟨ht, List.pairwise_singleton _ _, fun x h y hy => by rw [List.mem_singleton.1 hy]; exact hx x h d (.head _)⟩
    ·exact ht
  ·rcases hin x h with q | rfl
   ·exact hx x q y (.tail _ hy)
   ·exact r.1 y hy
theorem zUM (v : List Int) (ds : Dots) : Rise (fmO v ds).2 := Ygw _ _ (Jwr ds) List.Pairwise.nil fun x h => by cases h
theorem YIo {v : List Int} {ds : Dots} (h : KXy v ds = 0) : J6E v ds ∧ ds.length ≤ 4096 ∧ fmO v ds = (v, ds) := by
 unfold KXy at h
 split at h
 ·cases h
 ·rename_i h1
  split at h
  ·cases h
  ·rename_i h2
   split at h
   ·rename_i h3
    exact ⟨Decidable.not_not.1 h1, by omega, h3⟩
   ·cases h
theorem zin {v : List Int} {ds : Dots} (h : KXy v ds = 0) : Rise ds := by
 have := zUM v ds
 rw [(YIo h).2.2] at this
 exact this
theorem JGW {v v' : List Int} (h : v.length ≤ 16) (h' : v'.length ≤ 16) (p : ∀ n ∈ v, 0 ≤ n) (p' : ∀ n ∈ v', 0 ≤ n) (r : Int) : vAt (XF1 v v' 16) r = max (vAt v r) (vAt v' r) := by
 have rv : ∀ (w : List Int), (∀ n ∈ w, 0 ≤ n) → ∀ r, rAt w r = vAt w r := fun w pw r => by
  unfold rAt vAt
  by_cases h1 : r < 1
  ·rw [if_pos (.inl h1), if_pos h1]
  ·by_cases h2 : (w.length : Int) < r
   ·rw [if_pos (.inr h2), if_neg h1, if_pos h2]
   ·rw [if_neg (by omega), if_neg h1, if_neg h2]
    have hk : (r - 1).toNat < w.length := by omega
    rw [List.getD_eq_getElem?_getD, List.getElem?_eq_getElem hk]
    have := pw _ (List.getElem_mem hk)
    simp only [Option.getD_some]
    omega
 by_cases ho : r < 1 ∨ 16 < r
 ·rw [J4U _ _ (by rw [ZsI]; exact ho), J4U v _ (by omega), J4U v' _ (by omega)]
  rfl
 ·obtain ⟨i, rfl⟩ : ∃ i : Nat, r = ((i + 1 : Nat) : Int) := ⟨(r - 1).toNat, by omega⟩
  have hi : i < 16 := by omega
  rw [YAu _ i (by rw [ZsI]; exact hi)]
  have e : (XF1 v v' 16).getD i 0 = max (rAt v ((i + 1 : Nat) : Int)) (rAt v' ((i + 1 : Nat) : Int)) := by
   simp [XF1, List.getD_eq_getElem?_getD, List.getElem?_range hi]
  rw [e, rv v p, rv v' p']
  have := KJL v ((i + 1 : Nat) : Int)
  omega
theorem QY8 {v v' : List Int} {ds ds' : Dots} (c : KXy v ds = 0) (c' : KXy v' ds' = 0) :
  bldO (qIk (qIk [] v) v') (ds ++ ds') = fmO (XF1 v v' 16) (ds ++ ds') ∧ absR (qIk (qIk [] v) v', []) (mrgD (ds.length + ds'.length) ds ds') = absR (qIk (qIk [] v) v', []) (srtD (ds ++ ds')) := by
 obtain ⟨a1, a2, a3⟩ := YIo c
 obtain ⟨b1, b2, b3⟩ := YIo c'
 have hr := Zdb a1 b1
 refine ⟨QXY hr (by rw [z5S, z5S]; have := a1.1; have := b1.1; simp; omega) (KDU _ _) fun r => ?_, ?_⟩
 ·rw [qvy, qvy, KbM, JGW a1.1 b1.1 (fun n hn => (a1.2.1 n hn).1) (fun n hn => (b1.2.1 n hn).1)]
  have := KJL v r
  omega
 ·exact qzV (KFA _ _ _ rfl (YCi (zin c)) (YCi (zin c'))) (fun d => (Kom _ ds ds' rfl).mem_iff) hr.2.2 _
end Go.Proofs.YtfaccliekejngaaGreat
end
section
namespace Go.Proofs.YtfaccliekejngaaGreat
theorem Je1 (l : Dots) (d : Int × Int) (hr : Rise l) : ∀ lo hi, lo ≤ hi → hi ≤ l.length → (∀ k, k < lo → ZwT (l.getD k dotR.d) d) → (∀ k, hi ≤ k → k < l.length → ¬ ZwT (l.getD k dotR.d) d) →
  bsI l d lo hi ≤ hi ∧ (∀ k, k < bsI l d lo hi → ZwT (l.getD k dotR.d) d) ∧ ∀ k, bsI l d lo hi ≤ k → k < l.length → ¬ ZwT (l.getD k dotR.d) d := by
 have mono : ∀ i j, i < j → j < l.length → ZwT (l.getD i dotR.d) (l.getD j dotR.d) := fun i j hij hj => by
  have := List.pairwise_iff_getElem.1 hr i j (by omega) hj hij
  rwa [List.getD_eq_getElem?_getD, List.getD_eq_getElem?_getD, List.getElem?_eq_getElem (by omega : i < l.length), List.getElem?_eq_getElem hj]
 intro lo hi
 fun_induction bsI l d lo hi with
 | case1 lo hi h1 h2 ih =>
  intro g1 g2 g3 g4
  refine ih (by omega) g2 (fun k hk => ?_) g4
  have hm := (qnp _ _).1 h2
  by_cases hk2 : k = (lo + hi) / 2
  ·subst hk2; exact hm
  ·exact YKM (mono k _ (by omega) (by omega)) hm
 | case2 lo hi h1 h2 ih =>
  intro g1 g2 g3 g4
  have hm : ¬ ZwT (l.getD ((lo + hi) / 2) dotR.d) d := fun q => h2 ((qnp _ _).2 q)
  obtain ⟨i1, i2, i3⟩ := ih (by omega) (by omega) g3 fun k hk hk2 => by
   by_cases hk3 : k = (lo + hi) / 2
   ·subst hk3; exact hm
   ·exact fun q => hm (YKM (mono _ k (by omega) hk2) q)
  exact ⟨by omega, i2, i3⟩
 | case3 lo hi h1 =>
  intro g1 g2 g3 g4
  have : lo = hi := by omega
  subst this
  exact ⟨Nat.le_refl _, g3, g4⟩
theorem qfe {l : Dots} (hr : Rise l) (d : Int × Int) : (bsI l d 0 l.length < l.length ∧ cmpD (l.getD (bsI l d 0 l.length) dotR.d) d = 0) ↔ d ∈ l := by
 obtain ⟨h1, h2, h3⟩ := Je1 l d hr 0 l.length (Nat.zero_le _) (Nat.le_refl _) (fun k hk => absurd hk (Nat.not_lt_zero _)) (fun k hk hk2 => absurd hk2 (by omega))
 constructor
 ·rintro ⟨q1, q2⟩
  have := (Yf9 _ _).1 q2
  rw [← this, List.getD_eq_getElem?_getD, List.getElem?_eq_getElem q1]
  exact List.getElem_mem q1
 ·intro hd
  obtain ⟨k, hk, rfl⟩ := List.getElem_of_mem hd
  have ek : l.getD k dotR.d = l[k] := by rw [List.getD_eq_getElem?_getD, List.getElem?_eq_getElem hk]; rfl
  have hik : bsI l l[k] 0 l.length ≤ k := by
   rcases Nat.lt_or_ge k (bsI l l[k] 0 l.length) with q | q
   ·have := h2 k q
    rw [ek] at this
    exact absurd this (zng _)
   ·exact q
  have hlt : bsI l l[k] 0 l.length < l.length := by omega
  refine ⟨hlt, (Yf9 _ _).2 ?_⟩
  have h4 := h3 _ (Nat.le_refl _) hlt
  by_cases he : bsI l l[k] 0 l.length = k
  ·rw [he, ek]
  ·have := List.pairwise_iff_getElem.1 hr _ k hlt hk (by omega)
   rw [List.getD_eq_getElem?_getD, List.getElem?_eq_getElem hlt] at h4
   exact absurd this h4
theorem KT0 {v : List Int} (p : ∀ n ∈ v, 0 ≤ n) (r : Int) : rAt v r = vAt v r := by
 unfold rAt vAt
 by_cases h1 : r < 1
 ·rw [if_pos (.inl h1), if_pos h1]
 ·by_cases h2 : (v.length : Int) < r
  ·rw [if_pos (.inr h2), if_neg h1, if_pos h2]
  ·rw [if_neg (by omega), if_neg h1, if_neg h2]
   have hk : (r - 1).toNat < v.length := by omega
   rw [List.getD_eq_getElem?_getD, List.getElem?_eq_getElem hk]
   have := p _ (List.getElem_mem hk)
   simp only [Option.getD_some]
   omega
theorem zny {v : List Int} {ds : Dots} (p : ∀ n ∈ v, 0 ≤ n) (hr : Rise ds) (d : Int × Int) : zZh v ds d ↔ YlY v ds d := by
 unfold zZh YlY Zom
 rw [qfe hr, KT0 p]
 constructor
 ·rintro (q | q)
  ·exact .inr q
  ·exact .inl ⟨q.2.1, q.2.2⟩
 ·rintro (q | q)
  ·refine .inr ⟨?_, q.1, q.2⟩
   rcases Int.lt_or_le d.1 1 with z | z
   ·rw [J4U v _ (.inl z)] at q
    omega
   ·exact z
  ·exact .inl q
theorem J1s {v : List Int} {ds : Dots} (c : KXy v ds = 0) (d : Int × Int) : zZh v ds d ↔ YlY v ds d :=
 zny (fun n hn => ((YIo c).1.2.1 n hn).1) (zin c) d
end Go.Proofs.YtfaccliekejngaaGreat
end
section
namespace Go.Proofs.YtfaccliekejngaaGreat
def gS (sn : List Int) (r : Int) : Int := sn.getD (r - 1).toNat 0
def mM (t : List Int × Dots) (d : Int × Int) : Prop := d.2 ≤ gS t.1 d.1 ∨ d ∈ t.2
theorem JuH {sn : List Int} (h : sn.length = 16) {d e : Int × Int} (hd : KG5 d) (he : KG5 e) (x : Int) : gS (sn.set (d.1 - 1).toNat x) e.1 = if e.1 = d.1 then x else gS sn e.1 := by
 unfold gS
 rw [List.getD_eq_getElem?_getD, List.getElem?_set]
 obtain ⟨a1, a2, _, _⟩ := hd
 obtain ⟨b1, b2, _, _⟩ := he
 by_cases q : e.1 = d.1
 ·rw [if_pos (by omega), if_pos (by omega), if_pos q]; rfl
 ·rw [if_neg (by omega), if_neg q, ← List.getD_eq_getElem?_getD]
theorem Xub (t : List Int × Dots) (d : Int × Int) : (fmD t d).1.length = t.1.length := by
 unfold fmD
 split
 ·simp
 ·split <;> rfl
theorem qkq {t : List Int × Dots} (h : t.1.length = 16) {d e : Int × Int} (hd : KG5 d) (he : KG5 e) : mM (fmD t d) e ↔ mM t e ∨ e = d := by
 unfold fmD
 have hg : t.1.getD (d.1 - 1).toNat 0 = gS t.1 d.1 := rfl
 rw [hg]
 split
 ·rename_i q
  unfold mM
  simp only [JuH h hd he]
  split
  ·rename_i q2
   rw [q2]
   constructor
   ·rintro (z | z)
    ·by_cases z2 : e.2 = d.2
     ·exact .inr (Prod.ext q2 z2)
     ·exact .inl (.inl (by omega))
    ·exact .inl (.inr z)
   ·rintro ((z | z) | z)
    ·exact .inl (by omega)
    ·exact .inr z
    ·exact .inl (by rw [z]; omega)
  ·rename_i q2
   constructor
   ·exact .inl
   ·rintro (z | z)
    ·exact z
    ·exact absurd (by rw [z]) q2
 ·split
  ·unfold mM
   simp only [List.mem_append, List.mem_singleton]
   rw [or_assoc]
  ·rename_i q1 q2
   constructor
   ·exact .inl
   ·rintro (z | rfl)
    ·exact z
    ·exact .inl (by omega)
theorem XfQ : ∀ (l : Dots) (t : List Int × Dots), t.1.length = 16 → (∀ d ∈ l, KG5 d) → ∀ {e : Int × Int}, KG5 e → (mM (l.foldl fmD t) e ↔ mM t e ∨ e ∈ l)
 | [], t, _, _, e, _ => by simp
 | d :: l, t, h, hl, e, he => by
  rw [List.foldl_cons, XfQ l (fmD t d) (by rw [Xub]; exact h) (fun x hx => hl x (.tail _ hx)) he, qkq h (hl d (.head _)) he, List.mem_cons, or_assoc]
theorem ZPp (t : List Int × Dots) (d : Int × Int) : ∀ x ∈ (fmD t d).2, x ∈ t.2 ∨ x = d := fun x h => by
 unfold fmD at h
 split at h
 ·exact .inl h
 ·split at h
  ·simpa using h
  ·exact .inl h
theorem qKT : ∀ (l : Dots) (t : List Int × Dots), ∀ x ∈ (l.foldl fmD t).2, x ∈ t.2 ∨ x ∈ l
 | [], t, x, h => .inl h
 | d :: l, t, x, h => by
  rcases qKT l (fmD t d) x h with q | q
  ·rcases ZPp t d x q with z | rfl
   ·exact .inl z
   ·exact .inr (.head _)
  ·exact .inr (.tail _ q)
def Gap (t : List Int × Dots) : Prop := ∀ x ∈ t.2, gS t.1 x.1 + 1 < x.2
theorem YTw : ∀ (l : Dots) (t : List Int × Dots), t.1.length = 16 → (∀ d ∈ l, KG5 d) → (∀ x ∈ t.2, KG5 x) → Rise l → (∀ x ∈ t.2, ∀ d ∈ l, ZwT x d) → Gap t → Gap (l.foldl fmD t)
 | [], t, _, _, _, _, _, g => g
 | d :: l, t, h, hl, ht, hr, hx, g => by
  have r := List.pairwise_cons.1 hr
  have hd := hl d (.head _)
  refine YTw l (fmD t d) (by rw [Xub]; exact h) (fun x hx => hl x (.tail _ hx)) (fun x q => ?_) r.2 (fun x q y hy => ?_) ?_
  ·rcases ZPp t d x q with z | rfl
   ·exact ht x z
   ·exact hd
  ·rcases ZPp t d x q with z | rfl
   ·exact hx x z y (.tail _ hy)
   ·exact r.1 y hy
  ·have hg : t.1.getD (d.1 - 1).toNat 0 = gS t.1 d.1 := rfl
   unfold fmD
   rw [hg]
   split
   ·rename_i q
    intro x z
    simp only at z
    rw [JuH h hd (ht x z)]
    have h1 := hx x z d (.head _)
    have h2 := g x z
    split
    ·rename_i q2
     unfold ZwT at h1
     rw [q2] at h2
     omega
    ·exact h2
   ·rename_i q
    split
    ·rename_i q2
     intro x z
     rcases List.mem_append.1 z with z | z
     ·exact g x z
     ·rw [List.mem_singleton.1 z]
      simp only
      omega
    ·exact g
structure NF (v : List Int) (ds : Dots) : Prop where
 rg : J6E v ds
 rise : Rise ds
 gap : ∀ d ∈ ds, vAt v d.1 + 1 < d.2
 trim : Trim v
def inC (v : List Int) (ds : Dots) (d : Int × Int) : Prop := KG5 d ∧ (d.2 ≤ vAt v d.1 ∨ d ∈ ds)
theorem JaN {v : List Int} {ds : Dots} (h : J6E v ds) (r : Int) : vAt v r ≤ 1048576 := qfs v (fun n hn => (h.2.1 n hn).2) r
theorem Qtw {v : List Int} {ds : Dots} (h : J6E v ds) {r : Int} (hp : 0 < vAt v r) : 1 ≤ r ∧ r ≤ 16 := by
 have := h.1
 constructor
 ·rcases Int.lt_or_le r 1 with z | z
  ·rw [J4U v _ (.inl z)] at hp; omega
  ·exact z
 ·rcases Int.lt_or_le 16 r with z | z
  ·rw [J4U v _ (.inr (by omega))] at hp; omega
  ·exact z
theorem NF.le {v v' : List Int} {ds ds' : Dots} (a : NF v ds) (b : J6E v' ds') (h : ∀ d, inC v' ds' d → inC v ds d) (r : Int) : vAt v' r ≤ vAt v r := by
 rcases Int.lt_or_le (vAt v r) (vAt v' r) with q | q
 ·have p := KJL v r
  have hi := Qtw b (r := r) (by omega)
  have hb := JaN b r
  have hd : KG5 (r, vAt v r + 1) := ⟨hi.1, hi.2, by simp only; omega, by simp only; omega⟩
  rcases (h (r, vAt v r + 1) ⟨hd, .inl (by simp only; omega)⟩).2 with z | z
  ·simp only at z; omega
  ·have := a.gap _ z
   simp only at this
   omega
 ·exact q
theorem NF.mem {v : List Int} {ds : Dots} (a : NF v ds) (d : Int × Int) : d ∈ ds ↔ inC v ds d ∧ vAt v d.1 < d.2 := by
 constructor
 ·intro h
  have := a.gap d h
  exact ⟨⟨a.rg.2.2 d h, .inr h⟩, by omega⟩
 ·rintro ⟨⟨_, h | h⟩, h2⟩
  ·omega
  ·exact h
theorem NF.ext {v v' : List Int} {ds ds' : Dots} (a : NF v ds) (b : NF v' ds') (h : ∀ d, inC v ds d ↔ inC v' ds' d) : (v, ds) = (v', ds') := by
 have hv : ∀ r, vAt v r = vAt v' r := fun r => Int.le_antisymm (b.le a.rg (fun d => (h d).1) r) (a.le b.rg (fun d => (h d).2) r)
 have e1 : v = v' := XXo (fun n hn => (a.rg.2.1 n hn).1) (fun n hn => (b.rg.2.1 n hn).1) a.trim b.trim hv
 subst e1
 rw [ZYJ a.rise b.rise fun d => by rw [a.mem, b.mem, h d]]
theorem zSR {v : List Int} (hl : v.length ≤ 16) (hp : ∀ n ∈ v, 0 ≤ n) {r : Int} (h1 : 1 ≤ r) : gS (z5Z v v.length) r = vAt v r := by
 have e : z5Z v v.length = v ++ List.replicate (16 - v.length) 0 := by unfold z5Z; rw [List.take_length]
 obtain ⟨i, rfl⟩ : ∃ i : Nat, r = ((i + 1 : Nat) : Int) := ⟨(r - 1).toNat, by omega⟩
 have ei : ((((i + 1 : Nat) : Int) - 1)).toNat = i := by omega
 unfold gS
 rw [e, ei, List.getD_eq_getElem?_getD]
 by_cases hi : i < v.length
 ·rw [List.getElem?_append_left hi, YAu v i hi, List.getD_eq_getElem?_getD, List.getElem?_eq_getElem hi]
  have := hp _ (List.getElem_mem hi)
  simp only [Option.getD_some]
  omega
 ·rw [J4U v _ (.inr (by omega)), List.getElem?_append_right (by omega), List.getElem?_replicate]
  split <;> rfl
theorem Xc4 {v : List Int} {ds : Dots} (hr : J6E v ds) {r : Int} (h1 : 1 ≤ r) (h2 : r ≤ 16) : vAt (fmO v ds).1 r = gS (fmR v (layR ds)).1 r := by
 have hi := Jyu v hr.1 hr.2.1 (l := layR ds) (fun d hd => hr.2.2 d ((YHT ds d).1 hd)) (Nat.le_refl _)
 rw [List.take_length] at hi
 obtain ⟨i1, i2, i3⟩ := hi
 obtain ⟨i, rfl⟩ : ∃ i : Nat, r = ((i + 1 : Nat) : Int) := ⟨(r - 1).toNat, by omega⟩
 have e := Yz9 (fmR v (layR ds)).1 ((i + 1 : Nat) : Int)
 rw [i1] at e
 unfold fmO
 rw [e, YAu _ i (by omega)]
 have ei : ((((i + 1 : Nat) : Int) - 1)).toNat = i := by omega
 unfold gS
 rw [ei]
 have := i3 i
 omega
theorem JRq {v : List Int} {ds : Dots} (hr : J6E v ds) (d : Int × Int) : inC (fmO v ds).1 (fmO v ds).2 d ↔ inC v ds d := by
 unfold inC
 refine and_congr_right fun hd => ?_
 have hs := zf6 v (Nat.le_refl _) hr.1
 have := XfQ (layR ds) (z5Z v v.length, []) hs (fun d hd => hr.2.2 d ((YHT ds d).1 hd)) hd
 rw [Xc4 hr hd.1 hd.2.1]
 have e : mM ((layR ds).foldl fmD (z5Z v v.length, [])) d ↔ (d.2 ≤ gS (fmR v (layR ds)).1 d.1 ∨ d ∈ (fmO v ds).2) := Iff.rfl
 rw [← e, this, YHT]
 unfold mM
 simp only
 rw [zSR hr.1 (fun n hn => (hr.2.1 n hn).1) hd.1]
 simp
theorem NF.fm {v : List Int} {ds : Dots} (hr : J6E v ds) : NF (fmO v ds).1 (fmO v ds).2 := by
 have hd : ∀ d ∈ layR ds, KG5 d := fun d hd => hr.2.2 d ((YHT ds d).1 hd)
 have hs := zf6 v (Nat.le_refl _) hr.1
 have hi := Jyu v hr.1 hr.2.1 hd (Nat.le_refl _)
 rw [List.take_length] at hi
 obtain ⟨i1, i2, i3⟩ := hi
 have hm : ∀ d ∈ (fmO v ds).2, d ∈ layR ds := fun d h => by
  rcases qKT (layR ds) (z5Z v v.length, []) d h with q | q
  ·cases q
  ·exact q
 have hdd : ∀ d ∈ (fmO v ds).2, KG5 d := fun d h => hd d (hm d h)
 refine ⟨⟨?_, fun n hn => ?_, hdd⟩, zUM v ds, fun d h => ?_, z6s _ _ (by rw [i1]; exact Nat.le_refl _)⟩
 ·have := ZGW (fmR v (layR ds)).1 16
  simp only [fmO, List.length_take]
  omega
 ·have h1 := List.mem_of_mem_take (show n ∈ (fmR v (layR ds)).1.take _ from hn)
  obtain ⟨k, hk, rfl⟩ := List.getElem_of_mem h1
  have := i3 k
  rw [List.getD_eq_getElem?_getD, List.getElem?_eq_getElem hk] at this
  exact this
 ·have q := hdd d h
  rw [Xc4 hr q.1 q.2.1]
  exact YTw (layR ds) (z5Z v v.length, []) hs hd (fun x h => by cases h) (Jwr ds) (fun x h => by cases h) (fun x h => by cases h) d h
theorem NF.fix {v : List Int} {ds : Dots} (a : NF v ds) : fmO v ds = (v, ds) := (NF.fm a.rg).ext a fun d => JRq a.rg d
theorem KIn {v : List Int} {ds : Dots} (h : KXy v ds = 0) : NF v ds := by
 obtain ⟨h1, _, h3⟩ := YIo h
 have := NF.fm h1
 rw [h3] at this
 exact this
theorem NF.check {v : List Int} {ds : Dots} (a : NF v ds) (hl : ds.length ≤ 4096) : KXy v ds = 0 := by
 unfold KXy
 rw [if_neg (not_not_intro a.rg), if_neg (by omega), if_pos a.fix]
theorem Qhv {v : List Int} {ds : Dots} (hr : J6E v ds) : (fmO v ds).2.length ≤ ds.length := by
 have hi := Jyu v hr.1 hr.2.1 (l := layR ds) (fun d hd => hr.2.2 d ((YHT ds d).1 hd)) (Nat.le_refl _)
 rw [List.take_length] at hi
 have := Xl7 ds
 have h2 : (fmO v ds).2 = (fmR v (layR ds)).2 := rfl
 rw [h2]
 omega
theorem QbQ {v : List Int} {ds : Dots} (hr : J6E v ds) (d : Int × Int) : YlY v ds d ↔ inC v ds d := by
 unfold YlY inC
 rw [KT0 fun n hn => (hr.2.1 n hn).1]
 constructor
 ·rintro (q | q)
  ·have h1 := Qtw hr (r := d.1) (by omega)
   have h2 := JaN hr d.1
   exact ⟨⟨h1.1, h1.2, q.1, by omega⟩, .inl q.2⟩
  ·exact ⟨hr.2.2 d q, .inr q⟩
 ·rintro ⟨hd, q | q⟩
  ·exact .inl ⟨hd.2.2.1, q⟩
  ·exact .inr q
theorem JEt {v v' : List Int} {ds ds' : Dots} (h : J6E v ds) (h' : J6E v' ds') (d : Int × Int) : inC (XF1 v v' 16) (ds ++ ds') d ↔ inC v ds d ∨ inC v' ds' d := by
 unfold inC
 rw [JGW h.1 h'.1 (fun n hn => (h.2.1 n hn).1) (fun n hn => (h'.2.1 n hn).1), List.mem_append, ← and_or_left]
 refine and_congr_right fun _ => ?_
 constructor
 ·rintro (q | q | q)
  ·rcases Int.le_total (vAt v d.1) (vAt v' d.1) with z | z
   ·exact .inr (.inl (by omega))
   ·exact .inl (.inl (by omega))
  ·exact .inl (.inr q)
  ·exact .inr (.inr q)
 ·rintro ((q | q) | (q | q))
  ·exact .inl (by omega)
  ·exact .inr (.inl q)
  ·exact .inl (by omega)
  ·exact .inr (.inr q)
theorem XNt {v : List Int} {ds : Dots} (hr : J6E v ds) (r : Int) : ∀ i, i ≤ ds.length → vAt v r ≤ maxR v ds r i ∧ (∀ d ∈ ds.take i, d.1 = r → d.2 ≤ maxR v ds r i) ∧ (maxR v ds r i = vAt v r ∨ (r, maxR v ds r i) ∈ ds)
 | 0, _ => ⟨by unfold maxR; rw [KT0 fun n hn => (hr.2.1 n hn).1]; exact Int.le_refl _, fun d hd => by simp at hd, .inl (KT0 (fun n hn => (hr.2.1 n hn).1) r)⟩
 | i + 1, hi => by
  obtain ⟨h1, h2, h3⟩ := XNt hr r i (by omega)
  have hm : ds.getD i dotR.d ∈ ds := by rw [List.getD_eq_getElem?_getD, List.getElem?_eq_getElem hi]; exact List.getElem_mem hi
  have et : ds.take (i + 1) = ds.take i ++ [ds.getD i dotR.d] := by rw [List.take_succ_eq_append_getElem hi, List.getD_eq_getElem?_getD, List.getElem?_eq_getElem hi]; rfl
  rw [et]
  unfold maxR
  generalize ds.getD i dotR.d = x at *
  split
  ·rename_i q
   refine ⟨by omega, fun d hd hdr => ?_, ?_⟩
   ·rcases List.mem_append.1 hd with z | z
    ·have := h2 d z hdr; omega
    ·rw [List.mem_singleton.1 z]; omega
   ·rcases Int.le_total (maxR v ds r i) x.2 with z | z
    ·right
     rw [Int.max_eq_right z, ← q]
     exact hm
    ·rw [Int.max_eq_left z]
     exact h3
  ·rename_i q
   refine ⟨h1, fun d hd hdr => ?_, h3⟩
   rcases List.mem_append.1 hd with z | z
   ·exact h2 d z hdr
   ·rw [List.mem_singleton.1 z] at hdr
    exact absurd hdr q
end Go.Proofs.YtfaccliekejngaaGreat
end
