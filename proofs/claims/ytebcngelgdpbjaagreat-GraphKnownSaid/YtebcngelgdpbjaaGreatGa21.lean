/- Part 21 of what the laws' proofs rest on. No condition. -/
import Derived.Shelf.SlSortCmp.NoneTotal
import Derived.Test.YtebcngelgdpbjaaGreatGa20
set_option linter.all false
section
namespace Go.Proofs.YtebcngelgdpbjaaGreat
open Go.Shelf
def ZUi : Go.Shelf.Ren := ⟨fun | 6 => 147 | 15 => 179 | 14 => 199 | 28 => 222 | 29 => 223 | 20 => 236 | 21 => 237 | 22 => 238 | 23 => 239 | 24 => 240 | 25 => 241 | 26 => 242 | 27 => 243 | 46 => 259 | 47 => 251 | 48 => 252 | 49 => 260 | 50 => 261 | 57 => 270 | n => n, fun | 22 => 51 | 24 => 47 | 25 => 131 | 3 => 3 | 39 => 219 | 0 => 0 | 53 => 264 | 55 => 266 | 4 => 4 | 46 => 258 | 45 => 257 | 50 => 198 | 5 => 5 | 9 => 9 | 66 => 278 | 70 => 282 | 76 => 290 | 77 => 291 | n => n, fun | n => n⟩
theorem Z3D : Go.Proofs.SlLaysF0.n6 Tryz.prog ZUi := {
 mixed := by kernel_rfl
 f6 := ⟨Tryz.f147.name, by decide, Tryz.func147.trans (congrArg some (by kernel_rfl))⟩
 f14 := ⟨Tryz.f199.name, by decide, Tryz.func199.trans (congrArg some (by kernel_rfl))⟩
 f15 := Tryz.func179.trans (congrArg some (by kernel_rfl))
 f20 := ⟨Tryz.f236.name, by decide, Tryz.func236.trans (congrArg some (by kernel_rfl))⟩
 f21 := ⟨Tryz.f237.name, by decide, Tryz.func237.trans (congrArg some (by kernel_rfl))⟩
 f22 := ⟨Tryz.f238.name, by decide, Tryz.func238.trans (congrArg some (by kernel_rfl))⟩
 f23 := ⟨Tryz.f239.name, by decide, Tryz.func239.trans (congrArg some (by kernel_rfl))⟩
 f24 := ⟨Tryz.f240.name, by decide, Tryz.func240.trans (congrArg some (by kernel_rfl))⟩
 f25 := ⟨Tryz.f241.name, by decide, Tryz.func241.trans (congrArg some (by kernel_rfl))⟩
 f26 := ⟨Tryz.f242.name, by decide, Tryz.func242.trans (congrArg some (by kernel_rfl))⟩
 f27 := ⟨Tryz.f243.name, by decide, Tryz.func243.trans (congrArg some (by kernel_rfl))⟩
 f28 := Tryz.func222.trans (congrArg some (by kernel_rfl))
 f29 := Tryz.func223.trans (congrArg some (by kernel_rfl))
 f46 := ⟨Tryz.f259.name, by decide, Tryz.func259.trans (congrArg some (by kernel_rfl))⟩
 f47 := Tryz.func251.trans (congrArg some (by kernel_rfl))
 f48 := Tryz.func252.trans (congrArg some (by kernel_rfl))
 f49 := ⟨Tryz.f260.name, by decide, Tryz.func260.trans (congrArg some (by kernel_rfl))⟩
 f50 := ⟨Tryz.f261.name, by decide, Tryz.func261.trans (congrArg some (by kernel_rfl))⟩
 f57 := ⟨Tryz.f270.name, by decide, Tryz.func270.trans (congrArg some (by kernel_rfl))⟩
 t0 := Tryz.underlying0
 a0 := Tryz.isAgg0
 z0 := Tryz.sizeOf0
 v0 := Tryz.zeroValue0
 t3 := Tryz.underlying3
 a3 := Tryz.isAgg3
 z3 := Tryz.sizeOf3
 v3 := Tryz.zeroValue3
 t4 := Tryz.underlying4
 a4 := Tryz.isAgg4
 z4 := Tryz.sizeOf4
 v4 := Tryz.zeroValue4
 t5 := Tryz.underlying5
 a5 := Tryz.isAgg5
 z5 := Tryz.sizeOf5
 v5 := Tryz.zeroValue5
 t9 := Tryz.underlying9
 a9 := Tryz.isAgg9
 z9 := Tryz.sizeOf9
 v9 := Tryz.zeroValue9
 t22 := Tryz.underlying51
 a22 := Tryz.isAgg51
 z22 := Tryz.sizeOf51
 v22 := Tryz.zeroValue51
 t25 := Tryz.underlying131
 a25 := Tryz.isAgg131
 z25 := Tryz.sizeOf131
 v25 := Tryz.zeroValue131
 t39 := Tryz.underlying219
 a39 := Tryz.isAgg219
 z39 := Tryz.sizeOf219
 v39 := Tryz.zeroValue219
 t45 := Tryz.underlying257
 a45 := Tryz.isAgg257
 z45 := Tryz.sizeOf257
 v45 := Tryz.zeroValue257
 t46 := Tryz.underlying258
 a46 := Tryz.isAgg258
 z46 := Tryz.sizeOf258
 v46 := Tryz.zeroValue258
 t50 := Tryz.underlying198
 a50 := Tryz.isAgg198
 z50 := Tryz.sizeOf198
 v50 := Tryz.zeroValue198
 t53 := Tryz.underlying264
 a53 := Tryz.isAgg264
 z53 := Tryz.sizeOf264
 v53 := Tryz.zeroValue264
 t55 := Tryz.underlying266
 a55 := Tryz.isAgg266
 z55 := Tryz.sizeOf266
 v55 := Tryz.zeroValue266
 t66 := Tryz.underlying278
 a66 := Tryz.isAgg278
 z66 := Tryz.sizeOf278
 v66 := Tryz.zeroValue278
 t70 := Tryz.underlying282
 a70 := Tryz.isAgg282
 z70 := Tryz.sizeOf282
 v70 := Tryz.zeroValue282
 t76 := Tryz.underlying290
 a76 := Tryz.isAgg290
 z76 := Tryz.sizeOf290
 v76 := Tryz.zeroValue290
 t77 := Tryz.underlying291
 a77 := Tryz.isAgg291
 z77 := Tryz.sizeOf291
 v77 := Tryz.zeroValue291 }
end Go.Proofs.YtebcngelgdpbjaaGreat
end
section
namespace Go.Proofs.YtebcngelgdpbjaaGreat
open Go.RowKit Go.Shelf Go.Sort
variable {P : Program} {α : Type} {r : Row α}
def Cmps (P : Program) (g : Nat) (r : Row α) (cf : α → α → Int) : Prop := ∀ x y (h : List AB), FnC P g [.ag (r.f x), .ag (r.f y)] h (.i .i64 (cf x y)) h
def Row.enc (r : Row α) (x : α) : List Value := (r.f x).map AV.val
theorem Cmps.lays [Inhabited α] {g : Nat} {cf : α → α → Int} (hc : Cmps P g r cf) (hfl : ∀ x, ∀ a ∈ r.f x, a.fl = true) (blk off size : Nat) (w : World) : CmpLays P g #[] r.enc r.sz cf blk off size w := by
 intro m os dk _ x y
 generalize sortWorldK r.enc r.sz w blk off m dk os = W
 have hv : VL [] [.ag (r.f x), .ag (r.f y)] #[.agg (r.enc x).toArray, .agg (r.enc y).toArray] :=
  VL.cons (Y5G (qJ6 [] _ (hfl x))) (VL.one (Y5G (qJ6 [] _ (hfl y))))
 rw [Array.append_empty]
 refine ((hc x y []).2 [] W _ (In.nil (K := KC P) W).rel hv).mono ?_
 rintro e w' ⟨v', ρ', rfl, hva, _, heff⟩
 cases hva
 have hdr : W.drawn ≤ w'.drawn := heff.output.2
 refine ⟨rfl, w'.drawn - W.drawn, w'.heap.extract W.heap.size w'.heap.size, ?_⟩
 have hkeep : ∀ b, b < W.heap.size → w'.heap[b]? = W.heap[b]? := fun b hb => heff.keep b hb fun ⟨i, B, o, h1, _⟩ => by simp at h1
 have hheap : w'.heap = W.heap ++ w'.heap.extract W.heap.size w'.heap.size := by
  apply Array.ext_getElem?
  intro b
  by_cases hb : b < W.heap.size
  ·rw [hkeep b hb, Array.getElem?_append_left hb]
  ·have := heff.size
   rw [Array.getElem?_append_right (by omega), Array.getElem?_extract]
   split
   ·congr 1; omega
   ·rw [Array.getElem?_eq_none]; omega
 have hos := heff.os
 have htape := heff.tape
 have hout := heff.output
 obtain ⟨hp, tp, dr, os', ou⟩ := w'
 simp only at hheap hos htape hout
 have hdr2 : W.drawn ≤ dr := hdr
 simp only [Go.Sort.grow, World.drewN, World.mk.injEq]
 exact ⟨hheap, htape, by omega, hos, hout.1⟩
theorem YCv [Inhabited α] (l : List α) : flatK r.enc r.sz l.toArray = ((r.cells l).map AV.val).toArray := by
 have hs : (flatK r.enc r.sz l.toArray).size = l.length * r.sz := by simp
 refine ext_get! (by rw [hs]; simp [r.cells_len]) fun t ht => ?_
 rw [hs] at ht
 have hpos := r.pos
 have hdiv : t / r.sz < l.length := (Nat.div_lt_iff_lt_mul hpos).2 ht
 have hmod : t % r.sz < r.sz := Nat.mod_lt _ hpos
 have hg := r.cells_get l (t / r.sz) (t % r.sz) hdiv hmod
 rw [Nat.mul_comm, Nat.div_add_mod] at hg
 rw [get_flatK _ _ _ _ (by simpa using ht)]
 have hlt : t % r.sz < (r.f (l.getD (t / r.sz) r.d)).length := by rw [r.len]; exact hmod
 have e1 : l.toArray[t / r.sz]! = l.getD (t / r.sz) r.d := by
  rw [getElem!_pos _ _ (by simpa using hdiv), List.getD_eq_getElem?_getD, List.getElem?_eq_getElem hdiv]
  simp
 rw [e1]
 have htl : t < (r.cells l).length := by rw [r.cells_len]; exact ht
 rw [List.getElem?_eq_getElem htl, List.getElem?_eq_getElem hlt] at hg
 simp only [Option.some.injEq] at hg
 rw [getElem!_pos _ _ (by simpa [Row.enc] using hlt), getElem!_pos _ _ (by simpa using htl)]
 simp only [Row.enc, List.getElem_map, List.getElem_toArray, hg]
theorem Rel.grown {K : Code → CC → Prop} {ρ : Mp} {h : List AB} {w : World} (i : Rel K ρ h w) (os : Array Obj) : Rel K ρ h (Go.Sort.grow w os) ∧ Eff ρ h w ρ h (Go.Sort.grow w os) := by
 have hk : ∀ b, b < w.heap.size → (Go.Sort.grow w os).heap[b]? = w.heap[b]? := fun b hb => by
  simp only [Go.Sort.grow]
  rw [Array.getElem?_append_left hb]
 exact i.to ⟨i.len, fun j B b o n h1 h2 => (i.blk j B b o n h1 h2).same (Ext.refl _) fun hl => hk b ((i.blk j B b o n h1 h2).lt hl), i.sep⟩ ⟨rfl, rfl, ⟨rfl, Nat.le_refl _⟩, by simp [Go.Sort.grow], fun b hb _ => hk b hb, fun _ q => .inl q, fun _ _ q => .inl q⟩
theorem Kju {ρ : Mp} {id off len cap : Nat} {k : Option Nat} {v : Value} (e : VR ρ (.sl id off len cap k) v) (h : len ≠ 0) :
  ∃ b o n cap', ρ[id]? = some (b, o, n) ∧ v = .slice (some ⟨b, o + off, none⟩) len cap' ∧ len ≤ cap ∧ cap ≤ cap' ∧ cap' ≤ maxLen ∧ (∀ z, k = some z → z ≠ 0 → o + off + cap' * z ≤ n) := by
 cases e with
 | sl id off len cap k b o n cap' hρ h1 h2 h3 h4 h5 => exact ⟨b, o, n, cap', hρ, rfl, h1, h2, h3, h5⟩
 | sz id off a c hc hn => exact absurd rfl h
theorem QRS {ρ : Mp} {id off len cap : Nat} {k : Option Nat} {v : Value} (e : VR ρ (.sl id off len cap k) v) (h : len = 0) : ∃ a c, v = .slice a 0 c := by
 cases e with
 | sl id off len cap k b o n cap' hρ h1 h2 h3 h4 h5 => subst h; exact ⟨_, _, rfl⟩
 | sz id off a c hc hn => exact ⟨_, _, rfl⟩
theorem qlx {ρ : Mp} {g : Nat} {v : Value} (e : VR ρ (.f (.func g) [] []) v) : v = .func (.func g) #[] #[] := by
 cases e with
 | f fn fst cap fst' cap' h0 h1 _ _ =>
  have e1 : fst' = #[] := Array.eq_empty_of_size_eq_zero h0.symm
  have e2 : cap' = #[] := Array.eq_empty_of_size_eq_zero h1.symm
  rw [e1, e2]
theorem K7D {ρ : Mp} {a b : AV} {vals : Array Value} (h : VL ρ [a, b] vals) : ∃ x y, vals = #[x, y] ∧ VR ρ a x ∧ VR ρ b y := by
 obtain ⟨hs, hv⟩ := h
 obtain ⟨l⟩ := vals
 match l, hs with
 | [x, y], _ => exact ⟨x, y, rfl, hv 0 a x rfl rfl, hv 1 b y rfl rfl⟩
theorem JSk (h : List AB) (i : Nat) (B : AB) (e : h[i]? = some B) : h.set i B = h := by
 apply List.ext_getElem?
 intro j
 rw [List.getElem?_set]
 split
 ·rename_i hij
  subst hij
  split
  ·exact e.symm
  ·rename_i hlt
   exact absurd (List.getElem?_eq_some_iff.1 e).1 hlt
 ·rfl
theorem qVK [Inhabited α] {N : Ren} (L : SlLaysF0.n6 P N) (aE : ∀ w, (isAgg (N.t 24)).run P w = .ok true w) (zE : ∀ w, (Go.sizeOf (N.t 24)).run P w = .ok r.sz w) {cf : α → α → Int} (hO : SWO (ltOf cf))
  (hT : ∀ x y, (ltOf cf) x y = false → (ltOf cf) y x = false → x = y) {g : Nat} (hc : Cmps P g r cf) (hfl : ∀ x, ∀ a ∈ r.f x, a.fl = true) (h1 : ∀ x, ∀ v ∈ r.enc x, v.oneCell' = true)
  {h : List AB} {id : Nat} (l : List α) (hb : h[id]? = some (resB r true l)) (hl : l.length ≤ 1000000) :
  FnC P (N.f 6) [rsl r id l, .f (.func g) [] []] h (.tu []) (h.set id (resB r true (l.mergeSort fun x y => !(ltOf cf) y x))) := by
 obtain ⟨nm, hnm, hf⟩ := L.f6
 refine ⟨⟨_, _, hf, by simpa using hnm, rfl⟩, fun ρ w vals hr hv => ?_⟩
 obtain ⟨v, f, rfl, hv1, hv2⟩ := K7D hv
 have := qlx hv2
 subst this
 by_cases h0 : l.length = 0
 ·have : l = [] := List.eq_nil_of_length_eq_zero h0
  subst this
  simp only [rsl, List.length_nil, if_true] at hv1
  obtain ⟨a, c, rfl⟩ := QRS hv1 rfl
  refine (AnyF.slices_SortFunc_none L a c _ w).mono ?_
  rintro e w' ⟨rfl, rfl⟩
  rw [List.mergeSort_nil, JSk h id _ hb]
  exact ⟨_, ρ, rfl, .tu [] #[] rfl fun j a c q => by simp at q, hr, EffP.refl _ _ _ _⟩
 ·simp only [rsl, if_neg h0] at hv1
  obtain ⟨b, o, n, cap', hρ, rfl, _, hlc, hcm, hcap⟩ := Kju hv1 h0
  have hB := hr.blk id _ b o n hb hρ
  simp only [resB, if_neg h0, BR] at hB
  obtain ⟨cs, e, fz, hheap, hm, hlen, hcells⟩ := hB
  obtain ⟨hfz, hn⟩ := hm trivial
  have hblk : b < w.heap.size := (Array.getElem?_eq_some_iff.1 hheap).1
  have hall : ∀ a ∈ r.cells l, a.fl = true := fun a ha => by
   obtain ⟨x, _, hx⟩ := List.mem_flatMap.1 ha
   exact hfl x a hx
  have hH : HoldsK r.enc r.sz w b o l.toArray := by
   unfold HoldsK
   rw [YCv]
   intro j hj
   have hj' : j < (r.cells l).length := by simpa using hj
   have hoj : o + j < cs.size := by omega
   refine ⟨?_, ?_⟩
   ·unfold World.cell?
    simp only [hheap]
    have hv := hcells j _ _ (List.getElem?_eq_getElem hj') (Array.getElem?_eq_getElem hoj)
    rw [getElem!_pos (((r.cells l).map AV.val).toArray) j hj]
    simp only [Option.isSome_none, Bool.false_eq_true, if_false, Array.getElem?_eq_getElem hoj, Option.some.injEq, List.getElem_toArray, List.getElem_map, id_eq]
    exact Xjg (hall _ (List.getElem_mem hj')) hv
   ·obtain ⟨lo, hi'⟩ := fz
    unfold World.frozen?
    simp only [hheap, Bool.and_eq_false_iff, decide_eq_false_iff_not]
    simp only at hfz
    omega
  obtain ⟨⟨gf, gb, hg1, hg2, hg3⟩, _⟩ := hc r.d r.d []
  have eg : ∀ args w, (callFunc g args).run P w = .ok (.enter g args) w := fun args w => by simp [callFunc, hg1, hg2, hg3]
  have hC := AnyQ.slices_SortFunc_total L r.sz aE zE r.enc (fun x => by simp [Row.enc, r.len]) h1 cf hO g #[] b o cap' l.toArray w eg (hc.lays hfl b o l.toArray.size w) hH hblk (by simp; omega) hT
  refine Calls.mono (show Calls P (N.f 6) #[.slice (some ⟨b, o + 0, none⟩) l.length cap', .func (.func g) #[] #[]] w _ from hC) ?_
  rintro e w' ⟨rfl, n', os, rfl⟩
  rw [List.toList_toArray]
  generalize hl' : (l.mergeSort fun x y => !(ltOf cf) y x) = l'
  have hll : l'.length = l.length := by rw [← hl', List.length_mergeSort]
  have h0' : ¬ l'.length = 0 := by omega
  have hall' : ∀ a ∈ r.cells l', a.fl = true := fun a ha => by
   obtain ⟨x, _, hx⟩ := List.mem_flatMap.1 ha
   exact hfl x a hx
  have hcl : (r.cells l').length = (r.cells l).length := by rw [r.cells_len, r.cells_len, hll]
  have hW : sortWorldK r.enc r.sz w b o n' l'.toArray os = Go.Sort.grow (mapBlock (Go.Sort.ahead w n') b (putCells _root_.id o ((r.cells l').map AV.val).toArray)) os := by
   unfold sortWorldK putRowK putRow
   rw [YCv]
  rw [hW]
  have hput := hr.put (w' := mapBlock (Go.Sort.ahead w n') b (putCells _root_.id o ((r.cells l').map AV.val).toArray)) hb (by simp [resB, h0, AB.mut]) hρ (B' := resB r true l') (by
   simp only [resB, if_neg h0', BR]
   refine ⟨putCells _root_.id o ((r.cells l').map AV.val).toArray cs, e, fz, ?_, fun _ => ⟨by simpa [putCells] using hfz, by simp [putCells]; exact hn⟩, by simp [putCells, hcl]; exact hlen, fun k a c ha hc' => ?_⟩
   ·simp only [mapBlock, Go.Sort.ahead, Array.getElem?_modify, if_true, hheap, Option.map_some, onCells]
   ·have hk := (List.getElem?_eq_some_iff.1 ha).1
    have hok : o + k < cs.size := by omega
    have hka : a = (r.cells l')[k] := (List.getElem?_eq_some_iff.1 ha).2.symm
    simp only [putCells, Array.getElem?_mapIdx, Array.getElem?_eq_getElem hok, Option.map_some] at hc'
    rw [if_pos (by constructor <;> simp <;> omega)] at hc'
    simp only [Option.some.injEq, id_eq, Nat.add_sub_cancel_left] at hc'
    rw [getElem!_pos (((r.cells l').map AV.val).toArray) k (by simpa using hk)] at hc'
    simp only [List.getElem_toArray, List.getElem_map] at hc'
    subst hka
    rw [← hc']
    exact QSr _ (hall' _ (List.getElem_mem hk))) rfl rfl ⟨rfl, Nat.le_add_right _ _⟩ (by simp [mapBlock, Go.Sort.ahead]) (fun k hk => by
   simp only [mapBlock, Go.Sort.ahead, Array.getElem?_modify]
   rw [if_neg (fun q => hk q.symm)]) (fun _ => by simp [resB, h0, AB.live])
  have hgrow := hput.1.grown os
  exact ⟨_, ρ, rfl, .tu [] #[] rfl fun j a c q => by simp at q, hgrow.1, (hput.2.trans hgrow.2).p (Ext.refl _) (by rw [hr.len]; exact Nat.le_refl _)⟩
end Go.Proofs.YtebcngelgdpbjaaGreat
end
section
namespace Go.Proofs.YtebcngelgdpbjaaGreat
open Go.Sort
set_option maxRecDepth 100000
set_option maxHeartbeats 4000000
theorem qPI : Spec Tryz.prog 90 XpL := by
 intro args h v h' e
 unfold XpL at e
 split at e
 ·rename_i a b c d
  cases e
  refine FnAt.c (FnAt.frz0 fun hz => ?_)
  generalize h.map AB.freeze = h at *
  refine FnAt.run (by kernel_rfl) (T := ⟨[⟨149, Xsv, fun _ => []⟩, ⟨58, T_Or, fun _ => []⟩], []⟩) ⟨⟨K2S, YOj, trivial⟩, trivial⟩ Tryz.func90 sw90 fun ho hh => ?_
  unfold w90
  simp only [XH8, QN8, X1r, Z1C, zVp, if_true, if_false, reduceIte, Nat.reduceAdd, Nat.reduceSub, Nat.reduceLeDiff, Nat.reduceEqDiff, Nat.reduceMul, Nat.reduceLT, Int.reduceLT, Int.reduceLE, Int.reduceEq, CO.tmps, Opd.tmps, optT, Nat.reducePow, Nat.reduceDiv, Nat.reduceMod, Xsv, T_Or, QND hh, QZo hz]
  exact Bt.dropI _ hh (by simp only [orI, cmpD]; by_cases h1 : cmpI a c = 0 <;> by_cases h2 : cmpI b d = 0 <;> simp [h1, h2])
 ·cases e
theorem JAH : SWO (ltOf cmpD) := ⟨fun x => by
  unfold ltOf
  rw [decide_eq_false_iff_not, qnp]
  exact zng x, fun x y z h1 h2 => by
  unfold ltOf at *
  rw [decide_eq_true_eq, qnp] at *
  exact YKM h1 h2, fun x y z h1 h2 => by
  unfold ltOf at *
  rw [decide_eq_false_iff_not, qnp] at *
  intro h3
  rcases Y5F x y with q | q | q
  ·exact h1 q
  ·subst q; exact h2 h3
  ·exact h2 (YKM q h3)⟩
theorem Qcf (x y : Int × Int) (h1 : ltOf cmpD x y = false) (h2 : ltOf cmpD y x = false) : x = y := by
 unfold ltOf at *
 rw [decide_eq_false_iff_not, qnp] at *
 rcases Y5F x y with q | q | q
 ·exact absurd q h1
 ·exact q
 ·exact absurd q h2
theorem XrG : Cmps Tryz.prog 90 dotR cmpD := fun x y h => qPI _ _ _ _ (by rw [KdC, KdC]; rfl)
theorem JNv (x : Int × Int) : ∀ v ∈ dotR.enc x, v.oneCell' = true := fun v hv => by
 simp only [Row.enc, KdC, List.map_cons, List.map_nil, AV.val, List.mem_cons, List.not_mem_nil, or_false] at hv
 rcases hv with rfl | rfl <;> rfl
theorem zVv {h : List AB} {id : Nat} (l : Dots) (hb : h[id]? = some (resB dotR true l)) (hl : l.length ≤ 1000000) : FnC Tryz.prog 147 [rsl dotR id l, .f (.func 90) [] []] h (.tu []) (h.set id (resB dotR true (srtD l))) :=
 qVK (r := dotR) Z3D Tryz.isAgg47 Tryz.sizeOf47 JAH Qcf XrG JNn JNv l hb hl
def cX (h : List AB) (l : List ((Int × Int) × AV)) : AV → List AB → Prop := fun a h' => ∃ o : List (Int × Int), o.Perm (l.map (·.1)) ∧ a = apS dotR h.length o ∧ h' = h ++ [resB dotR true o]
theorem KNe {h : List AB} {j mid : Nat} {m : Bool} {l : List ((Int × Int) × AV)} (b1 : XAh h j = some [.m mid]) (hm : h[mid]? = some (mpB dotK m l)) (hl : l.length ≤ 100000) :
  FnAtS Tryz.prog 198 [.ns, .f (.func 148) [] [.p j 0]] h (cX h l) := by
 refine FnAtS.run (by kernel_rfl) (T := ⟨[], []⟩) ⟨trivial, trivial⟩ Tryz.func198 QmC fun ho hh => ?_
 simp only [qMC, Bool.and_eq_true] at ho
 have uf := Z5W hh b1 hm hl _ ho.2.1
 unfold w198
 simp only [XH8, QN8, X1r, zVp, if_true, if_false, reduceIte, Nat.reduceAdd, Nat.reduceSub, Nat.reduceLeDiff, Nat.reduceEqDiff, Nat.reduceMul, Nat.reduceLT, Int.reduceLT, Int.reduceLE, Int.reduceEq]
 refine JwE rfl (by simp only [X1r, zVp, if_true, if_false, reduceIte, Nat.reduceAdd, Nat.reduceSub, Nat.reduceLeDiff, Nat.reduceEqDiff, Nat.reduceMul, Nat.reduceLT, Int.reduceLT, Int.reduceLE, Int.reduceEq]) rfl (by simp only [X1r, zVp, if_true, if_false, reduceIte, Nat.reduceAdd, Nat.reduceSub, Nat.reduceLeDiff, Nat.reduceEqDiff, Nat.reduceMul, Nat.reduceLT, Int.reduceLT, Int.reduceLE, Int.reduceEq]; rfl) uf fun v h2 hx => ?_
 obtain ⟨rfl, o, hp, rfl⟩ := hx
 refine ⟨.ready, _, _, _, _, by rw [Yn6]; rfl, by decide, ?_⟩
 simp only [kFr, X1r, zVp, if_true, if_false, reduceIte, Nat.reduceAdd, Nat.reduceSub, Nat.reduceLeDiff, Nat.reduceEqDiff, Nat.reduceMul, Nat.reduceLT, Int.reduceLT, Int.reduceLE, Int.reduceEq, ZD4, zG8]
 have ao : (apS dotR h.length o).ok (fun i => decide (i < h.length + 1)) = true := ZrT _ _ _ (by simp)
 exact ⟨apS dotR (h.length + 2) o, apS dotR h.length o, _, rfl, Bt.sel [2] hh (by decide) (by simp only [q9C, FrSel, BlkSel, AV.ren, renL, AV.ok, okL, Option.some.injEq, exists_eq_left', List.length_cons, List.length_nil, Nat.reduceAdd, Nat.reduceLT, reduceCtorEq, implies_true, exists_eq']) (by simp only [q9C, FrSel, BlkSel, AV.ren, renL, AV.ok, okL, Option.some.injEq, exists_eq_left', List.length_cons, List.length_nil, Nat.reduceAdd, Nat.reduceLT, reduceCtorEq, implies_true, exists_eq', ao]), o, hp, rfl, rfl⟩
end Go.Proofs.YtebcngelgdpbjaaGreat
end
section
namespace Go.Proofs.YtebcngelgdpbjaaGreat
set_option maxRecDepth 100000
set_option maxHeartbeats 4000000
theorem AM.pl {P : Program} {p : Nat} {rd : Option Nat} {fn : FuncId} {d : Option Nat} {op : CO} {l : List COper} {k : List CI} {fr : List AV} {h h' : List AB} {v : AV} {R : AV → List AB → Prop} (e : op.run (Opd.ev fr) h = some (v, h'))
  (g : AM P p rd fn (.ops l :: k) (put fr d v) h' R) : AM P p rd fn (.ops (⟨d, none, op⟩ :: l) :: k) fr h R := AM.op (fun _ _ _ ho hc => YRc ho hc rfl rfl e) g
theorem FnC.wk {P : Program} {g : Nat} {args args' : List AV} {h h' : List AB} {a : AV} (e : FnC P g args h a h') (w : WkL args args') : FnC P g args' h a h' := ⟨e.1, fun ρ w0 vals hr hv => e.2 ρ w0 vals hr (WkL.vl w hv)⟩
abbrev keyF (j : Nat) : AV := .f (.func 148) [] [.p j 0]
theorem X8X {h : List AB} {j mid : Nat} {m : Bool} {l : List ((Int × Int) × AV)} (b1 : XAh h j = some [.m mid]) (hm : h[mid]? = some (mpB dotK m l)) (hl : l.length ≤ 100000) :
  FnAtS Tryz.prog 146 [keyF j] h (cX h l) := by
 obtain ⟨_, body, hb, hcb, hres, _⟩ := Jki qL2
 refine ⟨_, w146, Tryz.func146, qL2, ?_⟩
 unfold w146
 refine AM.go rfl (AM.go rfl (AM.pl rfl (AM.go rfl (AM.go rfl (AM.go rfl (AM.pl rfl (AM.callS rfl (KNe b1 hm hl) fun v h' hx => ?_)))))))
 exact AM.pl rfl (AM.go rfl (AM.ret Tryz.func146 hres rfl hx))
theorem JZP {α : Type} {r : Row α} (id : Nat) {l l' : List α} (e : l.length = l'.length) : apS r id l = apS r id l' := by
 unfold apS
 rw [e]
theorem z16 {o l : Dots} (e : o.Perm l) : srtD o = srtD l := by
 have tr : ∀ (a b c : Int × Int), (!(decide (cmpD b a < 0))) = true → (!(decide (cmpD c b < 0))) = true → (!(decide (cmpD c a < 0))) = true := fun a b c h1 h2 => by
  simp only [Bool.not_eq_true', decide_eq_false_iff_not, qnp] at *
  intro h3
  rcases Y5F b a with q | q | q
  ·exact h1 q
  ·subst q; exact h2 h3
  ·exact h2 (YKM h3 q)
 have to : ∀ (a b : Int × Int), ((!(decide (cmpD b a < 0))) || (!(decide (cmpD a b < 0)))) = true := fun a b => by
  by_cases h1 : cmpD b a < 0
  ·have h2 : ¬ cmpD a b < 0 := fun h2 => zng a (YKM ((qnp _ _).1 h2) ((qnp _ _).1 h1))
   simp [h2]
  ·simp [h1]
 refine List.Perm.eq_of_pairwise (le := fun a b => (!(decide (cmpD b a < 0))) = true) (fun a b _ _ h1 h2 => ?_) (List.pairwise_mergeSort tr to o) (List.pairwise_mergeSort tr to l) (((q0B o).trans e).trans (q0B l).symm)
 simp only [Bool.not_eq_true', decide_eq_false_iff_not, qnp] at h1 h2
 rcases Y5F a b with q | q | q
 ·exact absurd q h2
 ·exact q
 ·exact absurd q h1
def QJo (l : List ((Int × Int) × AV)) : Dots := srtD (l.map (·.1))
theorem zEB {h : List AB} {j mid : Nat} {m : Bool} {l : List ((Int × Int) × AV)} (b1 : XAh h j = some [.m mid]) (hm : h[mid]? = some (mpB dotK m l)) (hl : l.length ≤ 100000) :
  FnAt Tryz.prog 88 [keyF j, .f (.func 90) [] []] h (apS dotR h.length (QJo l)) (h ++ [resB dotR true (QJo l)]) := by
 obtain ⟨_, body, hb, hcb, hres, _⟩ := Jki sw88
 refine FnAtS.one (X := fun a' h'' => a' = apS dotR h.length (QJo l) ∧ h'' = h ++ [resB dotR true (QJo l)]) ⟨_, w88, Tryz.func88, sw88, ?_⟩ fun _ _ e => e
 unfold w88
 refine AM.go rfl (AM.go rfl (AM.pl rfl (AM.go rfl (AM.go rfl (AM.go rfl (AM.pl rfl (AM.callS rfl (X8X b1 hm hl) fun v h' hx => ?_)))))))
 obtain ⟨o, hp, rfl, rfl⟩ := hx
 have hlo : o.length = l.length := by rw [hp.length_eq, List.length_map]
 have hs : FnC Tryz.prog 147 [apS dotR h.length o, .f (.func 90) [] []] (h ++ [resB dotR true o]) (.tu []) (h ++ [resB dotR true (srtD o)]) := by
  have := zVv (h := h ++ [resB dotR true o]) (id := h.length) o (by rw [List.getElem?_append_right (Nat.le_refl _), Nat.sub_self]; rfl) (by omega)
  rw [List.set_append_right _ _ (Nat.le_refl _), Nat.sub_self] at this
  exact this.wk ⟨J2U _ _, Wk.refl _, trivial⟩
 refine AM.pl rfl (AM.go rfl (AM.go rfl (AM.go rfl (AM.pl rfl (AM.pl rfl (AM.op (fun ops i o' ho hc => Yty ho hc rfl rfl rfl rfl hs) ?_))))))
 refine AM.go rfl (AM.go rfl (AM.go rfl (AM.pl rfl (AM.pl rfl (AM.go rfl (AM.ret Tryz.func88 hres rfl ?_))))))
 refine ⟨JZP _ ?_, ?_⟩
 ·rw [QJo, Q0d, List.length_map]; exact hlo
 ·rw [QJo, z16 hp]
end Go.Proofs.YtebcngelgdpbjaaGreat
end
section
namespace Go.Proofs.YtebcngelgdpbjaaGreat
set_option maxRecDepth 100000
def insK (x : Int × Int) : Dots → Dots
 | [] => [x]
 | y :: l => if cmpD x y < 0 then x :: y :: l else y :: insK x l
def ZyQ : Dots → Dots
 | [] => []
 | x :: l => insK x (ZyQ l)
theorem KM7 (x : Int × Int) : ∀ l, (insK x l).Perm (x :: l)
 | [] => .refl _
 | y :: l => by
  unfold insK
  split
  ·exact .refl _
  ·exact ((KM7 x l).cons y).trans (.swap x y l)
theorem J06 : ∀ l, (ZyQ l).Perm l
 | [] => .refl _
 | x :: l => (KM7 x (ZyQ l)).trans ((J06 l).cons x)
def leD (a b : Int × Int) : Prop := ¬ cmpD b a < 0
theorem Z3U {a b c : Int × Int} (h1 : leD a b) (h2 : leD b c) : leD a c := by
 unfold leD at *
 rw [qnp] at *
 intro h3
 rcases Y5F b a with q | q | q
 ·exact h1 q
 ·subst q; exact h2 h3
 ·exact h2 (YKM h3 q)
theorem Qys {a b : Int × Int} (h : cmpD a b < 0) : leD a b := fun h2 => zng a (YKM ((qnp _ _).1 h) ((qnp _ _).1 h2))
theorem Qtb (x : Int × Int) : ∀ l, l.Pairwise leD → (insK x l).Pairwise leD
 | [], _ => List.pairwise_singleton _ _
 | y :: l, h => by
  obtain ⟨h1, h2⟩ := List.pairwise_cons.1 h
  unfold insK
  split
  ·rename_i hc
   refine List.pairwise_cons.2 ⟨fun z hz => ?_, h⟩
   rcases List.mem_cons.1 hz with rfl | hz
   ·exact Qys hc
   ·exact Z3U (Qys hc) (h1 z hz)
  ·rename_i hc
   refine List.pairwise_cons.2 ⟨fun z hz => ?_, Qtb x l h2⟩
   rcases List.mem_cons.1 ((KM7 x l).mem_iff.1 hz) with rfl | hz
   ·exact hc
   ·exact h1 z hz
theorem QjK : ∀ l, (ZyQ l).Pairwise leD
 | [] => List.Pairwise.nil
 | x :: l => Qtb x _ (QjK l)
theorem Zz6 (l : Dots) : ZyQ l = srtD l := by
 have h2 : (srtD l).Pairwise leD := by
  have := List.pairwise_mergeSort (le := fun x y : Int × Int => !(decide (cmpD y x < 0))) (fun a b c h1 h2 => by
   have := Z3U (a := a) (b := b) (c := c) (by simpa [leD] using h1) (by simpa [leD] using h2)
   simpa [leD] using this) (fun a b => by
   by_cases h1 : cmpD b a < 0
   ·have := Qys h1
    simp only [leD] at this
    simp [this]
   ·simp [h1]) l
  refine this.imp fun {a b} h => ?_
  simpa [leD] using h
 refine List.Perm.eq_of_pairwise (le := leD) (fun a b _ _ h1 h2 => ?_) (QjK l) h2 ((J06 l).trans (q0B l).symm)
 unfold leD at h1 h2
 rw [qnp] at h1 h2
 rcases Y5F a b with q | q | q
 ·exact absurd q h2
 ·exact q
 ·exact absurd q h1
def kvD : List AV → Option (List ((Int × Int) × AV))
 | .ag [.i .i64 a, .i .i64 b] :: v :: l => (kvD l).map (((a, b), v) :: ·)
 | [] => some []
 | _ => none
theorem qYe : ∀ {kv : List AV} {l : List ((Int × Int) × AV)}, kvD kv = some l → kv = kvF dotK l
 | [], l, e => by cases e; rfl
 | [x], l, e => by
  have : kvD [x] = none := by
   unfold kvD
   split <;> first | rfl | (rename_i q; cases q)
  rw [this] at e
  cases e
 | x :: v :: kv, l, e => by
  unfold kvD at e
  split at e
  ·rename_i a b v' l' he
   cases he
   obtain ⟨l2, h1, rfl⟩ := Option.map_eq_some_iff.1 e
   rw [qYe h1]
   rfl
  ·rename_i he; cases he
  ·cases e
def qGI : List AV → GT → Nat → Option (AV × HE) := fun args gt hl => match args with
 | [.f (.func f) [] [.p j 0], .f (.func g) [] []] => if f = 148 ∧ g = 90 then
   match gt j with
   | some (.blk _ _ [.m mid]) => match gt mid with
    | some (.mo _ (.map bs c) kv) => (kvD kv).bind fun l => if bs = List.range l.length ∧ c = l.length ∧ l.length ≤ 1000 then some (apS dotR hl (ZyQ (l.map (·.1))), .new (resB dotR true (ZyQ (l.map (·.1))))) else none
    | _ => none
   | _ => none
  else none
 | _ => none
theorem YpG : NvOk Tryz.prog 88 qGI := by
 intro args gt h v e hg q
 unfold qGI at q
 split at q
 ·rename_i f j g
  split at q
  ·rename_i hfg
   obtain ⟨rfl, rfl⟩ := hfg
   split at q
   ·rename_i fl mu mid hj
    split at q
    ·rename_i m bs c kv hm
     obtain ⟨l, hl, q⟩ := Option.bind_eq_some_iff.1 q
     split at q
     ·rename_i hc
      cases q
      obtain ⟨rfl, rfl, hn⟩ := hc
      have hkv := qYe hl
      subst hkv
      have b1 : XAh h j = some [.m mid] := by
       unfold XAh
       rw [ZS7 (hg j) hj]
      have hm' := Qf7 (hg mid) hm
      rw [Zz6]
      exact ⟨(zEB b1 hm' (by omega)).c, trivial⟩
     ·cases q
    ·cases q
   ·cases q
  ·cases q
 ·cases q
end Go.Proofs.YtebcngelgdpbjaaGreat
end
section
namespace Go.Proofs.YtebcngelgdpbjaaGreat
def tl0 : List (Option TC) := [none, none, none, none, none, some (.cf w5), none, none, none, none, some (.cf w10), some (.cf w11), none, none, some (.cf w14), none]
theorem ta0 : AllN Tryz.prog 0 tl0 := (AllN.skip (AllN.skip (AllN.skip (AllN.skip (AllN.skip (AllN.cons Tryz.func5 sw5 (AllN.skip (AllN.skip (AllN.skip (AllN.skip (AllN.cons Tryz.func10 sw10 (AllN.cons Tryz.func11 sw11 (AllN.skip (AllN.skip (AllN.cons Tryz.func14 sw14 (AllN.skip trivial))))))))))))))))
def tl1 : List (Option TC) := [some (.cf w16), none, some (.cf w18), none, none, none, some (.cf w22), some (.cf w23), none, some (.cf w25), none, none, some (.cf w28), some (.cf w29), some (.cf w30), none]
theorem ta1 : AllN Tryz.prog 16 tl1 := (AllN.cons Tryz.func16 sw16 (AllN.skip (AllN.cons Tryz.func18 sw18 (AllN.skip (AllN.skip (AllN.skip (AllN.cons Tryz.func22 sw22 (AllN.cons Tryz.func23 sw23 (AllN.skip (AllN.cons Tryz.func25 sw25 (AllN.skip (AllN.skip (AllN.cons Tryz.func28 sw28 (AllN.cons Tryz.func29 sw29 (AllN.cons Tryz.func30 sw30 (AllN.skip trivial))))))))))))))))
def tl2 : List (Option TC) := [none, some (.cf w33), none, some (.cf w35), none, some (.cf w37), none, none, some (.cf w40), some (.cf w41), none, none, none, none, some (.cf w46), none]
theorem ta2 : AllN Tryz.prog 32 tl2 := (AllN.skip (AllN.cons Tryz.func33 sw33 (AllN.skip (AllN.cons Tryz.func35 sw35 (AllN.skip (AllN.cons Tryz.func37 sw37 (AllN.skip (AllN.skip (AllN.cons Tryz.func40 sw40 (AllN.cons Tryz.func41 sw41 (AllN.skip (AllN.skip (AllN.skip (AllN.skip (AllN.cons Tryz.func46 sw46 (AllN.skip trivial))))))))))))))))
def tl3 : List (Option TC) := [none, none, some (.cf w50), some (.cf w51), some (.cf w52), none, none, none, none, none, some (.cf w58), none, none, none, none, some (.cf w63)]
theorem ta3 : AllN Tryz.prog 48 tl3 := (AllN.skip (AllN.skip (AllN.cons Tryz.func50 sw50 (AllN.cons Tryz.func51 sw51 (AllN.cons Tryz.func52 sw52 (AllN.skip (AllN.skip (AllN.skip (AllN.skip (AllN.skip (AllN.cons Tryz.func58 sw58 (AllN.skip (AllN.skip (AllN.skip (AllN.skip (AllN.cons Tryz.func63 sw63 trivial))))))))))))))))
def tl4 : List (Option TC) := [some (.cf w64), none, none, none, none, none, none, none, some (.cf w72), some (.cf w73), some (.cf w74), some (.cf w75), some (.cf w76), some (.cf w77), some (.cf w78), none]
theorem ta4 : AllN Tryz.prog 64 tl4 := (AllN.cons Tryz.func64 sw64 (AllN.skip (AllN.skip (AllN.skip (AllN.skip (AllN.skip (AllN.skip (AllN.skip (AllN.cons Tryz.func72 sw72 (AllN.cons Tryz.func73 sw73 (AllN.cons Tryz.func74 sw74 (AllN.cons Tryz.func75 sw75 (AllN.cons Tryz.func76 sw76 (AllN.cons Tryz.func77 sw77 (AllN.cons Tryz.func78 sw78 (AllN.skip trivial))))))))))))))))
def tl5 : List (Option TC) := [some (.cf w80), some (.cf w81), some (.cf w82), some (.cf w83), none, none, none, some (.cf w87), some (.nv qGI), some (.cf w89), some (.cf w90), none, some (.cf w92), some (.cf w93), some (.cf w94), none]
theorem ta5 : AllN Tryz.prog 80 tl5 := (AllN.cons Tryz.func80 sw80 (AllN.cons Tryz.func81 sw81 (AllN.cons Tryz.func82 sw82 (AllN.cons Tryz.func83 sw83 (AllN.skip (AllN.skip (AllN.skip (AllN.cons Tryz.func87 sw87 (AllN.nv YpG (AllN.cons Tryz.func89 sw89 (AllN.cons Tryz.func90 sw90 (AllN.skip (AllN.cons Tryz.func92 sw92 (AllN.cons Tryz.func93 sw93 (AllN.cons Tryz.func94 sw94 (AllN.skip trivial))))))))))))))))
def tl6 : List (Option TC) := [none, none, none, none, none, none, some (.cf w102), some (.cf w103), some (.cf w104), some (.cf w105), none, none, none, none, none, none]
theorem ta6 : AllN Tryz.prog 96 tl6 := (AllN.skip (AllN.skip (AllN.skip (AllN.skip (AllN.skip (AllN.skip (AllN.cons Tryz.func102 z7p (AllN.cons Tryz.func103 QOS (AllN.cons Tryz.func104 KZf (AllN.cons Tryz.func105 X58 (AllN.skip (AllN.skip (AllN.skip (AllN.skip (AllN.skip (AllN.skip trivial))))))))))))))))
def tl7 : List (Option TC) := [none, none, none, none, none, none, none, none, none, none, none, some (.cf w123), some (.cf w124), none, none, some (.cf w127)]
theorem ta7 : AllN Tryz.prog 112 tl7 := (AllN.skip (AllN.skip (AllN.skip (AllN.skip (AllN.skip (AllN.skip (AllN.skip (AllN.skip (AllN.skip (AllN.skip (AllN.skip (AllN.cons Tryz.func123 z9i (AllN.cons Tryz.func124 Q7k (AllN.skip (AllN.skip (AllN.cons Tryz.func127 zF3 trivial))))))))))))))))
def tl8 : List (Option TC) := [some (.cf w128), some (.cf w129), some (.cf w130), some (.cf w131), none, none, none, none, some (.cf w136), some (.cf w137), some (.cf w138), some (.cf w139), some (.cf w140), none, some (.cf w142), some (.cf w143)]
theorem ta8 : AllN Tryz.prog 128 tl8 := (AllN.cons Tryz.func128 JCP (AllN.cons Tryz.func129 Xia (AllN.cons Tryz.func130 KUj (AllN.cons Tryz.func131 KFO (AllN.skip (AllN.skip (AllN.skip (AllN.skip (AllN.cons Tryz.func136 XTR (AllN.cons Tryz.func137 JRa (AllN.cons Tryz.func138 KCL (AllN.cons Tryz.func139 XB5 (AllN.cons Tryz.func140 zB4 (AllN.skip (AllN.cons Tryz.func142 zeV (AllN.cons Tryz.func143 Xq5 trivial))))))))))))))))
def tl9 : List (Option TC) := [none, none, none, none, some (.cf w148), some (.cf w149), some (.cf w150), some (.cf w151), none, none, none, none, none, none, none, none]
theorem ta9 : AllN Tryz.prog 144 tl9 := (AllN.skip (AllN.skip (AllN.skip (AllN.skip (AllN.cons Tryz.func148 zqQ (AllN.cons Tryz.func149 z7q (AllN.cons Tryz.func150 QyH (AllN.cons Tryz.func151 Qqk (AllN.skip (AllN.skip (AllN.skip (AllN.skip (AllN.skip (AllN.skip (AllN.skip (AllN.skip trivial))))))))))))))))
def tl10 : List (Option TC) := [none, none, none, none, none, none, some (.cf w166), none, none, none, none, none, none, none, none, none]
theorem ta10 : AllN Tryz.prog 160 tl10 := (AllN.skip (AllN.skip (AllN.skip (AllN.skip (AllN.skip (AllN.skip (AllN.cons Tryz.func166 q5x (AllN.skip (AllN.skip (AllN.skip (AllN.skip (AllN.skip (AllN.skip (AllN.skip (AllN.skip (AllN.skip trivial))))))))))))))))
def tl11 : List (Option TC) := [none, none, none, some (.cf w179), some (.cf w180), some (.cf w181), some (.cf w182), some (.cf w183), some (.cf w184), some (.cf w185), none, none, none, none, none, none]
theorem ta11 : AllN Tryz.prog 176 tl11 := (AllN.skip (AllN.skip (AllN.skip (AllN.cons Tryz.func179 Y00 (AllN.cons Tryz.func180 QBb (AllN.cons Tryz.func181 ZoS (AllN.cons Tryz.func182 Xp9 (AllN.cons Tryz.func183 JWA (AllN.cons Tryz.func184 Ykg (AllN.cons Tryz.func185 Qix (AllN.skip (AllN.skip (AllN.skip (AllN.skip (AllN.skip (AllN.skip trivial))))))))))))))))
def tl12 : List (Option TC) := [none, none, some (.cf w194), some (.cf w195), some (.cf w196), none, none, none, some (.cf w200), some (.cf w201), some (.cf w202), none, none, none, none, none]
theorem ta12 : AllN Tryz.prog 192 tl12 := (AllN.skip (AllN.skip (AllN.cons Tryz.func194 KyG (AllN.cons Tryz.func195 Jxi (AllN.cons Tryz.func196 ZaL (AllN.skip (AllN.skip (AllN.skip (AllN.cons Tryz.func200 XD5 (AllN.cons Tryz.func201 KmQ (AllN.cons Tryz.func202 Zjs (AllN.skip (AllN.skip (AllN.skip (AllN.skip (AllN.skip trivial))))))))))))))))
def tl13 : List (Option TC) := [none, none, some (.cf w210), some (.cf w211), none, none, none, none, none, none, none, none, none, none, some (.cf w222), some (.cf w223)]
theorem ta13 : AllN Tryz.prog 208 tl13 := (AllN.skip (AllN.skip (AllN.cons Tryz.func210 JQV (AllN.cons Tryz.func211 X5g (AllN.skip (AllN.skip (AllN.skip (AllN.skip (AllN.skip (AllN.skip (AllN.skip (AllN.skip (AllN.skip (AllN.skip (AllN.cons Tryz.func222 YFr (AllN.cons Tryz.func223 K47 trivial))))))))))))))))
def tl14 : List (Option TC) := [some (.cf w224), some (.cf w225), some (.cf w226), some (.cf w227), some (.cf w228), some (.cf w229), some (.cf w230), some (.cf w231), some (.cf w232), some (.cf w233), some (.cf w234), none, none, none, none, none]
theorem ta14 : AllN Tryz.prog 224 tl14 := (AllN.cons Tryz.func224 zHO (AllN.cons Tryz.func225 K6v (AllN.cons Tryz.func226 K9w (AllN.cons Tryz.func227 Qdv (AllN.cons Tryz.func228 q6E (AllN.cons Tryz.func229 J73 (AllN.cons Tryz.func230 XNP (AllN.cons Tryz.func231 qRF (AllN.cons Tryz.func232 JXw (AllN.cons Tryz.func233 QRV (AllN.cons Tryz.func234 QEq (AllN.skip (AllN.skip (AllN.skip (AllN.skip (AllN.skip trivial))))))))))))))))
def tl15 : List (Option TC) := [none, none, none, none, none, none, none, none, some (.cf w248), none, none, some (.cf w251), some (.cf w252), none, none, some (.cf w255)]
theorem ta15 : AllN Tryz.prog 240 tl15 := (AllN.skip (AllN.skip (AllN.skip (AllN.skip (AllN.skip (AllN.skip (AllN.skip (AllN.skip (AllN.cons Tryz.func248 YIW (AllN.skip (AllN.skip (AllN.cons Tryz.func251 Xwr (AllN.cons Tryz.func252 JPt (AllN.skip (AllN.skip (AllN.cons Tryz.func255 K3s trivial))))))))))))))))
def tl16 : List (Option TC) := [some (.cf w256), some (.cf w257), some (.cf w258), none, none, none, none, none, none, some (.cf w265), none, some (.cf w267), some (.cf w268), some (.cf w269), none, none]
theorem ta16 : AllN Tryz.prog 256 tl16 := (AllN.cons Tryz.func256 KfX (AllN.cons Tryz.func257 KWS (AllN.cons Tryz.func258 YrS (AllN.skip (AllN.skip (AllN.skip (AllN.skip (AllN.skip (AllN.skip (AllN.cons Tryz.func265 KyE (AllN.skip (AllN.cons Tryz.func267 zmB (AllN.cons Tryz.func268 qew (AllN.cons Tryz.func269 J3T (AllN.skip (AllN.skip trivial))))))))))))))))
def tls : List (List (Option TC)) := [tl0, tl1, tl2, tl3, tl4, tl5, tl6, tl7, tl8, tl9, tl10, tl11, tl12, tl13, tl14, tl15, tl16]
noncomputable def TT : TB := tabn tls
theorem XV7 : Kwg Tryz.prog TT := Znj tls (AllNs.cons ta0 (AllNs.cons ta1 (AllNs.cons ta2 (AllNs.cons ta3 (AllNs.cons ta4 (AllNs.cons ta5 (AllNs.cons ta6 (AllNs.cons ta7 (AllNs.cons ta8 (AllNs.cons ta9 (AllNs.cons ta10 (AllNs.cons ta11 (AllNs.cons ta12 (AllNs.cons ta13 (AllNs.cons ta14 (AllNs.cons ta15 (AllNs.cons ta16 trivial)))))))))))))))))
end Go.Proofs.YtebcngelgdpbjaaGreat
end
section
namespace Go.Proofs.YtebcngelgdpbjaaGreat
theorem ct5 : runT TT 60 w5 = true := by kernel_rfl
theorem fc5 (h : List AB) : FnC Tryz.prog 5 [] h (.b true) h := FnC.closed (by kernel_rfl) XV7 60 5 (by kernel_rfl) ct5 h
end Go.Proofs.YtebcngelgdpbjaaGreat
end
