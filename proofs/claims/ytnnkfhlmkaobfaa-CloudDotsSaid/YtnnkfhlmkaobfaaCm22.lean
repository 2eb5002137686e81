/- Part 22 of what the laws' proofs rest on. No condition. -/
import Derived.Shelf.SlSortCmp.NoneTotal
import Derived.Test.YtnnkfhlmkaobfaaCm21
set_option linter.all false
section
namespace Go.Proofs.Ytnnkfhlmkaobfaa
open Go.Shelf
def sortRen53 : Go.Shelf.Ren := ⟨fun | 6 => 53 | 15 => 73 | 14 => 72 | 28 => 92 | 29 => 93 | 20 => 84 | 21 => 85 | 22 => 86 | 23 => 87 | 24 => 88 | 25 => 89 | 26 => 90 | 27 => 91 | 46 => 99 | 47 => 100 | 48 => 101 | 49 => 102 | 50 => 103 | 57 => 104 | n => n, fun | 22 => 23 | 24 => 37 | 25 => 75 | 3 => 3 | 39 => 90 | 0 => 0 | 53 => 108 | 55 => 110 | 4 => 4 | 46 => 102 | 45 => 101 | 50 => 82 | 5 => 5 | 9 => 9 | 66 => 115 | 70 => 119 | 76 => 121 | 77 => 122 | n => n, fun | n => n⟩
theorem sortLays53 : Go.Proofs.SlLaysF0.n6 Try.prog sortRen53 := {
  mixed := by kernel_rfl
  f6 := ⟨Try.f53.name, by decide, Try.func53.trans (congrArg some (by kernel_rfl))⟩
  f14 := ⟨Try.f72.name, by decide, Try.func72.trans (congrArg some (by kernel_rfl))⟩
  f15 := Try.func73.trans (congrArg some (by kernel_rfl))
  f20 := ⟨Try.f84.name, by decide, Try.func84.trans (congrArg some (by kernel_rfl))⟩
  f21 := ⟨Try.f85.name, by decide, Try.func85.trans (congrArg some (by kernel_rfl))⟩
  f22 := ⟨Try.f86.name, by decide, Try.func86.trans (congrArg some (by kernel_rfl))⟩
  f23 := ⟨Try.f87.name, by decide, Try.func87.trans (congrArg some (by kernel_rfl))⟩
  f24 := ⟨Try.f88.name, by decide, Try.func88.trans (congrArg some (by kernel_rfl))⟩
  f25 := ⟨Try.f89.name, by decide, Try.func89.trans (congrArg some (by kernel_rfl))⟩
  f26 := ⟨Try.f90.name, by decide, Try.func90.trans (congrArg some (by kernel_rfl))⟩
  f27 := ⟨Try.f91.name, by decide, Try.func91.trans (congrArg some (by kernel_rfl))⟩
  f28 := Try.func92.trans (congrArg some (by kernel_rfl))
  f29 := Try.func93.trans (congrArg some (by kernel_rfl))
  f46 := ⟨Try.f99.name, by decide, Try.func99.trans (congrArg some (by kernel_rfl))⟩
  f47 := Try.func100.trans (congrArg some (by kernel_rfl))
  f48 := Try.func101.trans (congrArg some (by kernel_rfl))
  f49 := ⟨Try.f102.name, by decide, Try.func102.trans (congrArg some (by kernel_rfl))⟩
  f50 := ⟨Try.f103.name, by decide, Try.func103.trans (congrArg some (by kernel_rfl))⟩
  f57 := ⟨Try.f104.name, by decide, Try.func104.trans (congrArg some (by kernel_rfl))⟩
  t0 := Try.underlying0
  a0 := Try.isAgg0
  z0 := Try.sizeOf0
  v0 := Try.zeroValue0
  t3 := Try.underlying3
  a3 := Try.isAgg3
  z3 := Try.sizeOf3
  v3 := Try.zeroValue3
  t4 := Try.underlying4
  a4 := Try.isAgg4
  z4 := Try.sizeOf4
  v4 := Try.zeroValue4
  t5 := Try.underlying5
  a5 := Try.isAgg5
  z5 := Try.sizeOf5
  v5 := Try.zeroValue5
  t9 := Try.underlying9
  a9 := Try.isAgg9
  z9 := Try.sizeOf9
  v9 := Try.zeroValue9
  t22 := Try.underlying23
  a22 := Try.isAgg23
  z22 := Try.sizeOf23
  v22 := Try.zeroValue23
  t25 := Try.underlying75
  a25 := Try.isAgg75
  z25 := Try.sizeOf75
  v25 := Try.zeroValue75
  t39 := Try.underlying90
  a39 := Try.isAgg90
  z39 := Try.sizeOf90
  v39 := Try.zeroValue90
  t45 := Try.underlying101
  a45 := Try.isAgg101
  z45 := Try.sizeOf101
  v45 := Try.zeroValue101
  t46 := Try.underlying102
  a46 := Try.isAgg102
  z46 := Try.sizeOf102
  v46 := Try.zeroValue102
  t50 := Try.underlying82
  a50 := Try.isAgg82
  z50 := Try.sizeOf82
  v50 := Try.zeroValue82
  t53 := Try.underlying108
  a53 := Try.isAgg108
  z53 := Try.sizeOf108
  v53 := Try.zeroValue108
  t55 := Try.underlying110
  a55 := Try.isAgg110
  z55 := Try.sizeOf110
  v55 := Try.zeroValue110
  t66 := Try.underlying115
  a66 := Try.isAgg115
  z66 := Try.sizeOf115
  v66 := Try.zeroValue115
  t70 := Try.underlying119
  a70 := Try.isAgg119
  z70 := Try.sizeOf119
  v70 := Try.zeroValue119
  t76 := Try.underlying121
  a76 := Try.isAgg121
  z76 := Try.sizeOf121
  v76 := Try.zeroValue121
  t77 := Try.underlying122
  a77 := Try.isAgg122
  z77 := Try.sizeOf122
  v77 := Try.zeroValue122 }
end Go.Proofs.Ytnnkfhlmkaobfaa
end
section
namespace Go.Proofs.Ytnnkfhlmkaobfaa
open Go.RowKit Go.Shelf Go.Sort
variable {P : Program} {α : Type} {r : Row α}
/-- What is asked of a comparison: it answers cf, on whatever heap. -/
def Cmps (P : Program) (g : Nat) (r : Row α) (cf : α → α → Int) : Prop := ∀ x y (h : List AB), FnC P g [.ag (r.f x), .ag (r.f y)] h (.i .i64 (cf x y)) h
/-- The cells of a thing. -/
def Row.enc (r : Row α) (x : α) : List Value := (r.f x).map AV.val
theorem Cmps.lays [Inhabited α] {g : Nat} {cf : α → α → Int} (hc : Cmps P g r cf) (hfl : ∀ x, ∀ a ∈ r.f x, a.fl = true) (blk off size : Nat) (w : World) : CmpLays P g #[] r.enc r.sz cf blk off size w := by
  intro m os dk _ x y
  generalize sortWorldK r.enc r.sz w blk off m dk os = W
  have hv : VL [] [.ag (r.f x), .ag (r.f y)] #[.agg (r.enc x).toArray, .agg (r.enc y).toArray] :=
    VL.cons (vr_ag (vl_val [] _ (hfl x))) (VL.one (vr_ag (vl_val [] _ (hfl y))))
  rw [Array.append_empty]
  refine ((hc x y []).2 [] W _ (In.nil (K := KC P) W).rel hv).mono ?_
  rintro e w' ⟨v', ρ', rfl, hva, _, heff⟩
  cases hva
  refine ⟨rfl, w'.drawn - W.drawn, w'.heap.extract W.heap.size w'.heap.size, ?_⟩
  have hkeep : ∀ b, b < W.heap.size → w'.heap[b]? = W.heap[b]? := fun b hb => heff.keep b hb fun ⟨i, B, o, h1, _⟩ => by simp at h1
  have hheap : w'.heap = W.heap ++ w'.heap.extract W.heap.size w'.heap.size := by
    apply Array.ext_getElem?
    intro b
    by_cases hb : b < W.heap.size
    · rw [hkeep b hb, Array.getElem?_append_left hb]
    · have := heff.size
      rw [Array.getElem?_append_right (by omega), Array.getElem?_extract]
      split
      · congr 1; omega
      · rw [Array.getElem?_eq_none]; omega
  have hos := heff.os
  have htape := heff.tape
  have hout := heff.output
  obtain ⟨hp, tp, dr, os', ou⟩ := w'
  simp only at hheap hos htape hout
  simp only [Go.Sort.grow, World.drewN, World.mk.injEq]
  exact ⟨hheap, htape, by omega, hos, hout.1⟩
theorem flat_eq [Inhabited α] (l : List α) : flatK r.enc r.sz l.toArray = ((r.cells l).map AV.val).toArray := by
  have hs : (flatK r.enc r.sz l.toArray).size = l.length * r.sz := by simp
  refine ext_get! (by rw [hs]; simp [r.cells_len]) fun t ht => ?_
  rw [hs] at ht
  have hpos := r.pos
  have hdiv : t / r.sz < l.length := (Nat.div_lt_iff_lt_mul hpos).2 ht
  have hmod : t % r.sz < r.sz := Nat.mod_lt _ hpos
  have hg := r.cells_get l (t / r.sz) (t % r.sz) hdiv hmod
  rw [Nat.mul_comm, Nat.div_add_mod] at hg
  rw [get_flatK _ _ _ _ (by simpa using ht)]
  have hlt : t % r.sz < (r.f (l.getD (t / r.sz) r.d)).length := by rw [r.len]; exact hmod
  have e1 : l.toArray[t / r.sz]! = l.getD (t / r.sz) r.d := by
    rw [getElem!_pos _ _ (by simpa using hdiv), List.getD_eq_getElem?_getD, List.getElem?_eq_getElem hdiv]
    simp
  rw [e1]
  have htl : t < (r.cells l).length := by rw [r.cells_len]; exact ht
  rw [List.getElem?_eq_getElem htl, List.getElem?_eq_getElem hlt] at hg
  simp only [Option.some.injEq] at hg
  rw [getElem!_pos _ _ (by simpa [Row.enc] using hlt), getElem!_pos _ _ (by simpa using htl)]
  simp only [Row.enc, List.getElem_map, List.getElem_toArray, hg]
theorem Rel.grown {K : Code → CC → Prop} {ρ : Mp} {h : List AB} {w : World} (i : Rel K ρ h w) (os : Array Obj) : Rel K ρ h (Go.Sort.grow w os) ∧ Eff ρ h w ρ h (Go.Sort.grow w os) := by
  have hk : ∀ b, b < w.heap.size → (Go.Sort.grow w os).heap[b]? = w.heap[b]? := fun b hb => by
    simp only [Go.Sort.grow]
    rw [Array.getElem?_append_left hb]
  refine ⟨⟨i.len, fun j B b o n h1 h2 => (i.blk j B b o n h1 h2).same (Ext.refl _) fun hl => hk b ((i.blk j B b o n h1 h2).lt hl), i.sep⟩, rfl, rfl, ⟨rfl, Nat.le_refl _⟩, by simp [Go.Sort.grow], fun b hb _ => hk b hb, fun _ q => .inl q, fun _ _ q => .inl q⟩
theorem vr_sl_inv {ρ : Mp} {id off len cap : Nat} {k : Option Nat} {v : Value} (e : VR ρ (.sl id off len cap k) v) (h : len ≠ 0) :
    ∃ b o n cap', ρ[id]? = some (b, o, n) ∧ v = .slice (some ⟨b, o + off, none⟩) len cap' ∧ len ≤ cap ∧ cap ≤ cap' ∧ cap' ≤ maxLen ∧ (∀ z, k = some z → z ≠ 0 → o + off + cap' * z ≤ n) := by
  cases e with
  | sl id off len cap k b o n cap' hρ h1 h2 h3 h4 h5 => exact ⟨b, o, n, cap', hρ, rfl, h1, h2, h3, h5⟩
  | sz id off a c hc hn => exact absurd rfl h
theorem vr_sl_inv0 {ρ : Mp} {id off len cap : Nat} {k : Option Nat} {v : Value} (e : VR ρ (.sl id off len cap k) v) (h : len = 0) : ∃ a c, v = .slice a 0 c := by
  cases e with
  | sl id off len cap k b o n cap' hρ h1 h2 h3 h4 h5 => subst h; exact ⟨_, _, rfl⟩
  | sz id off a c hc hn => exact ⟨_, _, rfl⟩
theorem vr_f_inv {ρ : Mp} {g : Nat} {v : Value} (e : VR ρ (.f (.func g) [] []) v) : v = .func (.func g) #[] #[] := by
  cases e with
  | f fn fst cap fst' cap' h0 h1 _ _ =>
    have e1 : fst' = #[] := Array.eq_empty_of_size_eq_zero h0.symm
    have e2 : cap' = #[] := Array.eq_empty_of_size_eq_zero h1.symm
    rw [e1, e2]
theorem vl_two {ρ : Mp} {a b : AV} {vals : Array Value} (h : VL ρ [a, b] vals) : ∃ x y, vals = #[x, y] ∧ VR ρ a x ∧ VR ρ b y := by
  obtain ⟨hs, hv⟩ := h
  obtain ⟨l⟩ := vals
  match l, hs with
  | [x, y], _ => exact ⟨x, y, rfl, hv 0 a x rfl rfl, hv 1 b y rfl rfl⟩
theorem set_same' (h : List AB) (i : Nat) (B : AB) (e : h[i]? = some B) : h.set i B = h := by
  apply List.ext_getElem?
  intro j
  rw [List.getElem?_set]
  split
  · rename_i hij
    subst hij
    split
    · exact e.symm
    · rename_i hlt
      exact absurd (List.getElem?_eq_some_iff.1 e).1 hlt
  · rfl
/-- slices.SortFunc, of a slice that is all of an own block. -/
theorem sort_fnC [Inhabited α] {N : Ren} (L : SlLaysF0.n6 P N) (aE : ∀ w, (isAgg (N.t 24)).run P w = .ok true w) (zE : ∀ w, (Go.sizeOf (N.t 24)).run P w = .ok r.sz w) {cf : α → α → Int} (hO : SWO (ltOf cf))
    (hT : ∀ x y, (ltOf cf) x y = false → (ltOf cf) y x = false → x = y) {g : Nat} (hc : Cmps P g r cf) (hfl : ∀ x, ∀ a ∈ r.f x, a.fl = true) (h1 : ∀ x, ∀ v ∈ r.enc x, v.oneCell' = true)
    {h : List AB} {id : Nat} (l : List α) (hb : h[id]? = some (resB r true l)) (hl : l.length ≤ 1000000) :
    FnC P (N.f 6) [rsl r id l, .f (.func g) [] []] h (.tu []) (h.set id (resB r true (l.mergeSort fun x y => !(ltOf cf) y x))) := by
  obtain ⟨nm, hnm, hf⟩ := L.f6
  refine ⟨⟨_, _, hf, by simpa using hnm, rfl⟩, fun ρ w vals hr hv => ?_⟩
  obtain ⟨v, f, rfl, hv1, hv2⟩ := vl_two hv
  have := vr_f_inv hv2
  subst this
  by_cases h0 : l.length = 0
  · have : l = [] := List.eq_nil_of_length_eq_zero h0
    subst this
    simp only [rsl, List.length_nil, if_true] at hv1
    obtain ⟨a, c, rfl⟩ := vr_sl_inv0 hv1 rfl
    refine (AnyF.slices_SortFunc_none L a c _ w).mono ?_
    rintro e w' ⟨rfl, rfl⟩
    rw [List.mergeSort_nil, set_same' h id _ hb]
    exact ⟨_, ρ, rfl, .tu [] #[] rfl fun j a c q => by simp at q, hr, EffP.refl _ _ _ _⟩
  · simp only [rsl, if_neg h0] at hv1
    obtain ⟨b, o, n, cap', hρ, rfl, _, hlc, hcm, hcap⟩ := vr_sl_inv hv1 h0
    have hB := hr.blk id _ b o n hb hρ
    simp only [resB, if_neg h0, BR] at hB
    obtain ⟨cs, e, fz, hheap, hm, hlen, hcells⟩ := hB
    obtain ⟨rfl, hn⟩ := hm trivial
    have hblk : b < w.heap.size := (Array.getElem?_eq_some_iff.1 hheap).1
    have hall : ∀ a ∈ r.cells l, a.fl = true := fun a ha => by
      obtain ⟨x, _, hx⟩ := List.mem_flatMap.1 ha
      exact hfl x a hx
    have hH : HoldsK r.enc r.sz w b o l.toArray := by
      unfold HoldsK
      rw [flat_eq]
      intro j hj
      have hj' : j < (r.cells l).length := by simpa using hj
      have hoj : o + j < cs.size := by omega
      refine ⟨?_, ?_⟩
      · unfold World.cell?
        simp only [hheap]
        have hv := hcells j _ _ (List.getElem?_eq_getElem hj') (Array.getElem?_eq_getElem hoj)
        rw [getElem!_pos (((r.cells l).map AV.val).toArray) j hj]
        simp only [Option.isSome_none, Bool.false_eq_true, if_false, Array.getElem?_eq_getElem hoj, Option.some.injEq, List.getElem_toArray, List.getElem_map, id_eq]
        exact val_vr (hall _ (List.getElem_mem hj')) hv
      · unfold World.frozen?
        simp only [hheap]
        simp
    obtain ⟨⟨gf, gb, hg1, hg2, hg3⟩, _⟩ := hc r.d r.d []
    have eg : ∀ args w, (callFunc g args).run P w = .ok (.enter g args) w := fun args w => by simp [callFunc, hg1, hg2, hg3]
    have hC := AnyQ.slices_SortFunc_total L r.sz aE zE r.enc (fun x => by simp [Row.enc, r.len]) h1 cf hO g #[] b o cap' l.toArray w eg (hc.lays hfl b o l.toArray.size w) hH hblk (by simp; omega) hT
    refine Calls.mono (show Calls P (N.f 6) #[.slice (some ⟨b, o + 0, none⟩) l.length cap', .func (.func g) #[] #[]] w _ from hC) ?_
    rintro e w' ⟨rfl, n', os, rfl⟩
    rw [List.toList_toArray]
    generalize hl' : (l.mergeSort fun x y => !(ltOf cf) y x) = l'
    have hll : l'.length = l.length := by rw [← hl', List.length_mergeSort]
    have h0' : ¬ l'.length = 0 := by omega
    have hall' : ∀ a ∈ r.cells l', a.fl = true := fun a ha => by
      obtain ⟨x, _, hx⟩ := List.mem_flatMap.1 ha
      exact hfl x a hx
    have hcl : (r.cells l').length = (r.cells l).length := by rw [r.cells_len, r.cells_len, hll]
    have hW : sortWorldK r.enc r.sz w b o n' l'.toArray os = Go.Sort.grow (mapBlock (Go.Sort.ahead w n') b (putCells _root_.id o ((r.cells l').map AV.val).toArray)) os := by
      unfold sortWorldK putRowK putRow
      rw [flat_eq]
    rw [hW]
    have hput := hr.put (w' := mapBlock (Go.Sort.ahead w n') b (putCells _root_.id o ((r.cells l').map AV.val).toArray)) hb (by simp [resB, h0, AB.mut]) hρ (B' := resB r true l') (by
      simp only [resB, if_neg h0', BR]
      refine ⟨putCells _root_.id o ((r.cells l').map AV.val).toArray cs, e, (0, 0), ?_, fun _ => ⟨rfl, by simp [putCells]; exact hn⟩, by simp [putCells, hcl]; exact hlen, fun k a c ha hc' => ?_⟩
      · simp only [mapBlock, Go.Sort.ahead, Array.getElem?_modify, if_true, hheap, Option.map_some, onCells]
      · have hk := (List.getElem?_eq_some_iff.1 ha).1
        have hok : o + k < cs.size := by omega
        have hka : a = (r.cells l')[k] := (List.getElem?_eq_some_iff.1 ha).2.symm
        simp only [putCells, Array.getElem?_mapIdx, Array.getElem?_eq_getElem hok, Option.map_some] at hc'
        rw [if_pos (by constructor <;> simp <;> omega)] at hc'
        simp only [Option.some.injEq, id_eq, Nat.add_sub_cancel_left] at hc'
        rw [getElem!_pos (((r.cells l').map AV.val).toArray) k (by simpa using hk)] at hc'
        simp only [List.getElem_toArray, List.getElem_map] at hc'
        subst hka
        rw [← hc']
        exact vr_val _ (hall' _ (List.getElem_mem hk))) rfl rfl ⟨rfl, Nat.le_add_right _ _⟩ (by simp [mapBlock, Go.Sort.ahead]) (fun k hk => by
      simp only [mapBlock, Go.Sort.ahead, Array.getElem?_modify]
      rw [if_neg (fun q => hk q.symm)]) (fun _ => by simp [resB, h0, AB.live])
    have hgrow := hput.1.grown os
    exact ⟨_, ρ, rfl, .tu [] #[] rfl fun j a c q => by simp at q, hgrow.1, (hput.2.trans hgrow.2).p (Ext.refl _) (by rw [hr.len]; exact Nat.le_refl _)⟩
end Go.Proofs.Ytnnkfhlmkaobfaa
end
section
namespace Go.Proofs.Ytnnkfhlmkaobfaa
open Go.Sort
theorem sort_swo : SWO (ltOf cmpD) := ⟨fun x => by
    unfold ltOf
    rw [decide_eq_false_iff_not, cmpD_lt]
    exact lessD_irrefl x, fun x y z h1 h2 => by
    unfold ltOf at *
    rw [decide_eq_true_eq, cmpD_lt] at *
    exact lessD_trans h1 h2, fun x y z h1 h2 => by
    unfold ltOf at *
    rw [decide_eq_false_iff_not, cmpD_lt] at *
    intro h3
    rcases lessD_tri x y with q | q | q
    · exact h1 q
    · subst q; exact h2 h3
    · exact h2 (lessD_trans q h3)⟩
theorem sort_tot (x y : Int × Int) (h1 : ltOf cmpD x y = false) (h2 : ltOf cmpD y x = false) : x = y := by
  unfold ltOf at *
  rw [decide_eq_false_iff_not, cmpD_lt] at *
  rcases lessD_tri x y with q | q | q
  · exact absurd q h1
  · exact q
  · exact absurd q h2
theorem compare_cmps : Cmps Try.prog 54 dotR cmpD := fun x y h => compare_spec _ _ _ _ (by rw [dotR_f, dotR_f]; rfl)
theorem dot_one (x : Int × Int) : ∀ v ∈ dotR.enc x, v.oneCell' = true := fun v hv => by
  simp only [Row.enc, dotR_f, List.map_cons, List.map_nil, AV.val, List.mem_cons, List.not_mem_nil, or_false] at hv
  rcases hv with rfl | rfl <;> rfl
theorem Sort_spec : Spec Try.prog 53 T_Sort := by
  intro args h v h' e
  unfold T_Sort at e
  split at e
  · rename_i s
    obtain ⟨l, hs, e⟩ := getS_bind e
    split at e
    · rename_i id hid
      split at e
      · rename_i hc
        cases e
        obtain ⟨h1, rfl, h3⟩ := hc
        exact sort_fnC (r := dotR) sortLays53 Try.isAgg37 Try.sizeOf37 sort_swo sort_tot compare_cmps dot_fl dot_one l h3 h1
      · cases e
    · cases e
  · cases e
theorem Make_spec : Spec Try.prog 19 T_cMake := cMake_spec Sort_spec
end Go.Proofs.Ytnnkfhlmkaobfaa
end
section
namespace Go.Proofs.Ytnnkfhlmkaobfaa
set_option maxRecDepth 100000
set_option maxHeartbeats 4000000
set_option linter.unusedSimpArgs false
theorem cCheck_spec : Spec Try.prog 23 (T_chk checkR) := by
  intro args h v h' e
  unfold T_chk at e
  split at e
  · rename_i s t
    obtain ⟨vs, hs, e⟩ := getS_bind e
    obtain ⟨ds, ht, e⟩ := getS_bind e
    cases e
    refine FnAt.c (FnAt.run (by kernel_rfl) (T := ⟨[⟨51, T_ranged, fun _ => []⟩, ⟨19, T_cMake, fun _ => []⟩, ⟨57, T_EqInts, fun _ => []⟩, ⟨58, T_EqDots, fun _ => []⟩], []⟩) ⟨⟨ranged_spec, Make_spec, EqInts_spec, EqDots_spec, trivial⟩, trivial⟩ Try.func23 sw23 fun ho hh => ?_)
    simp only [okL_cons, ok_ag, Bool.and_eq_true] at ho
    have f1 := hs.fx ho.1.1 (sz := 1) rfl
    have f2 := ht.fx ho.1.2.1 (sz := 2) rfl
    unfold w23
    by_cases hr : rangedP vs ds
    · have gr := eq_true hr
      by_cases h1 : 4096 < ds.length
      · have g1 : ((4096 : Int) < (ds.length : Int)) = True := eq_true (by omega)
        simp only [rep_0, rep_s, walkW, ld_own, lda_own, st_own, sta_own, len_app, if_true, if_false, reduceIte, Nat.reduceAdd, Nat.reduceSub, Nat.reduceLeDiff, Nat.reduceEqDiff, Nat.reduceMul, Nat.reduceLT, Int.reduceLT, Int.reduceLE, Int.reduceEq, rsl_get, srcV_own, false_implies, f1, f2, T_ranged, gr, g1]
        exact Bt.dropI _ hh (by simp only [checkR, gr, not_true_eq_false, if_false]; rw [if_pos h1])
      · have g1 : ((4096 : Int) < (ds.length : Int)) = False := eq_false (by omega)
        have g2 : (ds.length ≤ 100000) = True := eq_true (by omega)
        by_cases h6 : (fmO vs ds).2.length ≤ 4096
        · have g6 := eq_true h6
          have g7 : ((fmO vs ds).1.length ≤ maxLen) = True := eq_true (by
            have := topI_le (fmR vs (layR ds)).1 16
            simp only [fmO, List.length_take]
            unfold maxLen
            omega)
          have g8 : ((fmO vs ds).2.length ≤ maxLen) = True := eq_true (by unfold maxLen; omega)
          simp only [rep_0, rep_s, walkW, ld_own, lda_own, st_own, sta_own, len_app, if_true, if_false, reduceIte, Nat.reduceAdd, Nat.reduceSub, Nat.reduceLeDiff, Nat.reduceEqDiff, Nat.reduceMul, Nat.reduceLT, Int.reduceLT, Int.reduceLE, Int.reduceEq, rsl_get, srcV_own, false_implies, f1, f2, T_ranged, gr, g1, g2, g6, g7, g8, T_cMake, T_EqInts, T_EqDots]
          have g9 : ¬ 4096 < ds.length := h1
          have gp : (fmO vs ds = (vs, ds)) ↔ ((fmO vs ds).1 = vs ∧ (fmO vs ds).2 = ds) := Prod.ext_iff
          refine ⟨fun q => ?_, fun q => ⟨fun z => ?_, fun z => ?_⟩⟩
          · exact Bt.dropI _ hh (by simp only [checkR, gr, not_true_eq_false, if_false, if_neg g9, if_neg (fun e => q (gp.1 e).1)])
          · exact Bt.dropI _ hh (by simp only [checkR, gr, not_true_eq_false, if_false, if_neg g9, if_neg (fun e => z (gp.1 e).2)])
          · exact Bt.dropI _ hh (by simp only [checkR, gr, not_true_eq_false, if_false, if_neg g9]; rw [if_pos (gp.2 ⟨Decidable.not_not.1 q, Decidable.not_not.1 z⟩)])
        · have g6 := eq_false h6
          simp only [rep_0, rep_s, walkW, ld_own, lda_own, st_own, sta_own, len_app, if_true, if_false, reduceIte, Nat.reduceAdd, Nat.reduceSub, Nat.reduceLeDiff, Nat.reduceEqDiff, Nat.reduceMul, Nat.reduceLT, Int.reduceLT, Int.reduceLE, Int.reduceEq, rsl_get, srcV_own, false_implies, f1, f2, T_ranged, gr, g1, g2, g6, T_cMake, T_EqInts, T_EqDots]
          have g9 : ¬ 4096 < ds.length := h1
          exact Bt.dropI _ hh (by simp only [checkR, gr, not_true_eq_false, if_false, if_neg g9]; rw [if_neg]; intro e; rw [e] at h6; exact h6 (Nat.le_of_not_lt h1))
    · have gr := eq_false hr
      simp only [rep_0, rep_s, walkW, ld_own, lda_own, st_own, sta_own, len_app, if_true, if_false, reduceIte, Nat.reduceAdd, Nat.reduceSub, Nat.reduceLeDiff, Nat.reduceEqDiff, Nat.reduceMul, Nat.reduceLT, Int.reduceLT, Int.reduceLE, Int.reduceEq, rsl_get, srcV_own, false_implies, f1, f2, T_ranged, gr]
      exact Bt.dropI _ hh (by simp only [checkR, gr, not_false_eq_true, if_true])
  · cases e
end Go.Proofs.Ytnnkfhlmkaobfaa
end
section
namespace Go.Proofs.Ytnnkfhlmkaobfaa
set_option maxRecDepth 100000
set_option maxHeartbeats 4000000
set_option linter.unusedSimpArgs false
/-- Is the next dot the second one's? -/
def takeB (la lb : Dots) : Prop := la.length = 0 ∨ (0 < lb.length ∧ cmpD (lb.getD 0 dotR.d) (la.getD 0 dotR.d) < 0)
instance (la lb : Dots) : Decidable (takeB la lb) := by unfold takeB; infer_instance
def mrgD : Nat → Dots → Dots → Dots
  | 0, _, _ => []
  | n + 1, la, lb => if takeB la lb then lb.getD 0 dotR.d :: mrgD n la (lb.drop 1) else la.getD 0 dotR.d :: mrgD n (la.drop 1) lb
def jA : CC := CC.reg 6 [{ dst := some 8, guard := none, op := CO.new true [AV.i (.i64) 0, AV.i (.i64) 0] }, { dst := none, guard := none, op := CO.st (some 2) (Opd.t 8) (Opd.t 21) }]
def jB : CC := CC.block 1 (CC.reg 7 [{ dst := some 22, guard := none, op := CO.ld none (Opd.t 7) }, { dst := some 23, guard := none, op := CO.ld (some 2) (Opd.t 8) }, { dst := some 24, guard := none, op := CO.bls true 1 [AV.i (.i64) 0, AV.i (.i64) 0] [(0, 2, Opd.t 23)] }, { dst := some 25, guard := none, op := CO.app false true 2 16 (Opd.t 22) (Opd.t 24) }, { dst := none, guard := none, op := CO.st none (Opd.t 7) (Opd.t 25) }])
def jFr (p : Nat) (s t s' t' : AV) : List AV := [.ag [s, t], .ag [s', t'], .p (p + 0) 0, .p (p + 1) 0, .p (p + 2) 0, .i .i64 0, .i .i64 0, .p (p + 3) 0, .tu [], .ag [s, t], .ag [s', t'], .i .i64 0, .i .i64 0, .b false, .tu [], .tu [], .p (p + 0) 1, t, .p (p + 1) 1, t', .f (.func 61) [] [.p (p + 4) 0, .p (p + 5) 0], .tu [], .tu [], .tu [], .tu [], .tu [], .tu [], .tu [], .tu [], .tu [], .tu [], .tu [], .tu [], .tu [], .tu [], .tu [], .tu [], .tu [], .tu [], .tu []]
def jL (p : Nat) (s t s' t' acc sa sb : AV) (B : AB) : List AB := [.blk false true [s, t], .blk false true [s', t'], .blk false true [.ns, .ns], .blk false true [acc], .blk false true [sa], .blk false true [sb], .lp .ready .n (jFr p s t s' t') [21] jA jB, B]
theorem join_round (h : List AB) (s t s' t' sa sb : AV) (l : Dots) (a b : Int) (hl : l.length ≤ 1000000) :
    RdAt' Try.prog (h.length + 6) [.ag [.i .i64 a, .i .i64 b]] (h ++ jL h.length s t s' t' (apS dotR (h.length + 7) l) sa sb (resB dotR true l)) (.b true)
      (h ++ (jL h.length s t s' t' (.sl (h.length + 10) 0 (l.length + 1) (l.length + 1) (some 2)) sa sb .dead ++ [.blk true true [.i .i64 a, .i .i64 b], .blk true true [.i .i64 a, .i .i64 b], .blk true true (dotR.cells l ++ [.i .i64 a, .i .i64 b])])) := by
  have e1 := fun L hL => appW_ap (h := h) (r := dotR) (sz := 2) rfl L 7 l 16 1 [.i .i64 a, .i .i64 b] hL (by decide) (by omega) (by unfold maxLen; omega)
  refine RdAt'.run (by kernel_rfl) (T := ⟨[], []⟩) ⟨trivial, trivial⟩ (by rw [own_at]; rfl) rfl ?_
  simp only [jFr, setPs, jA, jL, walkW, ld_own, lda_own, st_own, sta_own, len_app, if_true, if_false, reduceIte, Nat.reduceAdd, Nat.reduceSub, Nat.reduceLeDiff, Nat.reduceEqDiff, Nat.reduceMul, Nat.reduceLT, Int.reduceLT, Int.reduceLE, Int.reduceEq, rsl_get, srcV_own]
  refine ⟨_, _, _, _, _, by rw [own_at]; rfl, ?_⟩
  simp only [jB, walkW, ld_own, lda_own, st_own, sta_own, len_app, if_true, if_false, reduceIte, Nat.reduceAdd, Nat.reduceSub, Nat.reduceLeDiff, Nat.reduceEqDiff, Nat.reduceMul, Nat.reduceLT, Int.reduceLT, Int.reduceLE, Int.reduceEq, rsl_get, srcV_own, e1]
  exact ⟨_, _, _, _, _, _, by rw [own_at]; rfl, rfl, by unfold rdEnd; dsimp only; rw [set_own]; rfl⟩
/-- A part that came in, az the iterator holds it. -/
structure Prt (h : List AB) (s : AV) (l : Dots) : Prop where
  rd : Rd dotR h s l
  cap : s.capOk = true
  ok : s.ok (fun i => decide (i < h.length)) = true
theorem slL_cap {sz i : Nat} {s s' : AV} (e : slL sz s (some (.i .i64 (i : Int))) none none = some s') (hc : s.capOk = true) (hl : ∀ n, lenV s = some (n : Int) → i ≤ n) : s'.capOk = true := by
  cases s with
  | sl id off n c k =>
    have hi := hl n rfl
    simp only [AV.capOk, decide_eq_true_eq] at hc
    have hb : bnd 0 n (some (.i .i64 (i : Int))) = some i := by
      simp only [bnd]
      rw [if_pos (by omega)]
      rfl
    have hb0 : bnd n c none = some n := rfl
    simp only [slL, hb, hb0, Option.bind_some, Option.map_some, Option.some.injEq] at e
    subst e
    split
    · simpa only [AV.capOk, decide_eq_true_eq] using hc
    · split
      · simp only [AV.capOk, decide_eq_true_eq]
        omega
      · split <;> rfl
  | ns =>
    simp only [slL] at e
    obtain ⟨x, h1, e⟩ := Option.bind_eq_some_iff.1 e
    obtain ⟨y, h2, e⟩ := Option.map_eq_some_iff.1 e
    subst e
    rfl
  | se =>
    simp only [slL] at e
    obtain ⟨x, h1, e⟩ := Option.bind_eq_some_iff.1 e
    obtain ⟨y, h2, e⟩ := Option.map_eq_some_iff.1 e
    subst e
    rfl
  | _ => cases e
theorem jL_ok {h : List AB} (hh : HOk h) {s t s' t' sa sb : AV} (os : s.ok (fun i => decide (i < h.length)) = true) (ot : t.ok (fun i => decide (i < h.length)) = true) (os' : s'.ok (fun i => decide (i < h.length)) = true) (ot' : t'.ok (fun i => decide (i < h.length)) = true)
    (oa : sa.ok (fun i => decide (i < h.length)) = true) (ob : sb.ok (fun i => decide (i < h.length)) = true) (l : Dots) : HOk (h ++ jL h.length s t s' t' (apS dotR (h.length + 7) l) sa sb (resB dotR true l)) := by
  have up : ∀ {x : AV}, x.ok (fun i => decide (i < h.length)) = true → x.ok (fun i => decide (i < h.length + 8)) = true := fun {x} hx => AV.ok_mono (fun i q => by simp only [decide_eq_true_eq] at q ⊢; omega) _ hx
  have e1 := up os
  have e2 := up ot
  have e3 := up os'
  have e4 := up ot'
  have e5 := up oa
  have e6 := up ob
  have e7 : (apS dotR (h.length + 7) l).ok (fun i => decide (i < h.length + 8)) = true := apS_ok _ _ _ (by simp)
  rw [HOk_own hh]
  simp only [jL, jFr, List.all_cons, List.all_nil, List.length_cons, List.length_nil, Nat.zero_add, Nat.reduceAdd, abok_f, abok_t, abok_lp, abok_d, okL_cons, okL_nil, ok_ag, ok_p, ok_i, ok_b, ok_f, ok_tu, ok_ns, e1, e2, e3, e4, e5, e6, e7, resB_ok, Bool.and_true, Bool.and_eq_true, decide_eq_true_eq, true_and, and_true]
  simp
theorem Bt.dropJ {P : Program} {h F L : List AB} {v : AV} (hk : HOk (h ++ F)) (hok : v.ok (fun i => decide (i < (h ++ F).length)) = true) : Bt P (h.length + F.length) [v] (h ++ (F ++ L)) [v] (h ++ F) := by
  have := Bt.drop (P := P) (a := v) L hk rfl hok
  rwa [List.append_assoc, List.length_append] at this
theorem least_at (h : List AB) (hz : h.map AB.freeze = h) (hh : HOk h) {s t s' t' sa sb : AV} {v v' : List Int} {ds ds' la lb : Dots} (hs : Rd intR h s v) (ht : Rd dotR h t ds) (hs' : Rd intR h s' v') (ht' : Rd dotR h t' ds')
    (os : s.ok (fun i => decide (i < h.length)) = true) (ot : t.ok (fun i => decide (i < h.length)) = true) (os' : s'.ok (fun i => decide (i < h.length)) = true) (ot' : t'.ok (fun i => decide (i < h.length)) = true)
    (pa : Prt h sa la) (pb : Prt h sb lb) (l : Dots) (hn : la.length + lb.length ≠ 0) :
    if takeB la lb then ∃ sb', Prt h sb' (lb.drop 1) ∧ FnAt Try.prog 62 [.p (h.length + 4) 0, .p (h.length + 5) 0] (h ++ jL h.length s t s' t' (apS dotR (h.length + 7) l) sa sb (resB dotR true l)) (.ag (dotR.f (lb.getD 0 dotR.d))) (h ++ jL h.length s t s' t' (apS dotR (h.length + 7) l) sa sb' (resB dotR true l))
    else ∃ sa', Prt h sa' (la.drop 1) ∧ FnAt Try.prog 62 [.p (h.length + 4) 0, .p (h.length + 5) 0] (h ++ jL h.length s t s' t' (apS dotR (h.length + 7) l) sa sb (resB dotR true l)) (.ag (dotR.f (la.getD 0 dotR.d))) (h ++ jL h.length s t s' t' (apS dotR (h.length + 7) l) sa' sb (resB dotR true l)) := by
  have f1 := hs.fx os (sz := 1) rfl
  have f2 := ht.fx ot (sz := 2) rfl
  have f3 := hs'.fx os' (sz := 1) rfl
  have f4 := ht'.fx ot' (sz := 2) rfl
  have f5 := pa.rd.fx pa.ok (sz := 2) rfl
  have f6 := pb.rd.fx pb.ok (sz := 2) rfl
  have t0 : (0 : Int).toNat = 0 := rfl
  by_cases h1 : la.length = 0
  · have hb : 0 < lb.length := by omega
    rw [if_pos (.inl h1)]
    obtain ⟨sb', e1, e2, e3⟩ := pb.rd.dropS pb.cap (i := 1) (by omega) (sz := 2) rfl
    have o1 := e3 _ pb.ok
    refine ⟨sb', ⟨e2, slL_cap e1 pb.cap fun n q => by have := q.symm.trans pb.rd.len; simp only [Option.some.injEq] at this; omega, o1⟩, ?_⟩
    have e4 : slL 2 sb (some (.i .i64 1)) none none = some sb' := e1
    have hI : ((0 : Int) < (lb.length : Int)) = True := eq_true (by omega)
    refine FnAt.run (by kernel_rfl) (T := ⟨[⟨54, T_compare, fun _ => []⟩], []⟩) ⟨⟨compare_spec, trivial⟩, trivial⟩ Try.func62 sw62 fun _ _ => ?_
    have hk := jL_ok hh os ot os' ot' pa.ok o1 l
    unfold w62
    simp only [t0, hI, jL, jFr, jA, jB, rep_0, rep_s, walkW, walkD, ld_own, lda_own, st_own, sta_own, len_app, if_true, if_false, reduceIte, Nat.reduceAdd, Nat.reduceSub, Nat.reduceLeDiff, Nat.reduceEqDiff, Nat.reduceMul, Nat.reduceLT, Int.reduceLT, Int.reduceLE, Int.reduceEq, rsl_get, srcV_own, merge_own, drop_own, getD_own, CO.tmps, Opd.tmps, optT, Nat.reducePow, Nat.reduceDiv, Nat.reduceMod, f1, f2, f3, f4, f5, f6, T_compare, HOk_own hh, mask_own hz, h1, hb, dotR_f, e4, sl_one e2.isSl, sl_cells e2.isSl]
    exact Bt.dropJ hk rfl
  · have ha : 0 < la.length := by omega
    have hIa : ((0 : Int) < (la.length : Int)) = True := eq_true (by omega)
    have h1' : ((la.length : Int) = 0) = False := eq_false (by omega)
    by_cases h2 : lb.length = 0
    · rw [if_neg (fun q => q.elim h1 fun z => by omega)]
      obtain ⟨sa', e1, e2, e3⟩ := pa.rd.dropS pa.cap (i := 1) (by omega) (sz := 2) rfl
      have o1 := e3 _ pa.ok
      refine ⟨sa', ⟨e2, slL_cap e1 pa.cap fun n q => by have := q.symm.trans pa.rd.len; simp only [Option.some.injEq] at this; omega, o1⟩, ?_⟩
      have e4 : slL 2 sa (some (.i .i64 1)) none none = some sa' := e1
      refine FnAt.run (by kernel_rfl) (T := ⟨[⟨54, T_compare, fun _ => []⟩], []⟩) ⟨⟨compare_spec, trivial⟩, trivial⟩ Try.func62 sw62 fun _ _ => ?_
      have hk := jL_ok hh os ot os' ot' o1 pb.ok l
      have h2' : ((0 : Int) < (lb.length : Int)) = False := eq_false (by omega)
      unfold w62
      simp only [t0, hIa, h1', h2', jL, jFr, jA, jB, rep_0, rep_s, walkW, walkD, ld_own, lda_own, st_own, sta_own, len_app, if_true, if_false, reduceIte, Nat.reduceAdd, Nat.reduceSub, Nat.reduceLeDiff, Nat.reduceEqDiff, Nat.reduceMul, Nat.reduceLT, Int.reduceLT, Int.reduceLE, Int.reduceEq, rsl_get, srcV_own, merge_own, drop_own, getD_own, CO.tmps, Opd.tmps, optT, Nat.reducePow, Nat.reduceDiv, Nat.reduceMod, f1, f2, f3, f4, f5, f6, T_compare, HOk_own hh, mask_own hz, ha, dotR_f, e4, sl_one e2.isSl, sl_cells e2.isSl]
      exact Bt.dropJ hk rfl
    · have hb : 0 < lb.length := by omega
      have hIb : ((0 : Int) < (lb.length : Int)) = True := eq_true (by omega)
      by_cases h3 : cmpD (lb.getD 0 dotR.d) (la.getD 0 dotR.d) < 0
      · rw [if_pos (.inr ⟨hb, h3⟩)]
        obtain ⟨sb', e1, e2, e3⟩ := pb.rd.dropS pb.cap (i := 1) (by omega) (sz := 2) rfl
        have o1 := e3 _ pb.ok
        refine ⟨sb', ⟨e2, slL_cap e1 pb.cap fun n q => by have := q.symm.trans pb.rd.len; simp only [Option.some.injEq] at this; omega, o1⟩, ?_⟩
        have e4 : slL 2 sb (some (.i .i64 1)) none none = some sb' := e1
        refine FnAt.run (by kernel_rfl) (T := ⟨[⟨54, T_compare, fun _ => []⟩], []⟩) ⟨⟨compare_spec, trivial⟩, trivial⟩ Try.func62 sw62 fun _ _ => ?_
        have hk := jL_ok hh os ot os' ot' pa.ok o1 l
        have g3 := eq_true h3
        unfold w62
        simp only [t0, hIa, hIb, h1', g3, pr_eta, jL, jFr, jA, jB, rep_0, rep_s, walkW, walkD, ld_own, lda_own, st_own, sta_own, len_app, if_true, if_false, reduceIte, Nat.reduceAdd, Nat.reduceSub, Nat.reduceLeDiff, Nat.reduceEqDiff, Nat.reduceMul, Nat.reduceLT, Int.reduceLT, Int.reduceLE, Int.reduceEq, rsl_get, srcV_own, merge_own, drop_own, getD_own, CO.tmps, Opd.tmps, optT, Nat.reducePow, Nat.reduceDiv, Nat.reduceMod, f1, f2, f3, f4, f5, f6, T_compare, HOk_own hh, mask_own hz, ha, hb, dotR_f, e4, sl_one e2.isSl, sl_cells e2.isSl]
        exact Bt.dropJ hk rfl
      · rw [if_neg (fun q => q.elim h1 fun z => h3 z.2)]
        obtain ⟨sa', e1, e2, e3⟩ := pa.rd.dropS pa.cap (i := 1) (by omega) (sz := 2) rfl
        have o1 := e3 _ pa.ok
        refine ⟨sa', ⟨e2, slL_cap e1 pa.cap fun n q => by have := q.symm.trans pa.rd.len; simp only [Option.some.injEq] at this; omega, o1⟩, ?_⟩
        have e4 : slL 2 sa (some (.i .i64 1)) none none = some sa' := e1
        refine FnAt.run (by kernel_rfl) (T := ⟨[⟨54, T_compare, fun _ => []⟩], []⟩) ⟨⟨compare_spec, trivial⟩, trivial⟩ Try.func62 sw62 fun _ _ => ?_
        have hk := jL_ok hh os ot os' ot' o1 pb.ok l
        have g3 := eq_false h3
        unfold w62
        simp only [t0, hIa, hIb, h1', g3, pr_eta, jL, jFr, jA, jB, rep_0, rep_s, walkW, walkD, ld_own, lda_own, st_own, sta_own, len_app, if_true, if_false, reduceIte, Nat.reduceAdd, Nat.reduceSub, Nat.reduceLeDiff, Nat.reduceEqDiff, Nat.reduceMul, Nat.reduceLT, Int.reduceLT, Int.reduceLE, Int.reduceEq, rsl_get, srcV_own, merge_own, drop_own, getD_own, CO.tmps, Opd.tmps, optT, Nat.reducePow, Nat.reduceDiv, Nat.reduceMod, f1, f2, f3, f4, f5, f6, T_compare, HOk_own hh, mask_own hz, ha, hb, dotR_f, e4, sl_one e2.isSl, sl_cells e2.isSl]
        exact Bt.dropJ hk rfl
end Go.Proofs.Ytnnkfhlmkaobfaa
end
section
namespace Go.Proofs.Ytnnkfhlmkaobfaa
set_option maxRecDepth 100000
set_option maxHeartbeats 4000000
set_option linter.unusedSimpArgs false
abbrev jH (h : List AB) (s t s' t' sa sb : AV) (l : Dots) : List AB := h ++ jL h.length s t s' t' (apS dotR (h.length + 7) l) sa sb (resB dotR true l)
theorem jH_inj {h : List AB} {s t s' t' sa sb sa' sb' : AV} {l l' : Dots} (e : jH h s t s' t' sa sb l = jH h s t s' t' sa' sb' l') : sa = sa' ∧ sb = sb' ∧ l = l' := by
  replace e := List.append_cancel_left e
  simp only [jL, List.cons.injEq, AB.blk.injEq, and_true, true_and] at e
  obtain ⟨e1, e2, e3, e4⟩ := e
  exact ⟨e2, e3, apS_inj e1 e4⟩
def leastR (h : List AB) (s t s' t' sa sb : AV) (la lb l : Dots) (x : AV × List AB) : Prop :=
  if takeB la lb then ∃ sb', Prt h sb' (lb.drop 1) ∧ x = (.ag (dotR.f (lb.getD 0 dotR.d)), jH h s t s' t' sa sb' l)
  else ∃ sa', Prt h sa' (la.drop 1) ∧ x = (.ag (dotR.f (la.getD 0 dotR.d)), jH h s t s' t' sa' sb l)
def leastQ (h : List AB) (s t s' t' : AV) (hh : List AB) (x : AV × List AB) : Prop :=
  ∃ sa sb la lb l, Prt h sa la ∧ Prt h sb lb ∧ hh = jH h s t s' t' sa sb l ∧ leastR h s t s' t' sa sb la lb l x ∧ FnAt Try.prog 62 [.p (h.length + 4) 0, .p (h.length + 5) 0] hh x.1 x.2
open Classical in
noncomputable def leastT (h : List AB) (s t s' t' : AV) : List AV → List AB → Option (AV × List AB) := fun args hh =>
  if c : args = [.p (h.length + 4) 0, .p (h.length + 5) 0] ∧ ∃ x, leastQ h s t s' t' hh x then some (Classical.choose c.2) else none
theorem leastT_spec (h : List AB) (s t s' t' : AV) : Spec Try.prog 62 (leastT h s t s' t') := by
  intro args hh v h' e
  unfold leastT at e
  split at e
  · rename_i c
    obtain ⟨rfl, hx⟩ := c
    obtain ⟨sa, sb, la, lb, l, _, _, _, _, q⟩ := Classical.choose_spec hx
    have e' := Option.some.inj e
    rw [e'] at q
    exact q.c
  · cases e
theorem leastT_eq {h : List AB} {s t s' t' sa sb : AV} {la lb l : Dots} (pa : Prt h sa la) (pb : Prt h sb lb) (hx : ∃ x, leastR h s t s' t' sa sb la lb l x ∧ FnAt Try.prog 62 [.p (h.length + 4) 0, .p (h.length + 5) 0] (jH h s t s' t' sa sb l) x.1 x.2) :
    ∃ x, leastT h s t s' t' [.p (h.length + 4) 0, .p (h.length + 5) 0] (jH h s t s' t' sa sb l) = some x ∧ leastR h s t s' t' sa sb la lb l x := by
  obtain ⟨x, hr, hf⟩ := hx
  have c : ([.p (h.length + 4) 0, .p (h.length + 5) 0] : List AV) = [.p (h.length + 4) 0, .p (h.length + 5) 0] ∧ ∃ x, leastQ h s t s' t' (jH h s t s' t' sa sb l) x := ⟨rfl, x, sa, sb, la, lb, l, pa, pb, rfl, hr, hf⟩
  refine ⟨Classical.choose c.2, by unfold leastT; rw [dif_pos c], ?_⟩
  obtain ⟨sa2, sb2, la2, lb2, l2, pa2, pb2, e, hr2, _⟩ := Classical.choose_spec c.2
  obtain ⟨rfl, rfl, rfl⟩ := jH_inj e
  have e1 := pa.rd.inj pa2.rd
  have e2 := pb.rd.inj pb2.rd
  subst e1 e2
  exact hr2
def joinR (h : List AB) (s t s' t' sa sb : AV) (l : Dots) (a b : Int) : List AB := h ++ (jL h.length s t s' t' (.sl (h.length + 10) 0 (l.length + 1) (l.length + 1) (some 2)) sa sb .dead ++ [.blk true true [.i .i64 a, .i .i64 b], .blk true true [.i .i64 a, .i .i64 b], .blk true true (dotR.cells l ++ [.i .i64 a, .i .i64 b])])
def joinQ (h : List AB) (s t s' t' : AV) (a b : Int) (hh r : List AB) : Prop := ∃ sa sb l, l.length ≤ 1000000 ∧ hh = jH h s t s' t' sa sb l ∧ r = joinR h s t s' t' sa sb l a b
open Classical in
noncomputable def joinT (h : List AB) (s t s' t' : AV) : List AV → List AB → Option (AV × List AB)
  | [.ag [.i .i64 a, .i .i64 b]], hh => if c : ∃ r, joinQ h s t s' t' a b hh r then some (.b true, c.choose) else none
  | _, _ => none
theorem joinT_eq (h : List AB) (s t s' t' sa sb : AV) (l : Dots) (a b : Int) (hl : l.length ≤ 1000000) : joinT h s t s' t' [.ag [.i .i64 a, .i .i64 b]] (jH h s t s' t' sa sb l) = some (.b true, joinR h s t s' t' sa sb l a b) := by
  have hc : ∃ r, joinQ h s t s' t' a b (jH h s t s' t' sa sb l) r := ⟨_, sa, sb, l, hl, rfl, rfl⟩
  obtain ⟨sa', sb', l', _, e, e5⟩ := hc.choose_spec
  obtain ⟨rfl, rfl, rfl⟩ := jH_inj e
  simp only [joinT]
  rw [dif_pos hc, e5]
theorem joinT_spec (h : List AB) (s t s' t' : AV) : SpecR Try.prog (h.length + 6) (joinT h s t s' t') := by
  intro args hh v h' e
  unfold joinT at e
  split at e
  · rename_i a b
    split at e
    · rename_i hc
      cases e
      obtain ⟨sa, sb, l, h1, h2, h3⟩ := hc.choose_spec
      rw [h3, h2]
      exact join_round h s t s' t' sa sb l a b h1
    · cases e
  · cases e
theorem mrgD_nil (la lb : Dots) (h : la.length + lb.length = 0) : mrgD (la.length + lb.length) la lb = [] := by rw [h]; rfl
theorem mrgD_b (la lb : Dots) (h : la.length + lb.length ≠ 0) (c : takeB la lb) : 0 < lb.length ∧ mrgD (la.length + lb.length) la lb = lb.getD 0 dotR.d :: mrgD (la.length + (lb.drop 1).length) la (lb.drop 1) := by
  have hb : 0 < lb.length := by rcases c with q | q <;> omega
  refine ⟨hb, ?_⟩
  obtain ⟨n, hn⟩ : ∃ n, la.length + lb.length = n + 1 := ⟨la.length + lb.length - 1, by omega⟩
  rw [hn, show la.length + (lb.drop 1).length = n by rw [List.length_drop]; omega]
  conv => lhs; unfold mrgD
  rw [if_pos c]
theorem mrgD_a (la lb : Dots) (h : la.length + lb.length ≠ 0) (c : ¬ takeB la lb) : 0 < la.length ∧ mrgD (la.length + lb.length) la lb = la.getD 0 dotR.d :: mrgD ((la.drop 1).length + lb.length) (la.drop 1) lb := by
  have ha : 0 < la.length := by
    rcases Nat.eq_zero_or_pos la.length with q | q
    · exact absurd (.inl q) c
    · exact q
  refine ⟨ha, ?_⟩
  obtain ⟨n, hn⟩ : ∃ n, la.length + lb.length = n + 1 := ⟨la.length + lb.length - 1, by omega⟩
  rw [hn, show (la.drop 1).length + lb.length = n by rw [List.length_drop]; omega]
  conv => lhs; unfold mrgD
  rw [if_neg c]
theorem merged_fold (h : List AB) (hz : h.map AB.freeze = h) (hh : HOk h) {s t s' t' : AV} {v v' : List Int} {ds ds' : Dots} (hs : Rd intR h s v) (hs' : Rd intR h s' v') (pt : Prt h t ds) (pt' : Prt h t' ds')
    (os : s.ok (fun i => decide (i < h.length)) = true) (os' : s'.ok (fun i => decide (i < h.length)) = true) (hl : ds.length + ds'.length ≤ 20000) :
    FnAt Try.prog 61 [.y (h.length + 6), .p (h.length + 4) 0, .p (h.length + 5) 0] (h ++ [.blk false true [s, t], .blk false true [s', t'], .blk false true [.ns, .ns], .blk false true [.ns], .blk false true [t], .blk false true [t'], .lp .ready .n (jFr h.length s t s' t') [21] jA jB]) (.tu [])
      (h ++ [.blk false true [s, t], .blk false true [s', t'], .blk false true [.ns, .ns], .blk false true [apS dotR (h.length + 7) (mrgD (ds.length + ds'.length) ds ds')], .dead, .dead, .lp .ready .n (jFr h.length s t s' t') [21] jA jB, resB dotR true (mrgD (ds.length + ds'.length) ds ds')]) := by
  refine FnAt.run (by kernel_rfl) (T := ⟨[⟨62, leastT h s t s' t', fun _ => []⟩], [⟨h.length + 6, joinT h s t s' t', fun _ => []⟩]⟩) ⟨⟨leastT_spec h s t s' t', trivial⟩, ⟨joinT_spec h s t s' t', trivial⟩⟩ Try.func61 sw61 fun _ _ => ?_
  have f1 := hs.fx os (sz := 1) rfl
  have f2 := pt.rd.fx pt.ok (sz := 2) rfl
  have f3 := hs'.fx os' (sz := 1) rfl
  have f4 := pt'.rd.fx pt'.ok (sz := 2) rfl
  unfold w61
  simp only [rep_0, rep_s, walkW, ld_own, lda_own, st_own, sta_own, len_app, if_true, if_false, reduceIte, Nat.reduceAdd, Nat.reduceSub, Nat.reduceLeDiff, Nat.reduceEqDiff, Nat.reduceMul, Nat.reduceLT, Int.reduceLT, Int.reduceLE, Int.reduceEq, rsl_get, srcV_own]
  refine W_loopS (S := AV × AV × Dots × Dots × Dots) (fun x => x.2.2.1.length + x.2.2.2.1.length) (fun _ => [.y (h.length + 6), .p (h.length + 4) 0, .p (h.length + 5) 0] ++ tp 1 ++ [.f (.func 62) [] [.p (h.length + 4) 0, .p (h.length + 5) 0]] ++ tp 12) (fun x => jH h s t s' t' x.1 x.2.1 x.2.2.2.2)
    (fun x => Prt h x.1 x.2.2.1 ∧ Prt h x.2.1 x.2.2.2.1 ∧ x.2.2.2.2 ++ mrgD (x.2.2.1.length + x.2.2.2.1.length) x.2.2.1 x.2.2.2.1 = mrgD (ds.length + ds'.length) ds ds' ∧ x.2.2.1.length + x.2.2.2.1.length + x.2.2.2.2.length ≤ 20000) (t, t', ds, ds', []) ⟨pt, pt', rfl, by simp only [List.length_nil]; omega⟩ ?_ fun x hx => ?_
  · have e : jH h s t s' t' t t' [] = h ++ [.blk false true [s, t], .blk false true [s', t'], .blk false true [.ns, .ns], .blk false true [.ns], .blk false true [t], .blk false true [t'], .lp .ready .n (jFr h.length s t s' t') [21] jA jB] ++ List.replicate 1 .dead := by
      rw [List.append_assoc]
      rfl
    rw [e]
    refine Bt.trans (Bt.wk ?_) (Bt.pad _ _ 1)
    simp only [walkW, ld_own, lda_own, st_own, sta_own, len_app, if_true, if_false, reduceIte, Nat.reduceAdd, Nat.reduceSub, Nat.reduceLeDiff, Nat.reduceEqDiff, Nat.reduceMul, Nat.reduceLT, Int.reduceLT, Int.reduceLE, Int.reduceEq, rsl_get, srcV_own]
  · obtain ⟨sa, sb, la, lb, l⟩ := x
    obtain ⟨pa, pb, hM, hlen⟩ := hx
    dsimp only at pa pb hM hlen ⊢
    have f5 := pa.rd.fx pa.ok (sz := 2) rfl
    have f6 := pb.rd.fx pb.ok (sz := 2) rfl
    have ew : IntKind.i64.wrap ((la.length : Int) + (lb.length : Int)) = (la.length : Int) + (lb.length : Int) := wrap_in (by unfold In64; omega)
    by_cases hn : la.length + lb.length = 0
    · have hg : ((0 : Int) < (la.length : Int) + (lb.length : Int)) = False := eq_false (by omega)
      simp only [jL, jFr, jA, jB, walkW, ld_own, lda_own, st_own, sta_own, len_app, if_true, if_false, reduceIte, Nat.reduceAdd, Nat.reduceSub, Nat.reduceLeDiff, Nat.reduceEqDiff, Nat.reduceMul, Nat.reduceLT, Int.reduceLT, Int.reduceLE, Int.reduceEq, rsl_get, srcV_own, f1, f2, f3, f4, f5, f6, ew, hg, false_implies]
      have hl0 : l = mrgD (ds.length + ds'.length) ds ds' := by rw [← hM, mrgD_nil la lb hn, List.append_nil]
      rw [← hl0]
      have l1 := Bt.less (P := Try.prog) (p := h.length + 7) (fr := [.tu []]) (h := jH h s t s' t' sa sb l) (i := h.length + 4) (B := .blk false true [sa]) (B' := .dead) (by rw [own_at]; rfl) (fun _ _ _ _ _ _ => trivial) (fun q => by cases q) (fun q => by cases q)
      have l2 := Bt.less (P := Try.prog) (p := h.length + 7) (fr := [.tu []]) (h := (jH h s t s' t' sa sb l).set (h.length + 4) .dead) (i := h.length + 5) (B := .blk false true [sb]) (B' := .dead) (by rw [set_own, own_at]; rfl) (fun _ _ _ _ _ _ => trivial) (fun q => by cases q) (fun q => by cases q)
      have l3 := l1.trans l2
      rw [set_own, set_own] at l3
      exact l3
    · have hg : ((0 : Int) < (la.length : Int) + (lb.length : Int)) = True := eq_true (by omega)
      have hleast := least_at h hz hh hs pt.rd hs' pt'.rd os pt.ok os' pt'.ok pa pb l hn
      have gl : l.length ≤ 1000000 := by omega
      have w1 : ∀ sel, Wk (s.ren (selN h.length sel)) s = True := fun sel => eq_true (Wk.ren (fun i hi => selN_old hi) os)
      have w2 : ∀ sel, Wk (t.ren (selN h.length sel)) t = True := fun sel => eq_true (Wk.ren (fun i hi => selN_old hi) pt.ok)
      have w3 : ∀ sel, Wk (s'.ren (selN h.length sel)) s' = True := fun sel => eq_true (Wk.ren (fun i hi => selN_old hi) os')
      have w4 : ∀ sel, Wk (t'.ren (selN h.length sel)) t' = True := fun sel => eq_true (Wk.ren (fun i hi => selN_old hi) pt'.ok)
      have w5 : ∀ sel, Wk (.ag [s.ren (selN h.length sel), t.ren (selN h.length sel)]) (.ag [s, t]) = True := fun sel => eq_true (Wk_ag ⟨of_eq_true (w1 sel), of_eq_true (w2 sel), trivial⟩)
      have w6 : ∀ sel, Wk (.ag [s'.ren (selN h.length sel), t'.ren (selN h.length sel)]) (.ag [s', t']) = True := fun sel => eq_true (Wk_ag ⟨of_eq_true (w3 sel), of_eq_true (w4 sel), trivial⟩)
      by_cases hc : takeB la lb
      · obtain ⟨hb, hm⟩ := mrgD_b la lb hn hc
        rw [if_pos hc] at hleast
        obtain ⟨sb0, pb0, fa⟩ := hleast
        obtain ⟨x, e1, e2⟩ := leastT_eq pa pb ⟨(_, _), by unfold leastR; rw [if_pos hc]; exact ⟨sb0, pb0, rfl⟩, fa⟩
        unfold leastR at e2
        rw [if_pos hc] at e2
        obtain ⟨sb', pb', rfl⟩ := e2
        have w7 : ∀ sel, Wk (sa.ren (selN h.length sel)) sa = True := fun sel => eq_true (Wk.ren (fun i hi => selN_old hi) pa.ok)
        have w8 : ∀ sel, Wk (sb'.ren (selN h.length sel)) sb' = True := fun sel => eq_true (Wk.ren (fun i hi => selN_old hi) pb'.ok)
        have f7 := pb'.rd.fx pb'.ok (sz := 2) rfl
        have e3 := joinT_eq h s t s' t' sa sb' l (lb.getD 0 dotR.d).1 (lb.getD 0 dotR.d).2 gl
        simp only [dotR_f] at e1
        simp only [jL, jFr, jA, jB, walkW, ld_own, lda_own, st_own, sta_own, len_app, if_true, if_false, reduceIte, Nat.reduceAdd, Nat.reduceSub, Nat.reduceLeDiff, Nat.reduceEqDiff, Nat.reduceMul, Nat.reduceLT, Int.reduceLT, Int.reduceLE, Int.reduceEq, rsl_get, srcV_own, f1, f2, f3, f4, f5, f6, ew, hg, false_implies, e1, e3]
        refine ⟨(sa, sb', la, lb.drop 1, l ++ [lb.getD 0 dotR.d]), ⟨pa, pb', ?_, ?_⟩, ?_, ?_⟩
        · dsimp only
          rw [← hM, hm, List.append_assoc]
          rfl
        · dsimp only
          rw [List.length_append, List.length_drop, List.length_singleton]
          omega
        · dsimp only
          rw [List.length_drop]
          omega
        · dsimp only
          simp only [joinR, jH, jL, jFr, jA, jB, apS_snoc, resB_snoc, lapp_cons, lapp_nil]
          refine Bt.selL 7 [0, 1, 2, 3, 4, 5, 6, 10] hh (by decide) (by decide) (by decide) (by decide) ?_ ?_
          · simp only [walkS, FrSel, BlkSel, AV.ren, renL, AV.ok, okL, Option.some.injEq, exists_eq_left', List.length_cons, List.length_nil, Nat.reduceAdd, Nat.reduceLT, reduceCtorEq, implies_true, exists_eq', f1, f2, f3, f4, f5, f6, f7, w1, w2, w3, w4, w5, w6, w7, w8]
          · simp only [walkS, FrSel, BlkSel, AV.ren, renL, AV.ok, okL, Option.some.injEq, exists_eq_left', List.length_cons, List.length_nil, Nat.reduceAdd, Nat.reduceLT, reduceCtorEq, implies_true, exists_eq', f1, f2, f3, f4, f5, f6, f7, w1, w2, w3, w4, w5, w6, w7, w8]
      · obtain ⟨ha, hm⟩ := mrgD_a la lb hn hc
        rw [if_neg hc] at hleast
        obtain ⟨sa0, pa0, fa⟩ := hleast
        obtain ⟨x, e1, e2⟩ := leastT_eq pa pb ⟨(_, _), by unfold leastR; rw [if_neg hc]; exact ⟨sa0, pa0, rfl⟩, fa⟩
        unfold leastR at e2
        rw [if_neg hc] at e2
        obtain ⟨sa', pa', rfl⟩ := e2
        have w7 : ∀ sel, Wk (sa'.ren (selN h.length sel)) sa' = True := fun sel => eq_true (Wk.ren (fun i hi => selN_old hi) pa'.ok)
        have w8 : ∀ sel, Wk (sb.ren (selN h.length sel)) sb = True := fun sel => eq_true (Wk.ren (fun i hi => selN_old hi) pb.ok)
        have f7 := pa'.rd.fx pa'.ok (sz := 2) rfl
        have e3 := joinT_eq h s t s' t' sa' sb l (la.getD 0 dotR.d).1 (la.getD 0 dotR.d).2 gl
        simp only [dotR_f] at e1
        simp only [jL, jFr, jA, jB, walkW, ld_own, lda_own, st_own, sta_own, len_app, if_true, if_false, reduceIte, Nat.reduceAdd, Nat.reduceSub, Nat.reduceLeDiff, Nat.reduceEqDiff, Nat.reduceMul, Nat.reduceLT, Int.reduceLT, Int.reduceLE, Int.reduceEq, rsl_get, srcV_own, f1, f2, f3, f4, f5, f6, ew, hg, false_implies, e1, e3]
        refine ⟨(sa', sb, la.drop 1, lb, l ++ [la.getD 0 dotR.d]), ⟨pa', pb, ?_, ?_⟩, ?_, ?_⟩
        · dsimp only
          rw [← hM, hm, List.append_assoc]
          rfl
        · dsimp only
          rw [List.length_append, List.length_drop, List.length_singleton]
          omega
        · dsimp only
          rw [List.length_drop]
          omega
        · dsimp only
          simp only [joinR, jH, jL, jFr, jA, jB, apS_snoc, resB_snoc, lapp_cons, lapp_nil]
          refine Bt.selL 7 [0, 1, 2, 3, 4, 5, 6, 10] hh (by decide) (by decide) (by decide) (by decide) ?_ ?_
          · simp only [walkS, FrSel, BlkSel, AV.ren, renL, AV.ok, okL, Option.some.injEq, exists_eq_left', List.length_cons, List.length_nil, Nat.reduceAdd, Nat.reduceLT, reduceCtorEq, implies_true, exists_eq', f1, f2, f3, f4, f5, f6, f7, w1, w2, w3, w4, w5, w6, w7, w8]
          · simp only [walkS, FrSel, BlkSel, AV.ren, renL, AV.ok, okL, Option.some.injEq, exists_eq_left', List.length_cons, List.length_nil, Nat.reduceAdd, Nat.reduceLT, reduceCtorEq, implies_true, exists_eq', f1, f2, f3, f4, f5, f6, f7, w1, w2, w3, w4, w5, w6, w7, w8]
end Go.Proofs.Ytnnkfhlmkaobfaa
end
