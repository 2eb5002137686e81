/- Part 21 of what the laws' proofs rest on. No condition. -/
import Derived.ProofKit
import Derived.OpenShut
import Derived.Test.YtpoojfnmhnedpaaRows
import Derived.Test.YtpoojfnmhnedpaaMe20
set_option linter.all false
section
namespace Go.Proofs.Ytpoojfnmhnedpaa
open Go.ChangeShapes Go.WideShapes Go.ChangeAt Go.RowKit
def RdL {α : Type} (R : World → List Value → α → Prop) (size : Nat) (w : World) (v : Value) (ts : List α) : Prop :=
 ∃ cs, Sl w v ts.length cs ∧ cs.length = ts.length * size ∧ ∀ i t, ts[i]? = some t → R w ((cs.drop (i * size)).take size) t
section
variable {H : Type} {enc : TypeId × Value → H} {P : Program} {w : World} {base : Nat} {spare : Nat → Bool} {held : Bool}
theorem qM8 {α β : Type} (f : α → Option β) : ∀ (l : List α) (r : List β), l.mapM f = some r → ∀ a ∈ l, ∃ b, f a = some b
 | [], _, _, a, ha => by cases ha
 | x :: l, r, h, a, ha => by
  rw [List.mapM_cons] at h
  cases hx : f x with
  | none => simp [hx] at h
  | some b =>
   cases hl : l.mapM f with
   | none => simp [hx, hl] at h
   | some bs =>
    rcases List.mem_cons.1 ha with rfl | ha
    ·exact ⟨b, hx⟩
    ·exact qM8 f l bs hl a ha
theorem XT0 {α : Type} (R : Nat → α → Prop) : ∀ n, (∀ i, i < n → ∃ t, R i t) → ∃ ts : List α, ts.length = n ∧ ∀ i t, ts[i]? = some t → R i t
 | 0, _ => ⟨[], rfl, fun i t h => by simp at h⟩
 | n + 1, h => by
  obtain ⟨ts, hl, ht⟩ := XT0 R n fun i hi => h i (by omega)
  obtain ⟨t, h1⟩ := h n (by omega)
  refine ⟨ts ++ [t], by simp [hl], fun i u hu => ?_⟩
  by_cases hi : i < n
  ·rw [List.getElem?_append_left (by omega)] at hu
   exact ht i u hu
  ·have hi2 : i = n := by
    have := (List.getElem?_eq_some_iff.1 hu).1
    simp [hl] at this
    omega
   subst hi2
   rw [List.getElem?_append_right (by omega)] at hu
   simp [hl] at hu
   exact hu ▸ h1
theorem zmA {α : Type} (R : World → List Value → α → Prop) {fuel : Nat} {T e : TypeId} {size : Nat} (hT : P.underlying T = some (.slice e)) (hc : P.cellsOf e = size) (hsz : 0 < size)
  (hR : ∀ cs x, DataW.trod enc P w base (fun _ => true) held fuel e cs = some x → ∃ t, R w cs t) {v : Value} {x : DataW H × List MemPlace}
  (h : DataW.trod enc P w base (fun _ => true) held (fuel + 1) T [v] = some x) : ∃ ts, RdL R size w v ts := by
 cases v with
 | slice a len cap =>
  cases a with
  | none =>
   cases len with
   | zero =>
    cases cap with
    | zero => exact ⟨[], [], .inl ⟨⟨_, rfl⟩, rfl, rfl⟩, by simp, fun i t ht => by simp at ht⟩
    | succ c => simp [DataW.trod, hT] at h
   | succ l => cases cap <;> simp [DataW.trod, hT] at h
  | some a =>
   simp only [DataW.trod, hT, hc] at h
   split at h
   case isFalse => cases h
   case isTrue hcond =>
    obtain ⟨hb, hlc, hcm⟩ := hcond
    obtain ⟨elems, hel, h2⟩ := Option.bind_eq_some_iff.1 h
    simp only [if_true] at h2
    obtain ⟨rest, hrest, _⟩ := Option.map_eq_some_iff.1 h2
    have hel2 : ∀ i, i < len → ∃ cs t, cs.length = size ∧ (∀ j, j < size → w.cell? ((a.add (i * size)).add j) = cs[j]?) ∧ R w cs t := by
     intro i hi
     obtain ⟨y, hy⟩ := qM8 _ _ _ hel i (List.mem_range.2 hi)
     obtain ⟨cs, hcs, hy2⟩ := Option.bind_eq_some_iff.1 hy
     obtain ⟨_, hl, hcell⟩ := World.cells?_some hcs
     obtain ⟨t, ht⟩ := hR cs y hy2
     exact ⟨cs, t, hl, hcell, ht⟩
    by_cases h0 : cap = 0
    ·subst h0
     have : len = 0 := by omega
     subst this
     exact ⟨[], [], .inl ⟨⟨_, rfl⟩, rfl, rfl⟩, by simp, fun i t ht => by simp at ht⟩
    ·have hspot : a.spot = none := by
      have hfirst : ∃ u, w.cell? a = some u := by
       by_cases hl0 : len = 0
       ·subst hl0
        obtain ⟨y, hy⟩ := qM8 _ _ _ hrest 0 (List.mem_range.2 (by omega))
        obtain ⟨cs, hcs, _⟩ := Option.bind_eq_some_iff.1 hy
        obtain ⟨_, hl, hcell⟩ := World.cells?_some hcs
        have := hcell 0 hsz
        simp [Addr.add] at this
        exact ⟨cs[0]'(by omega), by rw [this]; exact List.getElem?_eq_getElem (by omega)⟩
       ·obtain ⟨cs, t, hl, hcell, _⟩ := hel2 0 (by omega)
        have := hcell 0 hsz
        simp [Addr.add] at this
        exact ⟨cs[0]'(by omega), by rw [this]; exact List.getElem?_eq_getElem (by omega)⟩
      obtain ⟨u, hu⟩ := hfirst
      unfold World.cell? at hu
      split at hu
      ·split at hu
       ·cases hu
       ·rename_i hs
        simpa using hs
      ·cases hu
     obtain ⟨b, off, sp⟩ := a
     simp only at hspot
     subst hspot
     obtain ⟨g, hg⟩ : ∃ g : Nat → Value, ∀ k, g k = (w.cell? ⟨b, off + k, none⟩).getD undef := ⟨_, fun _ => rfl⟩
     have hlt : ∀ i j, i < len → j < size → i * size + j < len * size := fun i j hi hj => by
      have : (i + 1) * size ≤ len * size := Nat.mul_le_mul_right _ hi
      rw [Nat.add_mul] at this
      omega
     have hpiece : ∀ i, i < len → ∀ cs' : List Value, cs'.length = size → (∀ j, j < size → w.cell? (((⟨b, off, none⟩ : Addr).add (i * size)).add j) = cs'[j]?) → ((((List.range (len * size)).map g).drop (i * size)).take size) = cs' := by
      intro i hi cs' hl hcell
      apply List.ext_getElem?
      intro j
      by_cases hj : j < size
      ·have h1 := hcell j hj
       rw [Addr.add_none, Addr.add_none] at h1
       rw [List.getElem?_take_of_lt hj, List.getElem?_drop, List.getElem?_map, List.getElem?_range (hlt i j hi hj), ← h1]
       rw [Option.map_some, hg, ← Nat.add_assoc, h1, List.getElem?_eq_getElem (by omega)]
       rfl
      ·rw [List.getElem?_eq_none (by rw [List.length_take]; omega), List.getElem?_eq_none (by omega)]
     obtain ⟨ts, htl, hts⟩ := XT0 (fun i t => R w ((((List.range (len * size)).map g).drop (i * size)).take size) t) len fun i hi => by
      obtain ⟨cs, t, hl, hcell, ht⟩ := hel2 i hi
      exact ⟨t, by rw [hpiece i hi cs hl hcell]; exact ht⟩
     refine ⟨ts, (List.range (len * size)).map g, .inr ⟨b, off, cap, by rw [htl], by omega, hcm, fun k u hu => ?_⟩, by simp [htl], hts⟩
     rw [List.getElem?_map] at hu
     obtain ⟨k', hk', rfl⟩ := Option.map_eq_some_iff.1 hu
     have hk : k < len * size := by simpa using (List.getElem?_eq_some_iff.1 hk').1
     rw [List.getElem?_range hk] at hk'
     cases hk'
     have hdiv : k / size < len := (Nat.div_lt_iff_lt_mul hsz).2 hk
     obtain ⟨cs, t, hl, hcell, _⟩ := hel2 (k / size) hdiv
     have h1 := hcell (k % size) (Nat.mod_lt _ hsz)
     rw [Addr.add_none, Addr.add_none, Nat.add_assoc, Nat.mul_comm, Nat.div_add_mod] at h1
     rw [hg, h1, List.getElem?_eq_getElem (by have := Nat.mod_lt k hsz; omega)]
     rfl
 | _ => simp [DataW.trod, hT] at h
theorem Yws {fuel : Nat} {T : TypeId} {fs : Array Field} (hT : P.underlying T = some (.struct fs)) {cs : List Value} {x : DataW H × List MemPlace}
  (h : DataW.trod enc P w base spare held (fuel + 1) T cs = some x) : cs.length = P.cellsOf T ∧ ∀ f ∈ fs.toList, ∃ y, DataW.trod enc P w base spare held fuel f.type ((cs.drop f.offset).take (P.cellsOf f.type)) = some y := by
 simp only [DataW.trod, hT] at h
 split at h
 ·rename_i hl
  obtain ⟨xs, hxs, _⟩ := Option.map_eq_some_iff.1 h
  exact ⟨hl, fun f hf => qM8 _ _ _ hxs f hf⟩
 ·cases h
theorem QUY {fuel : Nat} {T e : TypeId} {n : Nat} (hT : P.underlying T = some (.array n e)) {cs : List Value} {x : DataW H × List MemPlace}
  (h : DataW.trod enc P w base spare held (fuel + 1) T cs = some x) : cs.length = P.cellsOf T ∧ ∀ i, i < n → ∃ y, DataW.trod enc P w base spare held fuel e ((cs.drop (i * P.cellsOf e)).take (P.cellsOf e)) = some y := by
 simp only [DataW.trod, hT] at h
 split at h
 ·rename_i hl
  obtain ⟨xs, hxs, _⟩ := Option.map_eq_some_iff.1 h
  exact ⟨hl, fun i hi => qM8 _ _ _ hxs i (List.mem_range.2 hi)⟩
 ·cases h
theorem Qwn {fuel : Nat} {T : TypeId} {k : IntKind} (hT : P.underlying T = some (.int k)) {cs : List Value} {x : DataW H × List MemPlace}
  (h : DataW.trod enc P w base spare held fuel T cs = some x) : ∃ n, cs = [.int k n] ∧ (Lit.int k n).wf = true := by
 cases fuel with
 | zero => cases h
 | succ fuel =>
  simp only [DataW.trod, hT] at h
  split at h <;> simp_all
theorem ZuH {fuel : Nat} {T : TypeId} (hT : P.underlying T = some .string) {cs : List Value} {x : DataW H × List MemPlace}
  (h : DataW.trod enc P w base spare held fuel T cs = some x) : ∃ s : ByteArray, cs = [.string s] ∧ s.size ≤ maxLen := by
 cases fuel with
 | zero => cases h
 | succ fuel =>
  simp only [DataW.trod, hT] at h
  split at h <;> simp_all
theorem q5W {α : Type} (R : World → List Value → α → Prop) {fuel : Nat} {T e : TypeId} {size : Nat} (hT : P.underlying T = some (.slice e)) (hc : P.cellsOf e = size) (hsz : 0 < size)
  (hR : ∀ fuel cs x, DataW.trod enc P w base (fun _ => true) held fuel e cs = some x → ∃ t, R w cs t) {cs : List Value} {x : DataW H × List MemPlace}
  (h : DataW.trod enc P w base (fun _ => true) held fuel T cs = some x) : ∃ v, cs = [v] ∧ ∃ ts, RdL R size w v ts := by
 cases fuel with
 | zero => cases h
 | succ fuel =>
  have hv : ∃ v, cs = [v] := by
   have h' := h
   simp only [DataW.trod, hT] at h'
   split at h' <;> simp_all
  obtain ⟨v, rfl⟩ := hv
  exact ⟨v, rfl, zmA R hT hc hsz (fun cs x => hR fuel cs x) h⟩
theorem QtE {n : Int} (h : (Lit.int .u8 n).wf = true) : Value.int .u8 n = .int .u8 ((UInt8.ofInt n).toNat : Int) := by
 have hb := bounds_u8 h
 congr 1
 simp only [UInt8.ofInt, UInt8.toNat_ofNat']
 omega
theorem JiZ {n : Int} (h : (Lit.int .i64 n).wf = true) : -9223372036854775808 ≤ n ∧ n ≤ 9223372036854775807 := bounds_i64 h
end
end Go.Proofs.Ytpoojfnmhnedpaa
end
section
namespace Go.Proofs.Ytpoojfnmhnedpaa
open Go.ChangeShapes Go.WideShapes Go.ChangeAt Go.RowKit
section
variable {K : Code → CC → Prop} {ρ : Mp} {h : List AB} {w : World}
theorem In.hz (i : In K ρ h w) : h.map AB.freeze = h := by
 refine List.ext_getElem? fun j => ?_
 rw [List.getElem?_map]
 cases e : h[j]? with
 | none => rfl
 | some B =>
  have := i.frz B (List.mem_of_getElem? e)
  rw [Option.map_some]
  congr 1
  cases B <;> first | rfl | (cases this; done) | (simp only [AB.mut] at this; subst this; rfl)
theorem In.sl {α : Type} {r : Row α} (i : In K ρ h w) (hfl : ∀ x, ∀ a ∈ r.f x, a.fl = true) {v : Value} {l : List α} (hs : Sl w v l.length ((r.cells l).map AV.val)) :
  ∃ x s B, In K (ρ ++ [x]) (h ++ [B]) w ∧ VR (ρ ++ [x]) s v ∧ Rd r (h ++ [B]) s l ∧ Ext ρ (ρ ++ [x]) ∧ s.capOk = true := by
 obtain ⟨hl, x, i', vr⟩ := i.slice hfl hs
 exact ⟨x, _, _, i', vr, zpN (by rw [List.getElem?_append_right (Nat.le_refl _), Nat.sub_self]; rfl) hl, Ext.push _ _, Jr2 _ _⟩
theorem RdL.row {α : Type} {r : Row α} {v : Value} {ts : List α} (e : RdL (fun _ cs x => cs = (r.f x).map AV.val) r.sz w v ts) : Sl w v ts.length ((r.cells ts).map AV.val) := by
 obtain ⟨cs, h1, h2, h3⟩ := e
 have hcs : cs = (r.cells ts).map AV.val := by
  apply List.ext_getElem?
  intro k
  by_cases hk : k < ts.length * r.sz
  ·have hi : k / r.sz < ts.length := (Nat.div_lt_iff_lt_mul r.pos).2 hk
   have hj := Nat.mod_lt k r.pos
   have ek : k = k / r.sz * r.sz + k % r.sz := by rw [Nat.mul_comm]; exact (Nat.div_add_mod k r.sz).symm
   have ht : ts[k / r.sz]? = some (ts.getD (k / r.sz) r.d) := by rw [List.getD_eq_getElem?_getD, List.getElem?_eq_getElem hi]; rfl
   have q := h3 _ _ ht
   have q1 : ((cs.drop (k / r.sz * r.sz)).take r.sz)[k % r.sz]? = ((r.f (ts.getD (k / r.sz) r.d)).map AV.val)[k % r.sz]? := by rw [q]
   rw [List.getElem?_take_of_lt hj, List.getElem?_drop, ← ek, List.getElem?_map, ← r.cells_get ts _ _ hi hj, ← ek] at q1
   rw [q1, List.getElem?_map]
  ·rw [List.getElem?_eq_none (by omega), List.getElem?_eq_none (by rw [List.length_map, r.cells_len]; omega)]
 rw [hcs] at h1
 exact h1
end
section
variable {H : Type} {enc : TypeId × Value → H} {w : World} {base : Nat} {held : Bool}
end
end Go.Proofs.Ytpoojfnmhnedpaa
end
section
namespace Go.Proofs.Ytpoojfnmhnedpaa
open Go.ChangeShapes Go.WideShapes Go.ChangeAt Go.RowKit
section
variable {H : Type} {enc : TypeId × Value → H} {w : World} {base : Nat} {held : Bool}
theorem JaS {fuel : Nat} {cs : List Value} {x : DataW H × List MemPlace} (h : DataW.trod enc Try.prog w base (fun _ => true) held fuel 23 cs = some x) : ∃ i : Dg, cs = (idR.f i).map AV.val := by
 cases fuel with
 | zero => cases h
 | succ fuel =>
  obtain ⟨hl, he⟩ := QUY Try.underlying23 h
  have hl2 : cs.length = 32 := hl.trans (by kernel_rfl)
  have h1 : Try.prog.cellsOf 5 = 1 := by kernel_rfl
  obtain ⟨d, hd, hdt⟩ := XT0 (fun i (c : UInt8) => cs[i]? = some (.int .u8 (c.toNat : Int))) 32 fun i hi => by
   obtain ⟨y, hy⟩ := he i hi
   rw [h1] at hy
   obtain ⟨n, hn, hw⟩ := Qwn Try.underlying5 hy
   refine ⟨UInt8.ofInt n, ?_⟩
   have e : ((cs.drop (i * 1)).take 1)[0]? = some (.int .u8 n) := by rw [hn]; rfl
   rw [List.getElem?_take_of_lt (by omega), List.getElem?_drop, QtE hw] at e
   simpa using e
  refine ⟨⟨d, hd⟩, ?_⟩
  apply List.ext_getElem?
  intro i
  show cs[i]? = ((d.map u8A).map AV.val)[i]?
  rw [List.map_map]
  by_cases hi : i < 32
  ·rw [List.getElem?_map, List.getElem?_eq_getElem (by omega : i < d.length), Option.map_some, hdt i _ (List.getElem?_eq_getElem (by omega : i < d.length))]
   rfl
  ·rw [List.getElem?_eq_none (by omega), List.getElem?_eq_none (by rw [List.length_map]; omega)]
end
end Go.Proofs.Ytpoojfnmhnedpaa
end
section
namespace Go.Proofs.Ytpoojfnmhnedpaa
open Go.ChangeShapes Go.WideShapes Go.ChangeAt Go.RowKit
section
variable {H : Type} {enc : TypeId × Value → H} {w : World} {base : Nat} {held : Bool}
def Z8p (d : Dsc) : Prop := I64 d.media ∧ I64 d.size
theorem zQG {α : Type} (cs : List α) (a b : Nat) : (cs.drop a).take b ++ cs.drop (a + b) = cs.drop a := by rw [← List.drop_drop, List.take_append_drop]
theorem YmZ {fuel : Nat} {cs : List Value} {x : DataW H × List MemPlace} (h : DataW.trod enc Try.prog w base (fun _ => true) held fuel 25 cs = some x) : ∃ d : Dsc, cs = (deR.f d).map AV.val ∧ Z8p d := by
 cases fuel with
 | zero => cases h
 | succ fuel =>
  obtain ⟨hl, he⟩ := Yws Try.underlying25 h
  have hl2 : cs.length = 35 := hl.trans (by kernel_rfl)
  simp only [List.forall_mem_cons] at he
  obtain ⟨⟨y0, h0⟩, ⟨y1, h1⟩, ⟨y2, h2⟩, ⟨y3, h3⟩, _⟩ := he
  rw [(by kernel_rfl : Try.prog.cellsOf 3 = 1)] at h0 h2
  rw [(by kernel_rfl : Try.prog.cellsOf 23 = 32)] at h1
  rw [(by kernel_rfl : Try.prog.cellsOf 9 = 1)] at h3
  obtain ⟨m, e0, b0⟩ := Qwn Try.underlying3 h0
  obtain ⟨i, e1⟩ := JaS h1
  obtain ⟨z, e2, b2⟩ := Qwn Try.underlying3 h2
  obtain ⟨t, e3, _⟩ := ZuH Try.underlying9 h3
  have e0' : (cs.drop 0).take 1 = [.int .i64 m] := e0
  have e1' : (cs.drop 1).take 32 = (idR.f i).map AV.val := e1
  have e2' : (cs.drop 33).take 1 = [.int .i64 z] := e2
  have e3' : (cs.drop 34).take 1 = [.string t] := e3
  refine ⟨⟨m, i, z, t.data.toList⟩, ?_, ⟨JiZ b0, JiZ b2⟩⟩
  have a0 := zQG cs 0 1
  have a1 := zQG cs 1 32
  have a2 := zQG cs 33 1
  have a3 := zQG cs 34 1
  rw [e0', Nat.zero_add] at a0
  rw [e1'] at a1
  rw [e2'] at a2
  rw [e3', List.drop_eq_nil_of_le (show cs.length ≤ 34 + 1 by omega)] at a3
  rw [← a3] at a2
  rw [← a2] at a1
  rw [← a1] at a0
  rw [show cs = cs.drop 0 from rfl, ← a0, z3j, List.map_cons, List.map_append]
  rfl
theorem RdL.and {α : Type} {R : World → List Value → α → Prop} {Q : α → Prop} {size : Nat} {v : Value} {ts : List α} (e : RdL (fun w cs c => R w cs c ∧ Q c) size w v ts) : RdL R size w v ts ∧ ∀ t ∈ ts, Q t := by
 obtain ⟨cs, h1, h2, h3⟩ := e
 exact ⟨⟨cs, h1, h2, fun i t ht => (h3 i t ht).1⟩, fun t ht => by
  obtain ⟨i, hi⟩ := List.mem_iff_getElem?.1 ht
  exact (h3 i t hi).2⟩
theorem KwI {fuel : Nat} {cs : List Value} {x : DataW H × List MemPlace} (h : DataW.trod enc Try.prog w base (fun _ => true) held fuel 26 cs = some x) : ∃ v, cs = [v] ∧ ∃ xs : List Dsc, Sl w v xs.length ((deR.cells xs).map AV.val) ∧ ∀ d ∈ xs, Z8p d := by
 obtain ⟨v, h1, ts, h2⟩ := q5W (fun _ cs (c : Dsc) => cs = (deR.f c).map AV.val ∧ Z8p c) Try.underlying26 (size := 35) (by kernel_rfl) (by decide) (fun fuel cs x hx => YmZ hx) h
 obtain ⟨h3, h4⟩ := RdL.and h2
 exact ⟨v, h1, ts, RdL.row (r := deR) h3, h4⟩
theorem YVW {fuel : Nat} {cs : List Value} {x : DataW H × List MemPlace} (h : DataW.trod enc Try.prog w base (fun _ => true) held fuel 28 cs = some x) :
  ∃ (k : Int) (t : List UInt8) (c : Dsc) (lv sv : Value), cs = (AV.i .i64 k :: .s t :: deR.f c).map AV.val ++ [lv, sv] ∧ I64 k ∧ Z8p c ∧ (∃ xs : List Dsc, Sl w lv xs.length ((deR.cells xs).map AV.val) ∧ ∀ d ∈ xs, Z8p d) ∧ ∃ ys : List Dsc, Sl w sv ys.length ((deR.cells ys).map AV.val) ∧ ∀ d ∈ ys, Z8p d := by
 cases fuel with
 | zero => cases h
 | succ fuel =>
  obtain ⟨hl, he⟩ := Yws Try.underlying28 h
  have hl2 : cs.length = 39 := hl.trans (by kernel_rfl)
  simp only [List.forall_mem_cons] at he
  obtain ⟨⟨y0, h0⟩, ⟨y1, h1⟩, ⟨y2, h2⟩, ⟨y3, h3⟩, ⟨y4, h4⟩, _⟩ := he
  rw [(by kernel_rfl : Try.prog.cellsOf 3 = 1)] at h0
  rw [(by kernel_rfl : Try.prog.cellsOf 9 = 1)] at h1
  rw [(by kernel_rfl : Try.prog.cellsOf 25 = 35)] at h2
  rw [(by kernel_rfl : Try.prog.cellsOf 26 = 1)] at h3 h4
  obtain ⟨k, e0, b0⟩ := Qwn Try.underlying3 h0
  obtain ⟨t, e1, _⟩ := ZuH Try.underlying9 h1
  obtain ⟨c, e2, b2⟩ := YmZ h2
  obtain ⟨lv, e3, s3⟩ := KwI h3
  obtain ⟨sv, e4, s4⟩ := KwI h4
  have e0' : (cs.drop 0).take 1 = [.int .i64 k] := e0
  have e1' : (cs.drop 1).take 1 = [.string t] := e1
  have e2' : (cs.drop 2).take 35 = (deR.f c).map AV.val := e2
  have e3' : (cs.drop 37).take 1 = [lv] := e3
  have e4' : (cs.drop 38).take 1 = [sv] := e4
  refine ⟨k, t.data.toList, c, lv, sv, ?_, JiZ b0, b2, s3, s4⟩
  have a0 := zQG cs 0 1
  have a1 := zQG cs 1 1
  have a2 := zQG cs 2 35
  have a3 := zQG cs 37 1
  have a4 := zQG cs 38 1
  rw [e0', Nat.zero_add] at a0
  rw [e1'] at a1
  rw [e2'] at a2
  rw [e3'] at a3
  rw [e4', List.drop_eq_nil_of_le (show cs.length ≤ 38 + 1 by omega)] at a4
  rw [← a4] at a3
  rw [← a3] at a2
  rw [← a2] at a1
  rw [← a1] at a0
  rw [show cs = cs.drop 0 from rfl, ← a0, List.map_cons, List.map_cons]
  rfl
end
theorem qpv {ρ : Mp} {l s : AV} {lv sv : Value} (hl : VR ρ l lv) (hs : VR ρ s sv) (k : Int) (t : List UInt8) (c : Dsc) : VR ρ (.ag (.i .i64 k :: .s t :: (deR.f c ++ [l, s]))) (.agg ((AV.i .i64 k :: .s t :: deR.f c).map AV.val ++ [lv, sv]).toArray) := by
 have hf : ∀ a ∈ (AV.i .i64 k :: .s t :: deR.f c), a.fl = true := fun a ha => by
  rcases List.mem_cons.1 ha with rfl | ha
  ·rfl
  ·rcases List.mem_cons.1 ha with rfl | ha
   ·rfl
   ·exact YgR c a ha
 have h1 := JAe ρ (AV.i .i64 k :: .s t :: deR.f c) hf
 have h2 := h1.append (VL.cons hl (VL.one hs))
 have e : ((AV.i .i64 k :: .s t :: deR.f c).map AV.val).toArray ++ #[lv, sv] = ((AV.i .i64 k :: .s t :: deR.f c).map AV.val ++ [lv, sv]).toArray := by
  apply Array.toList_inj.1
  simp
 rw [← e]
 exact qXx h2
section
variable {K : Code → CC → Prop} {ρ : Mp} {h : List AB} {w : World}
end
end Go.Proofs.Ytpoojfnmhnedpaa
end
section
namespace Go.Proofs.Ytpoojfnmhnedpaa
open Go.ChangeShapes Go.WideShapes Go.ChangeAt Go.RowKit
theorem Try.own : ownKnob Try.prog.godebug = none := by kernel_rfl
theorem Try.laidOut : laidOutB Try.prog = true := by kernel_rfl
section
variable {H : Type} {enc : TypeId × Value → H} {P : Program}
theorem qhq (hl : laidOutB P = true) {W W' : World} (hb : Below W.heap.size W W') : ∀ (ts : List TypeId) (vs : List Value) (ds : List (DataW H)) (ps : List MemPlace),
  (∀ t ∈ ts, P.readableRec t = true ∧ t < P.types.size) → DataW.TrodAll enc P W 0 (fun _ => true) true ts vs ds ps → (∀ x ∈ ps, x.block < W.heap.size) →
  DataW.TrodAll enc P W' 0 (fun b => decide (b < W.heap.size)) true ts vs ds ps
 | [], vs, ds, ps, _, h, _ => by
  obtain ⟨rfl, rfl, rfl⟩ := trodAll_nil h
  exact trodAll_mk0
 | t :: ts, vs, ds, ps, ht, h, hp => by
  obtain ⟨v, vs', d, ds', p, p', rfl, rfl, rfl, h0, r0⟩ := trodAll_cons h
  exact trodAll_cons_mk (Below.trod hl (ht t (.head _)).1 (ht t (.head _)).2 h0 hb fun x hx => hp x (List.mem_append.2 (.inl hx)))
   (qhq hl hb ts vs' ds' p' (fun t' h' => ht t' (.tail _ h')) r0 fun x hx => hp x (List.mem_append.2 (.inr hx)))
theorem KJV (hl : laidOutB P = true) {f : Func} {s : ChangeSpec} {W W' : World} {args : Array Value} {ds gs : List (DataW H)} {before : List MemPlace} {tb : TypeId} (hb : P.underlying tb = some .bool)
  (hr : f.resultTypes = #[tb]) (hv : s.vars = []) (hfn : s.fn H (ds ++ gs) = { results := [.lit (.bool true)], args := ds })
  (hp0 : (f.params.toList.all fun t => P.readableRec t && decide (t < P.types.size)) = true)
  (hW : DataW.Whole enc P f.params.toList s.vars false W args.toList ds gs before) (hk : Kept NoS W W') :
  s.post enc P f false true false false W args (.bool true) W' := by
 have hp : ∀ t ∈ f.params.toList, P.readableRec t = true ∧ t < P.types.size := fun t ht => by
  have := List.all_eq_true.1 hp0 t ht
  simpa using this
 have hbw : Below W.heap.size W W' := hk.below (Nat.le_refl _) fun _ _ e => e.elim
 have hlt := hW.lt
 have hW' := hW
 obtain ⟨p, q, hA, hV, rfl, _, _⟩ := hW
 refine ⟨ds, gs, p ++ q, [], p, [], hW', ?_, ?_, ?_, ?_, fun h => by cases h⟩
 ·rw [hfn, hr]
  exact trodAll_cons_mk (shut_bool hb _) trodAll_mk0
 ·rw [hfn]
  exact qhq hl hbw _ _ _ _ hp hA fun x hx => hlt x (List.mem_append.2 (.inl hx))
 ·rw [hfn, hv] 
  rw [hv] at hV
  obtain ⟨rfl, rfl⟩ := trodVars_none hV
  exact hV
 ·exact hbw.frame _
end
end Go.Proofs.Ytpoojfnmhnedpaa
end
