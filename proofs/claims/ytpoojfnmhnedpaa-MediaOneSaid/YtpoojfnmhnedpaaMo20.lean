/- Part 20 of what the laws' proofs rest on. No condition. -/
import Derived.ProofKit
import Derived.OpenShut
import Derived.Test.YtpoojfnmhnedpaaRows
import Derived.Test.YtpoojfnmhnedpaaMo19
set_option linter.all false
section
namespace Go.Proofs.Ytpoojfnmhnedpaa
open Go.ChangeShapes Go.WideShapes Go.ChangeAt Go.RowKit
def RdL {α : Type} (R : World → List Value → α → Prop) (size : Nat) (w : World) (v : Value) (ts : List α) : Prop :=
 ∃ cs, Sl w v ts.length cs ∧ cs.length = ts.length * size ∧ ∀ i t, ts[i]? = some t → R w ((cs.drop (i * size)).take size) t
section
variable {H : Type} {enc : TypeId × Value → H} {P : Program} {w : World} {base : Nat} {spare : Nat → Bool} {held : Bool}
theorem QcG {α β : Type} (f : α → Option β) : ∀ (l : List α) (r : List β), l.mapM f = some r → ∀ a ∈ l, ∃ b, f a = some b
 | [], _, _, a, ha => by cases ha
 | x :: l, r, h, a, ha => by
  rw [List.mapM_cons] at h
  cases hx : f x with
  | none => simp [hx] at h
  | some b =>
   cases hl : l.mapM f with
   | none => simp [hx, hl] at h
   | some bs =>
    rcases List.mem_cons.1 ha with rfl | ha
    ·exact ⟨b, hx⟩
    ·exact QcG f l bs hl a ha
theorem Zw9 {α : Type} (R : Nat → α → Prop) : ∀ n, (∀ i, i < n → ∃ t, R i t) → ∃ ts : List α, ts.length = n ∧ ∀ i t, ts[i]? = some t → R i t
 | 0, _ => ⟨[], rfl, fun i t h => by simp at h⟩
 | n + 1, h => by
  obtain ⟨ts, hl, ht⟩ := Zw9 R n fun i hi => h i (by omega)
  obtain ⟨t, h1⟩ := h n (by omega)
  refine ⟨ts ++ [t], by simp [hl], fun i u hu => ?_⟩
  by_cases hi : i < n
  ·rw [List.getElem?_append_left (by omega)] at hu
   exact ht i u hu
  ·have hi2 : i = n := by
    have := (List.getElem?_eq_some_iff.1 hu).1
    simp [hl] at this
    omega
   subst hi2
   rw [List.getElem?_append_right (by omega)] at hu
   simp [hl] at hu
   exact hu ▸ h1
theorem ZJx {α : Type} (R : World → List Value → α → Prop) {fuel : Nat} {T e : TypeId} {size : Nat} (hT : P.underlying T = some (.slice e)) (hc : P.cellsOf e = size) (hsz : 0 < size)
  (hR : ∀ cs x, DataW.trod enc P w base (fun _ => true) held fuel e cs = some x → ∃ t, R w cs t) {v : Value} {x : DataW H × List MemPlace}
  (h : DataW.trod enc P w base (fun _ => true) held (fuel + 1) T [v] = some x) : ∃ ts, RdL R size w v ts := by
 cases v with
 | slice a len cap =>
  cases a with
  | none =>
   cases len with
   | zero =>
    cases cap with
    | zero => exact ⟨[], [], .inl ⟨⟨_, rfl⟩, rfl, rfl⟩, by simp, fun i t ht => by simp at ht⟩
    | succ c => simp [DataW.trod, hT] at h
   | succ l => cases cap <;> simp [DataW.trod, hT] at h
  | some a =>
   simp only [DataW.trod, hT, hc] at h
   split at h
   case isFalse => cases h
   case isTrue hcond =>
    obtain ⟨hb, hlc, hcm⟩ := hcond
    obtain ⟨elems, hel, h2⟩ := Option.bind_eq_some_iff.1 h
    simp only [if_true] at h2
    obtain ⟨rest, hrest, _⟩ := Option.map_eq_some_iff.1 h2
    have hel2 : ∀ i, i < len → ∃ cs t, cs.length = size ∧ (∀ j, j < size → w.cell? ((a.add (i * size)).add j) = cs[j]?) ∧ R w cs t := by
     intro i hi
     obtain ⟨y, hy⟩ := QcG _ _ _ hel i (List.mem_range.2 hi)
     obtain ⟨cs, hcs, hy2⟩ := Option.bind_eq_some_iff.1 hy
     obtain ⟨_, hl, hcell⟩ := World.cells?_some hcs
     obtain ⟨t, ht⟩ := hR cs y hy2
     exact ⟨cs, t, hl, hcell, ht⟩
    by_cases h0 : cap = 0
    ·subst h0
     have : len = 0 := by omega
     subst this
     exact ⟨[], [], .inl ⟨⟨_, rfl⟩, rfl, rfl⟩, by simp, fun i t ht => by simp at ht⟩
    ·have hspot : a.spot = none := by
      have hfirst : ∃ u, w.cell? a = some u := by
       by_cases hl0 : len = 0
       ·subst hl0
        obtain ⟨y, hy⟩ := QcG _ _ _ hrest 0 (List.mem_range.2 (by omega))
        obtain ⟨cs, hcs, _⟩ := Option.bind_eq_some_iff.1 hy
        obtain ⟨_, hl, hcell⟩ := World.cells?_some hcs
        have := hcell 0 hsz
        simp [Addr.add] at this
        exact ⟨cs[0]'(by omega), by rw [this]; exact List.getElem?_eq_getElem (by omega)⟩
       ·obtain ⟨cs, t, hl, hcell, _⟩ := hel2 0 (by omega)
        have := hcell 0 hsz
        simp [Addr.add] at this
        exact ⟨cs[0]'(by omega), by rw [this]; exact List.getElem?_eq_getElem (by omega)⟩
      obtain ⟨u, hu⟩ := hfirst
      unfold World.cell? at hu
      split at hu
      ·split at hu
       ·cases hu
       ·rename_i hs
        simpa using hs
      ·cases hu
     obtain ⟨b, off, sp⟩ := a
     simp only at hspot
     subst hspot
     obtain ⟨g, hg⟩ : ∃ g : Nat → Value, ∀ k, g k = (w.cell? ⟨b, off + k, none⟩).getD undef := ⟨_, fun _ => rfl⟩
     have hlt : ∀ i j, i < len → j < size → i * size + j < len * size := fun i j hi hj => by
      have : (i + 1) * size ≤ len * size := Nat.mul_le_mul_right _ hi
      rw [Nat.add_mul] at this
      omega
     have hpiece : ∀ i, i < len → ∀ cs' : List Value, cs'.length = size → (∀ j, j < size → w.cell? (((⟨b, off, none⟩ : Addr).add (i * size)).add j) = cs'[j]?) → ((((List.range (len * size)).map g).drop (i * size)).take size) = cs' := by
      intro i hi cs' hl hcell
      apply List.ext_getElem?
      intro j
      by_cases hj : j < size
      ·have h1 := hcell j hj
       rw [Addr.add_none, Addr.add_none] at h1
       rw [List.getElem?_take_of_lt hj, List.getElem?_drop, List.getElem?_map, List.getElem?_range (hlt i j hi hj), ← h1]
       rw [Option.map_some, hg, ← Nat.add_assoc, h1, List.getElem?_eq_getElem (by omega)]
       rfl
      ·rw [List.getElem?_eq_none (by rw [List.length_take]; omega), List.getElem?_eq_none (by omega)]
     obtain ⟨ts, htl, hts⟩ := Zw9 (fun i t => R w ((((List.range (len * size)).map g).drop (i * size)).take size) t) len fun i hi => by
      obtain ⟨cs, t, hl, hcell, ht⟩ := hel2 i hi
      exact ⟨t, by rw [hpiece i hi cs hl hcell]; exact ht⟩
     refine ⟨ts, (List.range (len * size)).map g, .inr ⟨b, off, cap, by rw [htl], by omega, hcm, fun k u hu => ?_⟩, by simp [htl], hts⟩
     rw [List.getElem?_map] at hu
     obtain ⟨k', hk', rfl⟩ := Option.map_eq_some_iff.1 hu
     have hk : k < len * size := by simpa using (List.getElem?_eq_some_iff.1 hk').1
     rw [List.getElem?_range hk] at hk'
     cases hk'
     have hdiv : k / size < len := (Nat.div_lt_iff_lt_mul hsz).2 hk
     obtain ⟨cs, t, hl, hcell, _⟩ := hel2 (k / size) hdiv
     have h1 := hcell (k % size) (Nat.mod_lt _ hsz)
     rw [Addr.add_none, Addr.add_none, Nat.add_assoc, Nat.mul_comm, Nat.div_add_mod] at h1
     rw [hg, h1, List.getElem?_eq_getElem (by have := Nat.mod_lt k hsz; omega)]
     rfl
 | _ => simp [DataW.trod, hT] at h
theorem zBT {fuel : Nat} {T : TypeId} {fs : Array Field} (hT : P.underlying T = some (.struct fs)) {cs : List Value} {x : DataW H × List MemPlace}
  (h : DataW.trod enc P w base spare held (fuel + 1) T cs = some x) : cs.length = P.cellsOf T ∧ ∀ f ∈ fs.toList, ∃ y, DataW.trod enc P w base spare held fuel f.type ((cs.drop f.offset).take (P.cellsOf f.type)) = some y := by
 simp only [DataW.trod, hT] at h
 split at h
 ·rename_i hl
  obtain ⟨xs, hxs, _⟩ := Option.map_eq_some_iff.1 h
  exact ⟨hl, fun f hf => QcG _ _ _ hxs f hf⟩
 ·cases h
theorem Ys3 {fuel : Nat} {T e : TypeId} {n : Nat} (hT : P.underlying T = some (.array n e)) {cs : List Value} {x : DataW H × List MemPlace}
  (h : DataW.trod enc P w base spare held (fuel + 1) T cs = some x) : cs.length = P.cellsOf T ∧ ∀ i, i < n → ∃ y, DataW.trod enc P w base spare held fuel e ((cs.drop (i * P.cellsOf e)).take (P.cellsOf e)) = some y := by
 simp only [DataW.trod, hT] at h
 split at h
 ·rename_i hl
  obtain ⟨xs, hxs, _⟩ := Option.map_eq_some_iff.1 h
  exact ⟨hl, fun i hi => QcG _ _ _ hxs i (List.mem_range.2 hi)⟩
 ·cases h
theorem XcG {fuel : Nat} {T : TypeId} {k : IntKind} (hT : P.underlying T = some (.int k)) {cs : List Value} {x : DataW H × List MemPlace}
  (h : DataW.trod enc P w base spare held fuel T cs = some x) : ∃ n, cs = [.int k n] ∧ (Lit.int k n).wf = true := by
 cases fuel with
 | zero => cases h
 | succ fuel =>
  simp only [DataW.trod, hT] at h
  split at h <;> simp_all
theorem KSY {fuel : Nat} {T : TypeId} (hT : P.underlying T = some .string) {cs : List Value} {x : DataW H × List MemPlace}
  (h : DataW.trod enc P w base spare held fuel T cs = some x) : ∃ s : ByteArray, cs = [.string s] ∧ s.size ≤ maxLen := by
 cases fuel with
 | zero => cases h
 | succ fuel =>
  simp only [DataW.trod, hT] at h
  split at h <;> simp_all
theorem QrV {α : Type} (R : World → List Value → α → Prop) {fuel : Nat} {T e : TypeId} {size : Nat} (hT : P.underlying T = some (.slice e)) (hc : P.cellsOf e = size) (hsz : 0 < size)
  (hR : ∀ fuel cs x, DataW.trod enc P w base (fun _ => true) held fuel e cs = some x → ∃ t, R w cs t) {cs : List Value} {x : DataW H × List MemPlace}
  (h : DataW.trod enc P w base (fun _ => true) held fuel T cs = some x) : ∃ v, cs = [v] ∧ ∃ ts, RdL R size w v ts := by
 cases fuel with
 | zero => cases h
 | succ fuel =>
  have hv : ∃ v, cs = [v] := by
   have h' := h
   simp only [DataW.trod, hT] at h'
   split at h' <;> simp_all
  obtain ⟨v, rfl⟩ := hv
  exact ⟨v, rfl, ZJx R hT hc hsz (fun cs x => hR fuel cs x) h⟩
theorem KND {n : Int} (h : (Lit.int .u8 n).wf = true) : Value.int .u8 n = .int .u8 ((UInt8.ofInt n).toNat : Int) := by
 have hb := bounds_u8 h
 congr 1
 simp only [UInt8.ofInt, UInt8.toNat_ofNat']
 omega
theorem qre {n : Int} (h : (Lit.int .i64 n).wf = true) : -9223372036854775808 ≤ n ∧ n ≤ 9223372036854775807 := bounds_i64 h
end
end Go.Proofs.Ytpoojfnmhnedpaa
end
section
namespace Go.Proofs.Ytpoojfnmhnedpaa
open Go.ChangeShapes Go.WideShapes Go.ChangeAt Go.RowKit
section
variable {K : Code → CC → Prop} {ρ : Mp} {h : List AB} {w : World}
theorem In.hz (i : In K ρ h w) : h.map AB.freeze = h := by
 refine List.ext_getElem? fun j => ?_
 rw [List.getElem?_map]
 cases e : h[j]? with
 | none => rfl
 | some B =>
  have := i.frz B (List.mem_of_getElem? e)
  rw [Option.map_some]
  congr 1
  cases B <;> first | rfl | (cases this; done) | (simp only [AB.mut] at this; subst this; rfl)
theorem In.sl {α : Type} {r : Row α} (i : In K ρ h w) (hfl : ∀ x, ∀ a ∈ r.f x, a.fl = true) {v : Value} {l : List α} (hs : Sl w v l.length ((r.cells l).map AV.val)) :
  ∃ x s B, In K (ρ ++ [x]) (h ++ [B]) w ∧ VR (ρ ++ [x]) s v ∧ Rd r (h ++ [B]) s l ∧ Ext ρ (ρ ++ [x]) ∧ s.capOk = true := by
 obtain ⟨hl, x, i', vr⟩ := i.slice hfl hs
 exact ⟨x, _, _, i', vr, Y2Q (by rw [List.getElem?_append_right (Nat.le_refl _), Nat.sub_self]; rfl) hl, Ext.push _ _, QbF _ _⟩
theorem RdL.row {α : Type} {r : Row α} {v : Value} {ts : List α} (e : RdL (fun _ cs x => cs = (r.f x).map AV.val) r.sz w v ts) : Sl w v ts.length ((r.cells ts).map AV.val) := by
 obtain ⟨cs, h1, h2, h3⟩ := e
 have hcs : cs = (r.cells ts).map AV.val := by
  apply List.ext_getElem?
  intro k
  by_cases hk : k < ts.length * r.sz
  ·have hi : k / r.sz < ts.length := (Nat.div_lt_iff_lt_mul r.pos).2 hk
   have hj := Nat.mod_lt k r.pos
   have ek : k = k / r.sz * r.sz + k % r.sz := by rw [Nat.mul_comm]; exact (Nat.div_add_mod k r.sz).symm
   have ht : ts[k / r.sz]? = some (ts.getD (k / r.sz) r.d) := by rw [List.getD_eq_getElem?_getD, List.getElem?_eq_getElem hi]; rfl
   have q := h3 _ _ ht
   have q1 : ((cs.drop (k / r.sz * r.sz)).take r.sz)[k % r.sz]? = ((r.f (ts.getD (k / r.sz) r.d)).map AV.val)[k % r.sz]? := by rw [q]
   rw [List.getElem?_take_of_lt hj, List.getElem?_drop, ← ek, List.getElem?_map, ← r.cells_get ts _ _ hi hj, ← ek] at q1
   rw [q1, List.getElem?_map]
  ·rw [List.getElem?_eq_none (by omega), List.getElem?_eq_none (by rw [List.length_map, r.cells_len]; omega)]
 rw [hcs] at h1
 exact h1
end
section
variable {H : Type} {enc : TypeId × Value → H} {w : World} {base : Nat} {held : Bool}
theorem QcR {fuel : Nat} {i : Int} {x : DataW H × List MemPlace} (h : DataW.trod enc Try.prog w base (fun _ => true) held fuel 3 [.int .i64 i] = some x) : -9223372036854775808 ≤ i ∧ i ≤ 9223372036854775807 := by
 obtain ⟨n, e, hw⟩ := XcG Try.underlying3 h
 cases e
 exact qre hw
end
end Go.Proofs.Ytpoojfnmhnedpaa
end
section
namespace Go.Proofs.Ytpoojfnmhnedpaa
open Go.ChangeShapes Go.WideShapes Go.ChangeAt Go.RowKit
section
variable {H : Type} {enc : TypeId × Value → H} {w : World} {base : Nat} {held : Bool}
theorem ZVT {fuel : Nat} {cs : List Value} {x : DataW H × List MemPlace} (h : DataW.trod enc Try.prog w base (fun _ => true) held fuel 23 cs = some x) : ∃ i : Dg, cs = (idR.f i).map AV.val := by
 cases fuel with
 | zero => cases h
 | succ fuel =>
  obtain ⟨hl, he⟩ := Ys3 Try.underlying23 h
  have hl2 : cs.length = 32 := hl.trans (by kernel_rfl)
  have h1 : Try.prog.cellsOf 5 = 1 := by kernel_rfl
  obtain ⟨d, hd, hdt⟩ := Zw9 (fun i (c : UInt8) => cs[i]? = some (.int .u8 (c.toNat : Int))) 32 fun i hi => by
   obtain ⟨y, hy⟩ := he i hi
   rw [h1] at hy
   obtain ⟨n, hn, hw⟩ := XcG Try.underlying5 hy
   refine ⟨UInt8.ofInt n, ?_⟩
   have e : ((cs.drop (i * 1)).take 1)[0]? = some (.int .u8 n) := by rw [hn]; rfl
   rw [List.getElem?_take_of_lt (by omega), List.getElem?_drop, KND hw] at e
   simpa using e
  refine ⟨⟨d, hd⟩, ?_⟩
  apply List.ext_getElem?
  intro i
  show cs[i]? = ((d.map u8A).map AV.val)[i]?
  rw [List.map_map]
  by_cases hi : i < 32
  ·rw [List.getElem?_map, List.getElem?_eq_getElem (by omega : i < d.length), Option.map_some, hdt i _ (List.getElem?_eq_getElem (by omega : i < d.length))]
   rfl
  ·rw [List.getElem?_eq_none (by omega), List.getElem?_eq_none (by rw [List.length_map]; omega)]
end
end Go.Proofs.Ytpoojfnmhnedpaa
end
section
namespace Go.Proofs.Ytpoojfnmhnedpaa
open Go.ChangeShapes Go.WideShapes Go.ChangeAt Go.RowKit
section
variable {H : Type} {enc : TypeId × Value → H} {w : World} {base : Nat} {held : Bool}
theorem zKo {fuel : Nat} {cs : List Value} {x : DataW H × List MemPlace} (h : DataW.trod enc Try.prog w base (fun _ => true) held fuel 32 cs = some x) : ∃ v, cs = [v] ∧ ∃ xs : List UInt8, Sl w v xs.length ((Xdk.cells xs).map AV.val) := by
 obtain ⟨v, h1, ts, h2⟩ := QrV (fun _ cs (c : UInt8) => cs = (Xdk.f c).map AV.val) Try.underlying32 (size := 1) (by kernel_rfl) (by decide) (fun fuel cs x hx => by
  obtain ⟨n, rfl, hw⟩ := XcG Try.underlying5 hx
  exact ⟨UInt8.ofInt n, by rw [KND hw]; rfl⟩) h
 exact ⟨v, h1, ts, RdL.row (r := Xdk) h2⟩
theorem QOE {fuel : Nat} {i : Int} {x : DataW H × List MemPlace} (h : DataW.trod enc Try.prog w base (fun _ => true) held fuel 5 [.int .u8 i] = some x) : 0 ≤ i ∧ i ≤ 255 := by
 obtain ⟨n, e, hw⟩ := XcG Try.underlying5 h
 cases e
 exact bounds_u8 hw
def Xc6 (d : Dsc) : Prop := I64 d.media ∧ I64 d.size
theorem YZE {α : Type} (cs : List α) (a b : Nat) : (cs.drop a).take b ++ cs.drop (a + b) = cs.drop a := by rw [← List.drop_drop, List.take_append_drop]
theorem zn2 {fuel : Nat} {cs : List Value} {x : DataW H × List MemPlace} (h : DataW.trod enc Try.prog w base (fun _ => true) held fuel 25 cs = some x) : ∃ d : Dsc, cs = (deR.f d).map AV.val ∧ Xc6 d := by
 cases fuel with
 | zero => cases h
 | succ fuel =>
  obtain ⟨hl, he⟩ := zBT Try.underlying25 h
  have hl2 : cs.length = 35 := hl.trans (by kernel_rfl)
  simp only [List.forall_mem_cons] at he
  obtain ⟨⟨y0, h0⟩, ⟨y1, h1⟩, ⟨y2, h2⟩, ⟨y3, h3⟩, _⟩ := he
  rw [(by kernel_rfl : Try.prog.cellsOf 3 = 1)] at h0 h2
  rw [(by kernel_rfl : Try.prog.cellsOf 23 = 32)] at h1
  rw [(by kernel_rfl : Try.prog.cellsOf 9 = 1)] at h3
  obtain ⟨m, e0, b0⟩ := XcG Try.underlying3 h0
  obtain ⟨i, e1⟩ := ZVT h1
  obtain ⟨z, e2, b2⟩ := XcG Try.underlying3 h2
  obtain ⟨t, e3, _⟩ := KSY Try.underlying9 h3
  have e0' : (cs.drop 0).take 1 = [.int .i64 m] := e0
  have e1' : (cs.drop 1).take 32 = (idR.f i).map AV.val := e1
  have e2' : (cs.drop 33).take 1 = [.int .i64 z] := e2
  have e3' : (cs.drop 34).take 1 = [.string t] := e3
  refine ⟨⟨m, i, z, t.data.toList⟩, ?_, ⟨qre b0, qre b2⟩⟩
  have a0 := YZE cs 0 1
  have a1 := YZE cs 1 32
  have a2 := YZE cs 33 1
  have a3 := YZE cs 34 1
  rw [e0', Nat.zero_add] at a0
  rw [e1'] at a1
  rw [e2'] at a2
  rw [e3', List.drop_eq_nil_of_le (show cs.length ≤ 34 + 1 by omega)] at a3
  rw [← a3] at a2
  rw [← a2] at a1
  rw [← a1] at a0
  rw [show cs = cs.drop 0 from rfl, ← a0, XmS, List.map_cons, List.map_append]
  rfl
theorem RdL.and {α : Type} {R : World → List Value → α → Prop} {Q : α → Prop} {size : Nat} {v : Value} {ts : List α} (e : RdL (fun w cs c => R w cs c ∧ Q c) size w v ts) : RdL R size w v ts ∧ ∀ t ∈ ts, Q t := by
 obtain ⟨cs, h1, h2, h3⟩ := e
 exact ⟨⟨cs, h1, h2, fun i t ht => (h3 i t ht).1⟩, fun t ht => by
  obtain ⟨i, hi⟩ := List.mem_iff_getElem?.1 ht
  exact (h3 i t hi).2⟩
theorem JaV {fuel : Nat} {cs : List Value} {x : DataW H × List MemPlace} (h : DataW.trod enc Try.prog w base (fun _ => true) held fuel 26 cs = some x) : ∃ v, cs = [v] ∧ ∃ xs : List Dsc, Sl w v xs.length ((deR.cells xs).map AV.val) ∧ ∀ d ∈ xs, Xc6 d := by
 obtain ⟨v, h1, ts, h2⟩ := QrV (fun _ cs (c : Dsc) => cs = (deR.f c).map AV.val ∧ Xc6 c) Try.underlying26 (size := 35) (by kernel_rfl) (by decide) (fun fuel cs x hx => zn2 hx) h
 obtain ⟨h3, h4⟩ := RdL.and h2
 exact ⟨v, h1, ts, RdL.row (r := deR) h3, h4⟩
theorem Yhh {fuel : Nat} {cs : List Value} {x : DataW H × List MemPlace} (h : DataW.trod enc Try.prog w base (fun _ => true) held fuel 28 cs = some x) :
  ∃ (k : Int) (t : List UInt8) (c : Dsc) (lv sv : Value), cs = (AV.i .i64 k :: .s t :: deR.f c).map AV.val ++ [lv, sv] ∧ I64 k ∧ Xc6 c ∧ (∃ xs : List Dsc, Sl w lv xs.length ((deR.cells xs).map AV.val) ∧ ∀ d ∈ xs, Xc6 d) ∧ ∃ ys : List Dsc, Sl w sv ys.length ((deR.cells ys).map AV.val) ∧ ∀ d ∈ ys, Xc6 d := by
 cases fuel with
 | zero => cases h
 | succ fuel =>
  obtain ⟨hl, he⟩ := zBT Try.underlying28 h
  have hl2 : cs.length = 39 := hl.trans (by kernel_rfl)
  simp only [List.forall_mem_cons] at he
  obtain ⟨⟨y0, h0⟩, ⟨y1, h1⟩, ⟨y2, h2⟩, ⟨y3, h3⟩, ⟨y4, h4⟩, _⟩ := he
  rw [(by kernel_rfl : Try.prog.cellsOf 3 = 1)] at h0
  rw [(by kernel_rfl : Try.prog.cellsOf 9 = 1)] at h1
  rw [(by kernel_rfl : Try.prog.cellsOf 25 = 35)] at h2
  rw [(by kernel_rfl : Try.prog.cellsOf 26 = 1)] at h3 h4
  obtain ⟨k, e0, b0⟩ := XcG Try.underlying3 h0
  obtain ⟨t, e1, _⟩ := KSY Try.underlying9 h1
  obtain ⟨c, e2, b2⟩ := zn2 h2
  obtain ⟨lv, e3, s3⟩ := JaV h3
  obtain ⟨sv, e4, s4⟩ := JaV h4
  have e0' : (cs.drop 0).take 1 = [.int .i64 k] := e0
  have e1' : (cs.drop 1).take 1 = [.string t] := e1
  have e2' : (cs.drop 2).take 35 = (deR.f c).map AV.val := e2
  have e3' : (cs.drop 37).take 1 = [lv] := e3
  have e4' : (cs.drop 38).take 1 = [sv] := e4
  refine ⟨k, t.data.toList, c, lv, sv, ?_, qre b0, b2, s3, s4⟩
  have a0 := YZE cs 0 1
  have a1 := YZE cs 1 1
  have a2 := YZE cs 2 35
  have a3 := YZE cs 37 1
  have a4 := YZE cs 38 1
  rw [e0', Nat.zero_add] at a0
  rw [e1'] at a1
  rw [e2'] at a2
  rw [e3'] at a3
  rw [e4', List.drop_eq_nil_of_le (show cs.length ≤ 38 + 1 by omega)] at a4
  rw [← a4] at a3
  rw [← a3] at a2
  rw [← a2] at a1
  rw [← a1] at a0
  rw [show cs = cs.drop 0 from rfl, ← a0, List.map_cons, List.map_cons]
  rfl
end
theorem YHO {ρ : Mp} {l s : AV} {lv sv : Value} (hl : VR ρ l lv) (hs : VR ρ s sv) (k : Int) (t : List UInt8) (c : Dsc) : VR ρ (.ag (.i .i64 k :: .s t :: (deR.f c ++ [l, s]))) (.agg ((AV.i .i64 k :: .s t :: deR.f c).map AV.val ++ [lv, sv]).toArray) := by
 have hf : ∀ a ∈ (AV.i .i64 k :: .s t :: deR.f c), a.fl = true := fun a ha => by
  rcases List.mem_cons.1 ha with rfl | ha
  ·rfl
  ·rcases List.mem_cons.1 ha with rfl | ha
   ·rfl
   ·exact qAL c a ha
 have h1 := YRr ρ (AV.i .i64 k :: .s t :: deR.f c) hf
 have h2 := h1.append (VL.cons hl (VL.one hs))
 have e : ((AV.i .i64 k :: .s t :: deR.f c).map AV.val).toArray ++ #[lv, sv] = ((AV.i .i64 k :: .s t :: deR.f c).map AV.val ++ [lv, sv]).toArray := by
  apply Array.toList_inj.1
  simp
 rw [← e]
 exact X3Z h2
end Go.Proofs.Ytpoojfnmhnedpaa
end
section
namespace Go.Proofs.Ytpoojfnmhnedpaa
open Go.ChangeShapes Go.WideShapes Go.ChangeAt Go.RowKit
theorem Try.own : ownKnob Try.prog.godebug = none := by kernel_rfl
theorem Try.laidOut : laidOutB Try.prog = true := by kernel_rfl
section
variable {H : Type} {enc : TypeId × Value → H} {P : Program}
theorem qH2 (hl : laidOutB P = true) {W W' : World} (hb : Below W.heap.size W W') : ∀ (ts : List TypeId) (vs : List Value) (ds : List (DataW H)) (ps : List MemPlace),
  (∀ t ∈ ts, P.readableRec t = true ∧ t < P.types.size) → DataW.TrodAll enc P W 0 (fun _ => true) true ts vs ds ps → (∀ x ∈ ps, x.block < W.heap.size) →
  DataW.TrodAll enc P W' 0 (fun b => decide (b < W.heap.size)) true ts vs ds ps
 | [], vs, ds, ps, _, h, _ => by
  obtain ⟨rfl, rfl, rfl⟩ := trodAll_nil h
  exact trodAll_mk0
 | t :: ts, vs, ds, ps, ht, h, hp => by
  obtain ⟨v, vs', d, ds', p, p', rfl, rfl, rfl, h0, r0⟩ := trodAll_cons h
  exact trodAll_cons_mk (Below.trod hl (ht t (.head _)).1 (ht t (.head _)).2 h0 hb fun x hx => hp x (List.mem_append.2 (.inl hx)))
   (qH2 hl hb ts vs' ds' p' (fun t' h' => ht t' (.tail _ h')) r0 fun x hx => hp x (List.mem_append.2 (.inr hx)))
theorem Z0i (hl : laidOutB P = true) {f : Func} {s : ChangeSpec} {W W' : World} {args : Array Value} {ds gs : List (DataW H)} {before : List MemPlace} {tb : TypeId} (hb : P.underlying tb = some .bool)
  (hr : f.resultTypes = #[tb]) (hv : s.vars = []) (hfn : s.fn H (ds ++ gs) = { results := [.lit (.bool true)], args := ds })
  (hp0 : (f.params.toList.all fun t => P.readableRec t && decide (t < P.types.size)) = true)
  (hW : DataW.Whole enc P f.params.toList s.vars false W args.toList ds gs before) (hk : Kept NoS W W') :
  s.post enc P f false true false false W args (.bool true) W' := by
 have hp : ∀ t ∈ f.params.toList, P.readableRec t = true ∧ t < P.types.size := fun t ht => by
  have := List.all_eq_true.1 hp0 t ht
  simpa using this
 have hbw : Below W.heap.size W W' := hk.below (Nat.le_refl _) fun _ _ e => e.elim
 have hlt := hW.lt
 have hW' := hW
 obtain ⟨p, q, hA, hV, rfl, _, _⟩ := hW
 refine ⟨ds, gs, p ++ q, [], p, [], hW', ?_, ?_, ?_, ?_, fun h => by cases h⟩
 ·rw [hfn, hr]
  exact trodAll_cons_mk (shut_bool hb _) trodAll_mk0
 ·rw [hfn]
  exact qH2 hl hbw _ _ _ _ hp hA fun x hx => hlt x (List.mem_append.2 (.inl hx))
 ·rw [hfn, hv] 
  rw [hv] at hV
  obtain ⟨rfl, rfl⟩ := trodVars_none hV
  exact hV
 ·exact hbw.frame _
end
end Go.Proofs.Ytpoojfnmhnedpaa
end
section
namespace Go.Proofs.Ytpoojfnmhnedpaa
set_option maxRecDepth 100000
set_option maxHeartbeats 4000000
def QsC (d : Dsc) : Bool := decide (300 < d.plat.length)
theorem Xlu {α : Type} (f : α → Bool) (l : List α) (d : α) {n : Nat} (h : n < l.length) : (l.drop n).any f = (f (l.getD n d) || (l.drop (n + 1)).any f) := by
 rw [List.drop_eq_getElem_cons h, List.any_cons, List.getD_eq_getElem?_getD, List.getElem?_eq_getElem h]
 rfl
def XC7 (t : List UInt8) (c : Dsc) (ls ss : List Dsc) : Bool := decide (20 < ls.length ∨ 12 < ss.length ∨ 5000 < t.length ∨ 300 < c.plat.length) || (ls.any QsC || ss.any QsC)
theorem q1L {t : List UInt8} {c : Dsc} {ls ss : List Dsc} (h : XC7 t c ls ss = false) : ls.length ≤ 20 ∧ ss.length ≤ 12 ∧ t.length ≤ 5000 ∧ c.plat.length ≤ 300 ∧ ∀ d ∈ ls ++ ss, d.plat.length ≤ 300 := by
 unfold XC7 at h
 simp only [Bool.or_eq_false_iff, decide_eq_false_iff_not, List.any_eq_false] at h
 obtain ⟨h1, h2, h3⟩ := h
 refine ⟨by omega, by omega, by omega, by omega, fun d hd => ?_⟩
 rcases List.mem_append.1 hd with hd | hd
 ·have := h2 d hd
  unfold QsC at this
  simpa using this
 ·have := h3 d hd
  unfold QsC at this
  simpa using this
noncomputable def q2h : List AV → List AB → Option (AV × List AB)
 | [a], h => (inM h a).bind fun y => some (.b (XC7 y.2.1 y.2.2.1 y.2.2.2.2.2.1 y.2.2.2.2.2.2), h)
 | _, _ => none
theorem ZOc : Spec Try.prog 8 q2h := by
 intro args h v h' e
 unfold q2h at e
 split at e
 ·rename_i a
  obtain ⟨k, t, c, l, s, ls, ss, rfl, hl, hs, e1⟩ := q2E e
  clear e
  cases e1
  refine FnAt.c (FnAt.run (by kernel_rfl) (T := ⟨[], []⟩) ⟨trivial, trivial⟩ Try.func8 sw8 fun ho hh => ?_)
  obtain ⟨c1, c2, c3, c4⟩ := KMZ c l s
  have ca := YNd c hl.isSl hs.isSl
  simp only [JjW, ZWl, QxH, Xx3, Bool.and_eq_true, Bool.and_true] at ho
  obtain ⟨-, -, -, ol, os⟩ := ho
  have fl := hl.fx ol (sz := 35) rfl
  have fs := hs.fx os (sz := 35) rfl
  have d34 : (deR.f c ++ [l, s])[34]? = some (.s c.plat) := by
   rw [List.getElem?_append_left (by have := deR.len c; rw [Qy0] at this; omega)]
   exact (XcV c).2.2.1
  have h1 := hl.2
  have h2 := hs.2
  unfold maxLen at h1 h2
  unfold w8
  by_cases g1 : 20 < ls.length
  ·have g1' : ((20 : Int) < (ls.length : Int)) = True := eq_true (by omega)
   have hr : XC7 t c ls ss = true := by unfold XC7; rw [decide_eq_true (.inl g1)]; rfl
   rw [hr]
   simp only [JaF, Qv5, Zsz, qtN, qup, simprocAttr, CO.tmps, Opd.tmps, optT, Nat.reducePow, Nat.reduceDiv, Nat.reduceMod, YEA, Qup, c1, c2, c3, d34, ca, fl, fs, g1']
   exact Bt.drop _ hh rfl rfl
  have g1' : ((20 : Int) < (ls.length : Int)) = False := eq_false (by omega)
  by_cases g2 : 12 < ss.length
  ·have g2' : ((12 : Int) < (ss.length : Int)) = True := eq_true (by omega)
   have hr : XC7 t c ls ss = true := by unfold XC7; rw [decide_eq_true (.inr (.inl g2))]; rfl
   rw [hr]
   simp only [JaF, Qv5, Zsz, qtN, qup, simprocAttr, CO.tmps, Opd.tmps, optT, Nat.reducePow, Nat.reduceDiv, Nat.reduceMod, YEA, Qup, c1, c2, c3, d34, ca, fl, fs, g1', g2']
   exact Bt.drop _ hh rfl rfl
  have g2' : ((12 : Int) < (ss.length : Int)) = False := eq_false (by omega)
  by_cases g3 : 5000 < t.length
  ·have g3' : ((5000 : Int) < (t.length : Int)) = True := eq_true (by omega)
   have hr : XC7 t c ls ss = true := by unfold XC7; rw [decide_eq_true (.inr (.inr (.inl g3)))]; rfl
   rw [hr]
   simp only [JaF, Qv5, Zsz, qtN, qup, simprocAttr, CO.tmps, Opd.tmps, optT, Nat.reducePow, Nat.reduceDiv, Nat.reduceMod, YEA, Qup, c1, c2, c3, d34, ca, fl, fs, g1', g2', g3']
   exact Bt.drop _ hh rfl rfl
  have g3' : ((5000 : Int) < (t.length : Int)) = False := eq_false (by omega)
  by_cases g4 : 300 < c.plat.length
  ·have g4' : ((300 : Int) < (c.plat.length : Int)) = True := eq_true (by omega)
   have hr : XC7 t c ls ss = true := by unfold XC7; rw [decide_eq_true (.inr (.inr (.inr g4)))]; rfl
   rw [hr]
   simp only [JaF, Qv5, Zsz, qtN, qup, simprocAttr, CO.tmps, Opd.tmps, optT, Nat.reducePow, Nat.reduceDiv, Nat.reduceMod, YEA, Qup, c1, c2, c3, d34, ca, fl, fs, g1', g2', g3', g4']
   exact Bt.drop _ hh rfl rfl
  have g4' : ((300 : Int) < (c.plat.length : Int)) = False := eq_false (by omega)
  have hr : XC7 t c ls ss = (ls.any QsC || ss.any QsC) := by unfold XC7; rw [decide_eq_false (by omega), Bool.false_or]
  rw [hr]
  simp only [JaF, Qv5, Zsz, qtN, qup, simprocAttr, CO.tmps, Opd.tmps, optT, Nat.reducePow, Nat.reduceDiv, Nat.reduceMod, YEA, Qup, c1, c2, c3, d34, ca, fl, fs, g1', g2', g3', g4']
  refine KIj (S := Nat) (fun n => ls.length - n) (fun n => tp 1 ++ [.p (h.length + 0) 0] ++ tp 1 ++ [.i .i64 n] ++ tp 54) (fun n => n ≤ ls.length ∧ ls.any QsC = (ls.drop n).any QsC) 0 ⟨Nat.zero_le _, rfl⟩ (by simp only [Zsz, qup, simprocAttr, Int.natCast_zero]) fun n hn => ?_
  obtain ⟨n1, n2⟩ := hn
  by_cases gn : n < ls.length
  ·have gn' : ((n : Int) < (ls.length : Int)) = True := eq_true (by omega)
   have gn2 := eq_true gn
   have e1 : IntKind.i64.wrap ((n : Int) + 1) = ((n + 1 : Nat) : Int) := KqL (by unfold In64; omega)
   have st := Xlu QsC ls deR.d gn
   obtain ⟨d, hd⟩ : ∃ d, d = ls.getD n deR.d := ⟨_, rfl⟩
   rw [← hd] at st
   obtain ⟨-, -, q34, -⟩ := XcV d
   by_cases gd : 300 < d.plat.length
   ·have gd' : ((300 : Int) < (d.plat.length : Int)) = True := eq_true (by omega)
    have : QsC d = true := decide_eq_true gd
    rw [n2, st, this]
    simp only [Zsz, qtN, qup, simprocAttr, CO.tmps, Opd.tmps, optT, Nat.reducePow, Nat.reduceDiv, Nat.reduceMod, YEA, Qup, c2, fl, gn', gn2, ← hd, q34, gd']
    exact Bt.drop _ hh rfl rfl
   ·have gd' : ((300 : Int) < (d.plat.length : Int)) = False := eq_false (by omega)
    have : QsC d = false := decide_eq_false gd
    rw [this, Bool.false_or] at st
    simp only [Zsz, qtN, qup, simprocAttr, CO.tmps, Opd.tmps, optT, Nat.reducePow, Nat.reduceDiv, Nat.reduceMod, YEA, Qup, c2, fl, gn', gn2, ← hd, q34, gd', e1]
    exact ⟨n + 1, ⟨gn, by rw [n2, st]⟩, by omega, Wk.refl _⟩
  ·obtain rfl : n = ls.length := by omega
   have gn' : ((ls.length : Int) < (ls.length : Int)) = False := eq_false (by omega)
   rw [n2, List.drop_length, List.any_nil, Bool.false_or]
   simp only [Zsz, qtN, qup, simprocAttr, CO.tmps, Opd.tmps, optT, Nat.reducePow, Nat.reduceDiv, Nat.reduceMod, c2, fl, gn']
   refine KIj (S := Nat) (fun n => ss.length - n) (fun n => tp 1 ++ [.p (h.length + 0) 0] ++ tp 2 ++ [.i .i64 n] ++ tp 53) (fun n => n ≤ ss.length ∧ ss.any QsC = (ss.drop n).any QsC) 0 ⟨Nat.zero_le _, rfl⟩ (by simp only [Zsz, qup, simprocAttr, Int.natCast_zero]) fun n hn => ?_
   obtain ⟨n1, n2⟩ := hn
   by_cases gn : n < ss.length
   ·have gn' : ((n : Int) < (ss.length : Int)) = True := eq_true (by omega)
    have gn2 := eq_true gn
    have e1 : IntKind.i64.wrap ((n : Int) + 1) = ((n + 1 : Nat) : Int) := KqL (by unfold In64; omega)
    have st := Xlu QsC ss deR.d gn
    obtain ⟨d, hd⟩ : ∃ d, d = ss.getD n deR.d := ⟨_, rfl⟩
    rw [← hd] at st
    obtain ⟨-, -, q34, -⟩ := XcV d
    by_cases gd : 300 < d.plat.length
    ·have gd' : ((300 : Int) < (d.plat.length : Int)) = True := eq_true (by omega)
     have : QsC d = true := decide_eq_true gd
     rw [n2, st, this]
     simp only [Zsz, qtN, qup, simprocAttr, CO.tmps, Opd.tmps, optT, Nat.reducePow, Nat.reduceDiv, Nat.reduceMod, YEA, Qup, c3, fs, gn', gn2, ← hd, q34, gd']
     exact Bt.drop _ hh rfl rfl
    ·have gd' : ((300 : Int) < (d.plat.length : Int)) = False := eq_false (by omega)
     have : QsC d = false := decide_eq_false gd
     rw [this, Bool.false_or] at st
     simp only [Zsz, qtN, qup, simprocAttr, CO.tmps, Opd.tmps, optT, Nat.reducePow, Nat.reduceDiv, Nat.reduceMod, YEA, Qup, c3, fs, gn', gn2, ← hd, q34, gd', e1]
     exact ⟨n + 1, ⟨gn, by rw [n2, st]⟩, by omega, Wk.refl _⟩
   ·obtain rfl : n = ss.length := by omega
    have gn' : ((ss.length : Int) < (ss.length : Int)) = False := eq_false (by omega)
    rw [n2, List.drop_length]
    simp only [Zsz, qtN, qup, simprocAttr, CO.tmps, Opd.tmps, optT, Nat.reducePow, Nat.reduceDiv, Nat.reduceMod, c3, fs, gn']
    exact Bt.drop _ hh rfl rfl
 ·cases e
end Go.Proofs.Ytpoojfnmhnedpaa
end
section
namespace Go.Proofs.Ytpoojfnmhnedpaa
set_option maxRecDepth 100000
set_option maxHeartbeats 4000000
theorem qKr (a b c d : Int) : JmB [.i, .i] [.i .i64 a, .i .i64 b] [.i .i64 c, .i .i64 d] = some (decide ((a, b) = (c, d))) := by
 simp only [JmB, YZb, if_true, Option.bind_some, Option.map_some, Option.some.injEq, Bool.and_true, Prod.mk.injEq]
 rw [Bool.eq_iff_iff]
 simp
def I64D (d : Dsc) : Prop := I64 d.media ∧ I64 d.size
theorem QET (k : Int) (c : Dsc) (ls ss : List Dsc) : (desL k c ls ss).length = (if k = 3 then 1 else 0) + (ls.length + ss.length) := by
 unfold desL
 rw [List.length_append, List.length_append]
 split <;> simp <;> omega
theorem J8I {h : List AB} (hz : h.map AB.freeze = h) {l s : AV} {ls ss : List Dsc} (hl : Rd deR h l ls) (hs : Rd deR h s ss) (k : Int) (t : List UInt8) (c : Dsc) (bk : I64 k) (bc : I64D c) (bl : ∀ d ∈ ls, I64D d) (bs : ∀ d ∈ ss, I64D d) (a : Int) (ha : -9223372036854775808 ≤ a ∧ a ≤ 9223372036854775807) (m : Int) (hm : 0 ≤ m ∧ m ≤ 255) :
  FnAt Try.prog 6 [.ag (.i .i64 k :: .s t :: (deR.f c ++ [l, s])), .i .i64 a, .i .u8 m] h (.b true) h := by
 refine FnAt.run (by kernel_rfl) (T := ⟨[⟨5, YUt, fun _ => []⟩, ⟨8, q2h, fun _ => []⟩, ⟨20, Qil, fun _ => []⟩, ⟨11, QYE, fun _ => []⟩, ⟨18, Kho, fun _ => []⟩, ⟨26, JdO, fun _ => []⟩, ⟨25, KfG, fun _ => []⟩, ⟨13, ZtD, fun _ => []⟩], []⟩) ⟨⟨XHa, ZOc, Xqp, JHI, KXS, zrp, XDP, Yco, trivial⟩, trivial⟩ Try.func6 sw6 fun ho hh => ?_
 obtain ⟨c1, c2, c3, c4⟩ := KMZ c l s
 have ca := YNd c hl.isSl hs.isSl
 have tm : ((deR.f c ++ [l, s]).take 37) = deR.f c ++ [l, s] := List.take_of_length_le (by omega)
 simp only [JjW, ZWl, QxH, Xx3, Bool.and_eq_true, Bool.and_true] at ho
 obtain ⟨⟨-, -, -, ol, os⟩, -⟩ := ho
 have fl := hl.fx ol (sz := 35) rfl
 have fs := hs.fx os (sz := 35) rfl
 have im : ∀ L, inM (h ++ L) (.ag (.i .i64 k :: .s t :: (deR.f c ++ [l, s]))) = some (k, t, c, l, s, ls, ss) := fun L => Kkg (hl.app L).get (hs.app L).get
 have mok : ManOk (JcG k t c ls ss) := ZEI bk bc bl bs
 unfold w6
 by_cases g1 : XC7 t c ls ss = true
 ·simp only [JaF, Qv5, Zsz, qtN, qup, simprocAttr, CO.tmps, Opd.tmps, optT, Nat.reducePow, Nat.reduceDiv, Nat.reduceMod, c1, c2, c3, ca, tm, im, g1, YUt, q2h]
  exact Bt.drop _ hh rfl rfl
 have g1' : XC7 t c ls ss = false := by simpa using g1
 obtain ⟨y1, y2, y3, y4, y5⟩ := q1L g1'
 have hEB : EB k t c ls ss := ⟨by unfold I64 at bk; unfold In64; omega, by omega, ⟨by have := bc.1; unfold I64 at this; unfold In64; omega, by have := bc.2; unfold I64 at this; unfold In64; omega, by omega⟩, by omega, fun d hd => by
  have h1 := y5 d hd
  have h2 : I64D d := by
   rcases List.mem_append.1 hd with hd | hd
   ·exact bl d hd
   ·exact bs d hd
  exact ⟨by have := h2.1; unfold I64 at this; unfold In64; omega, by have := h2.2; unfold I64 at this; unfold In64; omega, by omega⟩⟩
 have hEB' := eq_true hEB
 by_cases g2 : (menc (JcG k t c ls ss)).2 = 0
 case neg =>
  have g2' := eq_false g2
  have hE := ZDK g2
  have gl : ∀ id, lenV (rsl Xdk id []) = some 0 := fun id => rfl
  simp only [JaF, Qv5, Zsz, qtN, qup, simprocAttr, CO.tmps, Opd.tmps, optT, Nat.reducePow, Nat.reduceDiv, Nat.reduceMod, c1, c2, c3, ca, tm, im, g1', hEB', g2', hE, gl, ne_eq, not_false_eq_true, decide_true, YUt, q2h, QYE]
  exact Bt.drop _ hh rfl rfl
 obtain ⟨hin, hE, hlen⟩ := qFY mok g2
 have hpos := QX1 (JcG k t c ls ss)
 have d1 := ZTO hin hlen
 have dcut := fun n hn => KDM hin hlen (k := n) hn
 have dmore := zSH hin hlen
 obtain ⟨bz, hbz⟩ : ∃ bz, bz = KgO (JcG k t c ls ss) := ⟨_, rfl⟩
 rw [← hbz] at hE hlen hpos d1 dmore
 simp only [← hbz] at dcut
 have hbm : bz.length ≤ maxLen := by unfold maxLen; omega
 have hb6 : (bz.length ≤ 1000000) = True := eq_true (by omega)
 obtain ⟨mb, rfl⟩ : ∃ mb : UInt8, m = (mb.toNat : Int) := ⟨UInt8.ofNat m.toNat, by
  have : (UInt8.ofNat m.toNat).toNat = m.toNat := by rw [UInt8.toNat_ofNat']; exact Nat.mod_eq_of_lt (by omega)
  omega⟩
 obtain ⟨n, hn⟩ : ∃ n : Nat, a % (bz.length : Int) = (n : Int) := ⟨(a % (bz.length : Int)).toNat, (Int.toNat_of_nonneg (Int.emod_nonneg _ (by omega))).symm⟩
 have hnl : n < bz.length := by have := Int.emod_lt_of_pos a (show (0 : Int) < bz.length by omega); omega
 have p1 := eq_true ha.1
 have p2 := eq_true ha.2
 have p3 : (-9223372036854775808 ≤ (bz.length : Int)) = True := eq_true (by omega)
 have p4 : ((bz.length : Int) ≤ 9223372036854775807) = True := eq_true (by omega)
 have p5 : ((bz.length : Int) ≤ 0) = False := eq_false (by omega)
 have p6 : ((bz.length : Int) ≤ 4096) = True := eq_true (by omega)
 have sc : slL 1 (rsl Xdk (h.length + 1) bz) none (some (.i .i64 n)) none = some (.sl (h.length + 1) 0 n bz.length (some 1)) := by
  unfold rsl
  rw [if_neg hpos]
  simp only [slL, bnd]
  rw [if_pos ⟨by omega, by omega⟩, Int.toNat_natCast]
  rfl
 have gt : ∀ L, ownR Xdk bz L 1 → getS Xdk (h ++ L) (.sl (h.length + 1) 0 n bz.length (some 1)) = some (bz.take n) := fun L q => by
  obtain ⟨mm, q1⟩ := JHf bz L 1 q
  have hr : Za2 (h ++ L) (h.length + 1) = some (Xdk.cells bz) := by
   unfold Za2
   rw [YOx, q1, YVc mm hpos]
  have hc : (Xdk.cells bz).length = bz.length := by rw [Xdk.cells_len, Xcw]; omega
  have ht : (bz.take n).length = n := by rw [List.length_take]; omega
  refine (Rd.mk_sl (l := bz.take n) hr ht.symm (by rw [ht, hc, Xcw]; omega) ?_ (by rw [ht]; unfold maxLen; omega)).get
  rw [List.drop_zero, ht, Xcw, Nat.mul_one, Yq3, Yq3, List.map_take]
 have fa := fun L k ys hb => qKZ (h := h) (p := h.length) rfl (r := Xdk) (sz := 1) rfl L k bz 1 1 ys hpos hb (by decide) (by omega) (by unfold maxLen; omega)
 have ga : ∀ L k, ownC L k = some (Xdk.cells bz ++ [.i .u8 (mb.toNat : Int)]) → getS Xdk (h ++ L) (.sl (h.length + k) 0 (bz.length + 1) (bz.length + 1) (some 1)) = some (bz ++ [mb]) := fun L k q => by
  have e1 : Xdk.cells (bz ++ [mb]) = Xdk.cells bz ++ [.i .u8 (mb.toNat : Int)] := by rw [Yq3, Yq3, List.map_append]; rfl
  have := (KXN (r := Xdk) (h := h) (L := L) (k := k) (c := bz.length + 1) (kk := some 1) (l := bz ++ [mb]) (by rw [e1]; exact q) (by rw [List.length_append]; unfold maxLen; simp; omega)).get
  rw [List.length_append] at this
  exact this
 have l7 : ((bz ++ [mb]).length ≤ 1000000) = True := eq_true (by rw [List.length_append]; simp; omega)
 have l8 : ((bz.take n).length ≤ 1000000) = True := eq_true (by rw [List.length_take]; omega)
 have d2 := dcut n hnl
 have d3 := dmore mb
 obtain ⟨D2, hD2⟩ : ∃ D2, D2 = mdec (bz.take n) := ⟨_, rfl⟩
 rw [← hD2] at d2
 obtain ⟨m1, m2, m3, m4⟩ := z3G c
 obtain ⟨n1, n2, n3, n4⟩ := z3G (dsc D2.1.config)
 obtain ⟨o1, o2, o3, o4⟩ := z3G (dsc manZ.config)
 have e1 : (JcG k t c ls ss).kind = k := rfl
 have e2 : (JcG k t c ls ss).title = t := rfl
 have e3 : dsc (JcG k t c ls ss).config = c := qxR c
 have e4 : (JcG k t c ls ss).layers.map dsc = ls := Znl ls
 have e5 : (JcG k t c ls ss).subs.map dsc = ss := Znl ss
 have q1 : (ls.length ≤ maxLen) = True := eq_true (by unfold maxLen; omega)
 have q2 : (ss.length ≤ maxLen) = True := eq_true (by unfold maxLen; omega)
 have iml : ∀ (H : List AB) (l' s' : AV), getS deR H l' = some ls → getS deR H s' = some ss → inM H (.ag (.i .i64 k :: .s t :: (deR.f c ++ [l', s']))) = some (k, t, c, l', s', ls, ss) := fun H l' s' q1 q2 => Kkg q1 q2
 have key : ∀ x y z w : AV, (MT.key (k, t, c, x, y, ls, ss) = MT.key (k, t, c, z, w, ls, ss)) = True := fun x y z w => eq_true rfl
 have w1 : IntKind.i64.wrap ((ls.length : Int) + (ss.length : Int)) = ((ls.length + ss.length : Nat) : Int) := by rw [Int.natCast_add]; exact KqL (by unfold In64; omega)
 have w2 : IntKind.i64.wrap (((ls.length + ss.length : Nat) : Int) + 1) = ((1 + (ls.length + ss.length) : Nat) : Int) := by
  rw [show ((ls.length + ss.length : Nat) : Int) + 1 = ((1 + (ls.length + ss.length) : Nat) : Int) by omega]
  exact KqL (by unfold In64; omega)
 have nd : (ls.length + ss.length ≤ 100000) = True := eq_true (by omega)
 have hdl := QET k c ls ss
 by_cases g3 : k = 3
 ·have g3' := eq_true g3
  rw [if_pos g3] at hdl
  simp only [JaF, Qv5, Zsz, qtN, qup, simprocAttr, CO.tmps, Opd.tmps, optT, Nat.reducePow, Nat.reduceDiv, Nat.reduceMod, c1, c2, c3, ca, tm, im, fl, fs, g1', hEB', hE, hbm, hb6, d1, d2, d3, ← hD2, hn, p1, p2, p3, p4, p5, p6, sc, gt, fa, ga, l7, l8, m1, m2, m3, m4, n1, n2, n3, n4, o1, o2, o3, o4, e1, e2, e3, e4, e5, q1, q2, iml, key, w1, w2, nd, hdl, g3', eqcP, qKr, XbL, eq_self, ne_eq, not_true_eq_false, not_false_eq_true, decide_true, decide_false, YUt, q2h, QYE, Qil, KfG, JdO, Kho, ZtD]
  exact Bt.drop _ hh rfl rfl
 ·have g3' := eq_false g3
  rw [if_neg g3, Nat.zero_add] at hdl
  simp only [JaF, Qv5, Zsz, qtN, qup, simprocAttr, CO.tmps, Opd.tmps, optT, Nat.reducePow, Nat.reduceDiv, Nat.reduceMod, c1, c2, c3, ca, tm, im, fl, fs, g1', hEB', hE, hbm, hb6, d1, d2, d3, ← hD2, hn, p1, p2, p3, p4, p5, p6, sc, gt, fa, ga, l7, l8, m1, m2, m3, m4, n1, n2, n3, n4, o1, o2, o3, o4, e1, e2, e3, e4, e5, q1, q2, iml, key, w1, w2, nd, hdl, g3', eqcP, qKr, XbL, eq_self, ne_eq, not_true_eq_false, not_false_eq_true, decide_true, decide_false, YUt, q2h, QYE, Qil, KfG, JdO, Kho, ZtD]
  exact Bt.drop _ hh rfl rfl
end Go.Proofs.Ytpoojfnmhnedpaa
end
