/- Part 26 of what the laws' proofs rest on. No condition. -/
import Derived.Test.YtfaccliekejngaaGreatOo25
set_option linter.all false
section
namespace Go.Proofs.YtfaccliekejngaaGreat
open Go.ChangeShapes Go.WideShapes Go.ChangeAt Go.RowKit
section
variable {K : Code → CC → Prop} {ρ : Mp} {h : List AB} {w : World}
theorem In.hz (i : In K ρ h w) : h.map AB.freeze = h := by
 refine List.ext_getElem? fun j => ?_
 rw [List.getElem?_map]
 cases e : h[j]? with
 | none => rfl
 | some B =>
  have := i.frz B (List.mem_of_getElem? e)
  rw [Option.map_some]
  congr 1
  cases B <;> first | rfl | (cases this; done) | (simp only [AB.mut] at this; subst this; rfl)
theorem RdL.row {α : Type} {r : Row α} {v : Value} {ts : List α} (e : RdL (fun _ cs x => cs = (r.f x).map AV.val) r.sz w v ts) : Sl w v ts.length ((r.cells ts).map AV.val) := by
 obtain ⟨cs, h1, h2, h3⟩ := e
 have hcs : cs = (r.cells ts).map AV.val := by
  apply List.ext_getElem?
  intro k
  by_cases hk : k < ts.length * r.sz
  ·have hi : k / r.sz < ts.length := (Nat.div_lt_iff_lt_mul r.pos).2 hk
   have hj := Nat.mod_lt k r.pos
   have ek : k = k / r.sz * r.sz + k % r.sz := by rw [Nat.mul_comm]; exact (Nat.div_add_mod k r.sz).symm
   have ht : ts[k / r.sz]? = some (ts.getD (k / r.sz) r.d) := by rw [List.getD_eq_getElem?_getD, List.getElem?_eq_getElem hi]; rfl
   have q := h3 _ _ ht
   have q1 : ((cs.drop (k / r.sz * r.sz)).take r.sz)[k % r.sz]? = ((r.f (ts.getD (k / r.sz) r.d)).map AV.val)[k % r.sz]? := by rw [q]
   rw [List.getElem?_take_of_lt hj, List.getElem?_drop, ← ek, List.getElem?_map, ← r.cells_get ts _ _ hi hj, ← ek] at q1
   rw [q1, List.getElem?_map]
  ·rw [List.getElem?_eq_none (by omega), List.getElem?_eq_none (by rw [List.length_map, r.cells_len]; omega)]
 rw [hcs] at h1
 exact h1
end
section
variable {H : Type} {enc : TypeId × Value → H} {w : World} {base : Nat} {held : Bool}
theorem QD5 {α : Type} {l : List α} (h : l.length = 2) : ∃ a b, l = [a, b] := by
 match l, h with
 | [a, b], _ => exact ⟨a, b, rfl⟩
theorem KsO {fuel : Nat} {cs : List Value} {x : DataW H × List MemPlace} (h : DataW.trod enc Tryz.prog w base (fun _ => true) held fuel 23 cs = some x) : ∃ v, cs = [v] ∧ ∃ xs : List Int, Sl w v xs.length ((intR.cells xs).map AV.val) := by
 obtain ⟨v, h1, ts, h2⟩ := Jri (fun _ cs (c : Int) => cs = (intR.f c).map AV.val) Tryz.underlying23 (size := 1) (by kernel_rfl) (by decide) (fun fuel cs x hx => by
  obtain ⟨n, rfl, hw⟩ := Xiq Tryz.underlying3 hx
  exact ⟨n, by rw [JEE]; rfl⟩) h
 exact ⟨v, h1, ts, RdL.row (r := intR) h2⟩
theorem Kuo {fuel : Nat} {i : Int} {x : DataW H × List MemPlace} (h : DataW.trod enc Tryz.prog w base (fun _ => true) held fuel 3 [.int .i64 i] = some x) : -9223372036854775808 ≤ i ∧ i ≤ 9223372036854775807 := by
 obtain ⟨n, e, hw⟩ := Xiq Tryz.underlying3 h
 cases e
 exact KGp hw
theorem qmZ {fuel : Nat} {cs : List Value} {x : DataW H × List MemPlace} (h : DataW.trod enc Tryz.prog w base (fun _ => true) held fuel 48 cs = some x) : ∃ r n, cs = [.int .i64 r, .int .i64 n] ∧ (-9223372036854775808 ≤ r ∧ r ≤ 9223372036854775807) ∧ (-9223372036854775808 ≤ n ∧ n ≤ 9223372036854775807) := by
 cases fuel with
 | zero => cases h
 | succ fuel =>
  obtain ⟨hl, he⟩ := KTk Tryz.underlying48 h
  have hl2 : cs.length = 2 := hl.trans (by kernel_rfl)
  simp only [List.forall_mem_cons] at he
  obtain ⟨⟨y0, h0⟩, ⟨y1, h1⟩, _⟩ := he
  rw [(by kernel_rfl : Tryz.prog.cellsOf 3 = 1)] at h0 h1
  obtain ⟨r, e0, w0⟩ := Xiq Tryz.underlying3 h0
  obtain ⟨n, e1, w1⟩ := Xiq Tryz.underlying3 h1
  obtain ⟨a, b, rfl⟩ := QD5 hl2
  have e0' : [a] = _ := e0
  have e1' : [b] = _ := e1
  cases e0'
  cases e1'
  exact ⟨r, n, rfl, KGp w0, KGp w1⟩
theorem YFL {fuel : Nat} {cs : List Value} {x : DataW H × List MemPlace} (h : DataW.trod enc Tryz.prog w base (fun _ => true) held fuel 24 cs = some x) : ∃ v, cs = [v] ∧ ∃ xs : List (Int × Int), Sl w v xs.length ((dotR.cells xs).map AV.val) := by
 obtain ⟨v, h1, ts, h2⟩ := Jri (fun _ cs (c : Int × Int) => cs = (dotR.f c).map AV.val) Tryz.underlying24 (size := 2) (by kernel_rfl) (by decide) (fun fuel cs x hx => by
  obtain ⟨r, n, rfl, _, _⟩ := qmZ hx
  exact ⟨(r, n), by rw [KdD]; rfl⟩) h
 exact ⟨v, h1, ts, RdL.row (r := dotR) h2⟩
theorem ZZT {fuel : Nat} {cs : List Value} {x : DataW H × List MemPlace} (h : DataW.trod enc Tryz.prog w base (fun _ => true) held fuel 26 cs = some x) :
  ∃ v d, cs = [v, d] ∧ (∃ xs : List Int, Sl w v xs.length ((intR.cells xs).map AV.val)) ∧ ∃ ds : List (Int × Int), Sl w d ds.length ((dotR.cells ds).map AV.val) := by
 cases fuel with
 | zero => cases h
 | succ fuel =>
  obtain ⟨hl, he⟩ := KTk Tryz.underlying26 h
  have hl2 : cs.length = 2 := hl.trans (by kernel_rfl)
  simp only [List.forall_mem_cons] at he
  obtain ⟨⟨y0, h0⟩, ⟨y1, h1⟩, _⟩ := he
  rw [(by kernel_rfl : Tryz.prog.cellsOf 23 = 1)] at h0
  rw [(by kernel_rfl : Tryz.prog.cellsOf 24 = 1)] at h1
  obtain ⟨v, e0, s0⟩ := KsO h0
  obtain ⟨d, e1, s1⟩ := YFL h1
  obtain ⟨a, b, rfl⟩ := QD5 hl2
  have e0' : [a] = _ := e0
  have e1' : [b] = _ := e1
  cases e0'
  cases e1'
  exact ⟨_, _, rfl, s0, s1⟩
end
end Go.Proofs.YtfaccliekejngaaGreat
end
section
namespace Go.Proofs.YtfaccliekejngaaGreat
open Go.ChangeShapes Go.WideShapes Go.ChangeAt Go.RowKit
section
variable {H : Type} {enc : TypeId × Value → H} {w : World} {base : Nat} {held : Bool}
theorem qRq {fuel : Nat} {cs : List Value} {x : DataW H × List MemPlace} (h : DataW.trod enc Tryz.prog w base (fun _ => true) held fuel 50 cs = some x) : ∃ i : Dg, cs = (idR.f i).map AV.val := by
 cases fuel with
 | zero => cases h
 | succ fuel =>
  obtain ⟨hl, he⟩ := Jo2 Tryz.underlying50 h
  have hl2 : cs.length = 32 := hl.trans (by kernel_rfl)
  have h1 : Tryz.prog.cellsOf 5 = 1 := by kernel_rfl
  obtain ⟨d, hd, hdt⟩ := X4u (fun i (c : UInt8) => cs[i]? = some (.int .u8 (c.toNat : Int))) 32 fun i hi => by
   obtain ⟨y, hy⟩ := he i hi
   rw [h1] at hy
   obtain ⟨n, hn, hw⟩ := Xiq Tryz.underlying5 hy
   refine ⟨UInt8.ofInt n, ?_⟩
   have e : ((cs.drop (i * 1)).take 1)[0]? = some (.int .u8 n) := by rw [hn]; rfl
   rw [List.getElem?_take_of_lt (by omega), List.getElem?_drop, qOe hw] at e
   simpa using e
  refine ⟨⟨d, hd⟩, ?_⟩
  apply List.ext_getElem?
  intro i
  show cs[i]? = ((d.map u8A).map AV.val)[i]?
  rw [List.map_map]
  by_cases hi : i < 32
  ·rw [List.getElem?_map, List.getElem?_eq_getElem (by omega : i < d.length), Option.map_some, hdt i _ (List.getElem?_eq_getElem (by omega : i < d.length))]
   rfl
  ·rw [List.getElem?_eq_none (by omega), List.getElem?_eq_none (by rw [List.length_map]; omega)]
theorem qhx {fuel : Nat} {cs : List Value} {x : DataW H × List MemPlace} (h : DataW.trod enc Tryz.prog w base (fun _ => true) held fuel 66 cs = some x) : ∃ i : Hd, cs = (qjO.f i).map AV.val := by
 cases fuel with
 | zero => cases h
 | succ fuel =>
  obtain ⟨hl, he⟩ := KTk Tryz.underlying66 h
  have hl2 : cs.length = 34 := hl.trans (by kernel_rfl)
  simp only [List.forall_mem_cons] at he
  obtain ⟨⟨y0, h0⟩, ⟨y1, h1⟩, _⟩ := he
  rw [(by kernel_rfl : Tryz.prog.cellsOf 48 = 2)] at h0
  rw [(by kernel_rfl : Tryz.prog.cellsOf 50 = 32)] at h1
  obtain ⟨r, n, e0, _, _⟩ := qmZ h0
  obtain ⟨i, e1⟩ := qRq h1
  refine ⟨((r, n), i), ?_⟩
  have e0' : cs.take 2 = _ := e0
  have e1' : (cs.drop 2).take 32 = _ := e1
  have : cs = cs.take 2 ++ (cs.drop 2).take 32 := by
   have q : (cs.drop 2).take 32 = cs.drop 2 := List.take_of_length_le (by rw [List.length_drop]; omega)
   rw [q, List.take_append_drop]
  rw [this, e0', e1', YA0]
  rfl
theorem YPM {fuel : Nat} {cs : List Value} {x : DataW H × List MemPlace} (h : DataW.trod enc Tryz.prog w base (fun _ => true) held fuel 22 cs = some x) : ∃ v, cs = [v] ∧ ∃ xs : List Hd, Sl w v xs.length ((qjO.cells xs).map AV.val) := by
 obtain ⟨v, h1, ts, h2⟩ := Jri (fun _ cs (c : Hd) => cs = (qjO.f c).map AV.val) Tryz.underlying22 (size := 34) (by kernel_rfl) (by decide) (fun fuel cs x hx => qhx hx) h
 exact ⟨v, h1, ts, RdL.row (r := qjO) h2⟩
theorem XBt {α : Type} {l : List α} (h : l.length = 3) : ∃ a b c, l = [a, b, c] := by
 match l, h with
 | [a, b, c], _ => exact ⟨a, b, c, rfl⟩
end
end Go.Proofs.YtfaccliekejngaaGreat
end
section
namespace Go.Proofs.YtfaccliekejngaaGreat
open Go.ChangeShapes Go.WideShapes Go.ChangeAt Go.RowKit
section
variable {H : Type} {enc : TypeId × Value → H} {w : World} {base : Nat} {held : Bool}
theorem JvQ {fuel : Nat} {cs : List Value} {x : DataW H × List MemPlace} (h : DataW.trod enc Tryz.prog w base (fun _ => true) held fuel 28 cs = some x) :
  ∃ l v d, cs = [l, v, d] ∧ (∃ hs : List Hd, Sl w l hs.length ((qjO.cells hs).map AV.val)) ∧ (∃ xs : List Int, Sl w v xs.length ((intR.cells xs).map AV.val)) ∧ ∃ ds : List (Int × Int), Sl w d ds.length ((dotR.cells ds).map AV.val) := by
 cases fuel with
 | zero => cases h
 | succ fuel =>
  obtain ⟨hl, he⟩ := KTk Tryz.underlying28 h
  have hl2 : cs.length = 3 := hl.trans (by kernel_rfl)
  simp only [List.forall_mem_cons] at he
  obtain ⟨⟨y0, h0⟩, ⟨y1, h1⟩, _⟩ := he
  rw [(by kernel_rfl : Tryz.prog.cellsOf 22 = 1)] at h0
  rw [(by kernel_rfl : Tryz.prog.cellsOf 26 = 2)] at h1
  obtain ⟨l, e0, s0⟩ := YPM h0
  obtain ⟨v, d, e1, s1, s2⟩ := ZZT h1
  obtain ⟨a, b, c, rfl⟩ := XBt hl2
  have e0' : [a] = _ := e0
  have e1' : [b, c] = _ := e1
  cases e0'
  cases e1'
  exact ⟨_, _, _, rfl, s0, s1, s2⟩
end
end Go.Proofs.YtfaccliekejngaaGreat
end
section
namespace Go.Proofs.YtfaccliekejngaaGreat
open Go.ChangeShapes Go.WideShapes Go.ChangeAt Go.RowKit
section
variable {K : Code → CC → Prop} {ρ : Mp} {h : List AB} {w : World}
theorem In.slK {α : Type} {r : Row α} (i : In K ρ h w) (hfl : ∀ x, ∀ a ∈ r.f x, a.fl = true) {v : Value} {l : List α} (hs : Sl w v l.length ((r.cells l).map AV.val)) :
  ∃ x s B, In K (ρ ++ [x]) (h ++ [B]) w ∧ VR (ρ ++ [x]) s v ∧ Rd r (h ++ [B]) s l ∧ Ext ρ (ρ ++ [x]) ∧ s.capOk = true ∧ s.kn = true := by
 obtain ⟨hl, x, i', vr⟩ := i.slice hfl hs
 by_cases h0 : l.length = 0
 ·have : l = [] := List.eq_nil_of_length_eq_zero h0
  subst this
  rcases hs with ⟨⟨a, rfl⟩, _, _⟩ | ⟨b, off, cap, rfl, _, hc, _⟩
  ·cases a with
   | none => exact ⟨x, .ns, _, i', .ns, qLE r _, Ext.push _ _, rfl, rfl⟩
   | some a => exact ⟨x, .se, _, i', .se a 0 (Nat.zero_le _), ⟨rfl, Nat.zero_le _⟩, Ext.push _ _, rfl, rfl⟩
  ·exact ⟨x, .se, _, i', .se _ _ hc, ⟨rfl, Nat.zero_le _⟩, Ext.push _ _, rfl, rfl⟩
 ·refine ⟨x, _, _, i', vr, zRx (by rw [List.getElem?_append_right (Nat.le_refl _), Nat.sub_self]; rfl) hl, Ext.push _ _, KGT _ _, ?_⟩
  rw [ZZP _ h0]
  cases hn : l.length with
  | zero => exact absurd hn h0
  | succ n => rfl
end
end Go.Proofs.YtfaccliekejngaaGreat
end
