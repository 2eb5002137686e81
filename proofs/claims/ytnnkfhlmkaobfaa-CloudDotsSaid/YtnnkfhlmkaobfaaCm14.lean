/- Part 14 of what the laws' proofs rest on. No condition. -/
import Derived.Test.YtnnkfhlmkaobfaaProg
import Derived.Test.YtnnkfhlmkaobfaaCm13
set_option linter.all false
section
namespace Go.Proofs.Ytnnkfhlmkaobfaa
open Go.ChangeShapes Go.WideShapes Go.ChangeAt Go.RowKit
section
variable {K : Code → CC → Prop} {ρ : Mp} {h : List AB} {w : World}
theorem In.hz (i : In K ρ h w) : h.map AB.freeze = h := by
  refine List.ext_getElem? fun j => ?_
  rw [List.getElem?_map]
  cases e : h[j]? with
  | none => rfl
  | some B =>
    have := i.frz B (List.mem_of_getElem? e)
    rw [Option.map_some]
    congr 1
    cases B <;> first | rfl | (cases this; done) | (simp only [AB.mut] at this; subst this; rfl)
theorem In.sl {α : Type} {r : Row α} (i : In K ρ h w) (hfl : ∀ x, ∀ a ∈ r.f x, a.fl = true) {v : Value} {l : List α} (hs : Sl w v l.length ((r.cells l).map AV.val)) :
    ∃ x s B, In K (ρ ++ [x]) (h ++ [B]) w ∧ VR (ρ ++ [x]) s v ∧ Rd r (h ++ [B]) s l ∧ Ext ρ (ρ ++ [x]) ∧ s.capOk = true := by
  obtain ⟨hl, x, i', vr⟩ := i.slice hfl hs
  exact ⟨x, _, _, i', vr, rsl_rd (by rw [List.getElem?_append_right (Nat.le_refl _), Nat.sub_self]; rfl) hl, Ext.push _ _, rsl_capOk _ _⟩
/-- A slice of rows, az its cells. -/
theorem RdL.row {α : Type} {r : Row α} {v : Value} {ts : List α} (e : RdL (fun _ cs x => cs = (r.f x).map AV.val) r.sz w v ts) : Sl w v ts.length ((r.cells ts).map AV.val) := by
  obtain ⟨cs, h1, h2, h3⟩ := e
  have hcs : cs = (r.cells ts).map AV.val := by
    apply List.ext_getElem?
    intro k
    by_cases hk : k < ts.length * r.sz
    · have hi : k / r.sz < ts.length := (Nat.div_lt_iff_lt_mul r.pos).2 hk
      have hj := Nat.mod_lt k r.pos
      have ek : k = k / r.sz * r.sz + k % r.sz := by rw [Nat.mul_comm]; exact (Nat.div_add_mod k r.sz).symm
      have ht : ts[k / r.sz]? = some (ts.getD (k / r.sz) r.d) := by rw [List.getD_eq_getElem?_getD, List.getElem?_eq_getElem hi]; rfl
      have q := h3 _ _ ht
      have q1 : ((cs.drop (k / r.sz * r.sz)).take r.sz)[k % r.sz]? = ((r.f (ts.getD (k / r.sz) r.d)).map AV.val)[k % r.sz]? := by rw [q]
      rw [List.getElem?_take_of_lt hj, List.getElem?_drop, ← ek, List.getElem?_map, ← r.cells_get ts _ _ hi hj, ← ek] at q1
      rw [q1, List.getElem?_map]
    · rw [List.getElem?_eq_none (by omega), List.getElem?_eq_none (by rw [List.length_map, r.cells_len]; omega)]
  rw [hcs] at h1
  exact h1
end
section
variable {H : Type} {enc : TypeId × Value → H} {w : World} {base : Nat} {held : Bool}
theorem list2 {α : Type} {l : List α} (h : l.length = 2) : ∃ a b, l = [a, b] := by
  match l, h with
  | [a, b], _ => exact ⟨a, b, rfl⟩
theorem ints_sl {fuel : Nat} {cs : List Value} {x : DataW H × List MemPlace} (h : DataW.trod enc Try.prog w base (fun _ => true) held fuel 22 cs = some x) : ∃ v, cs = [v] ∧ ∃ xs : List Int, Sl w v xs.length ((intR.cells xs).map AV.val) := by
  obtain ⟨v, h1, ts, h2⟩ := leaf_slice (fun _ cs (c : Int) => cs = (intR.f c).map AV.val) Try.underlying22 (size := 1) (by kernel_rfl) (by decide) (fun fuel cs x hx => by
    obtain ⟨n, rfl, hw⟩ := leaf_int Try.underlying3 hx
    exact ⟨n, by rw [intR_f]; rfl⟩) h
  exact ⟨v, h1, ts, RdL.row (r := intR) h2⟩
theorem int_bd {fuel : Nat} {i : Int} {x : DataW H × List MemPlace} (h : DataW.trod enc Try.prog w base (fun _ => true) held fuel 3 [.int .i64 i] = some x) : -9223372036854775808 ≤ i ∧ i ≤ 9223372036854775807 := by
  obtain ⟨n, e, hw⟩ := leaf_int Try.underlying3 h
  cases e
  exact wf_i64 hw
theorem dot_cells {fuel : Nat} {cs : List Value} {x : DataW H × List MemPlace} (h : DataW.trod enc Try.prog w base (fun _ => true) held fuel 37 cs = some x) : ∃ r n, cs = [.int .i64 r, .int .i64 n] ∧ (-9223372036854775808 ≤ r ∧ r ≤ 9223372036854775807) ∧ (-9223372036854775808 ≤ n ∧ n ≤ 9223372036854775807) := by
  cases fuel with
  | zero => cases h
  | succ fuel =>
    obtain ⟨hl, he⟩ := struct_open Try.underlying37 h
    have hl2 : cs.length = 2 := hl.trans (by kernel_rfl)
    simp only [List.forall_mem_cons] at he
    obtain ⟨⟨y0, h0⟩, ⟨y1, h1⟩, _⟩ := he
    rw [(by kernel_rfl : Try.prog.cellsOf 3 = 1)] at h0 h1
    obtain ⟨r, e0, w0⟩ := leaf_int Try.underlying3 h0
    obtain ⟨n, e1, w1⟩ := leaf_int Try.underlying3 h1
    obtain ⟨a, b, rfl⟩ := list2 hl2
    have e0' : [a] = _ := e0
    have e1' : [b] = _ := e1
    cases e0'
    cases e1'
    exact ⟨r, n, rfl, wf_i64 w0, wf_i64 w1⟩
theorem dots_sl {fuel : Nat} {cs : List Value} {x : DataW H × List MemPlace} (h : DataW.trod enc Try.prog w base (fun _ => true) held fuel 23 cs = some x) : ∃ v, cs = [v] ∧ ∃ xs : List (Int × Int), Sl w v xs.length ((dotR.cells xs).map AV.val) := by
  obtain ⟨v, h1, ts, h2⟩ := leaf_slice (fun _ cs (c : Int × Int) => cs = (dotR.f c).map AV.val) Try.underlying23 (size := 2) (by kernel_rfl) (by decide) (fun fuel cs x hx => by
    obtain ⟨r, n, rfl, _, _⟩ := dot_cells hx
    exact ⟨(r, n), by rw [dotR_f]; rfl⟩) h
  exact ⟨v, h1, ts, RdL.row (r := dotR) h2⟩
theorem cloud_sl {fuel : Nat} {cs : List Value} {x : DataW H × List MemPlace} (h : DataW.trod enc Try.prog w base (fun _ => true) held fuel 25 cs = some x) :
    ∃ v d, cs = [v, d] ∧ (∃ xs : List Int, Sl w v xs.length ((intR.cells xs).map AV.val)) ∧ ∃ ds : List (Int × Int), Sl w d ds.length ((dotR.cells ds).map AV.val) := by
  cases fuel with
  | zero => cases h
  | succ fuel =>
    obtain ⟨hl, he⟩ := struct_open Try.underlying25 h
    have hl2 : cs.length = 2 := hl.trans (by kernel_rfl)
    simp only [List.forall_mem_cons] at he
    obtain ⟨⟨y0, h0⟩, ⟨y1, h1⟩, _⟩ := he
    rw [(by kernel_rfl : Try.prog.cellsOf 22 = 1)] at h0
    rw [(by kernel_rfl : Try.prog.cellsOf 23 = 1)] at h1
    obtain ⟨v, e0, s0⟩ := ints_sl h0
    obtain ⟨d, e1, s1⟩ := dots_sl h1
    obtain ⟨a, b, rfl⟩ := list2 hl2
    have e0' : [a] = _ := e0
    have e1' : [b] = _ := e1
    cases e0'
    cases e1'
    exact ⟨_, _, rfl, s0, s1⟩
end
end Go.Proofs.Ytnnkfhlmkaobfaa
end
