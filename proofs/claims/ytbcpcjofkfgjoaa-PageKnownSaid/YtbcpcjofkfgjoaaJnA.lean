/- strings.Join: from the shelf's contract, which speaks of worlds, to a contract of the abstract machine. -/
import Derived.Test.YtbcpcjofkfgjoaaEvFe
import Derived.Shelf.Strings.OnBuilder
import Derived.Test.YtbcpcjofkfgjoaaJnL
namespace Go.Proofs.Ytbcpcjofkfgjoaa
open Go.RowKit
/-- What stands below is as it was: the heap is. -/
theorem Rel.below {K : Code → CC → Prop} {ρ : Mp} {h : List AB} {w w' : World} (r : Rel K ρ h w) (b : Below w.heap.size w w') (hd : dr w ≤ dr w') : Rel K ρ h w' ∧ Eff ρ h w ρ h w' :=
  ⟨⟨r.len, fun i B bb o n h1 h2 => (r.blk i B bb o n h1 h2).same (Ext.refl _) fun hl => b.block bb ((r.blk i B bb o n h1 h2).lt hl), r.sep⟩,
   b.os, b.tape, ⟨b.output, hd⟩, b.size, fun k hk _ => b.block k hk, fun _ q => .inl q, fun _ _ q => .inl q⟩
/-- The texts that a row of cells holds. -/
def textsOf : List AV → Option (List (List UInt8))
  | [] => some []
  | .s l :: r => (textsOf r).map (l :: ·)
  | _ => none
theorem textsOf_get : ∀ (xs : List AV) (l : List (List UInt8)), textsOf xs = some l → l.length = xs.length ∧ ∀ (j : Nat) x, l[j]? = some x → xs[j]? = some (.s x)
  | [], l, e => by cases e; exact ⟨rfl, fun j x h => by simp at h⟩
  | .s a :: r, l, e => by
    simp only [textsOf] at e
    obtain ⟨m, hm, rfl⟩ := Option.map_eq_some_iff.1 e
    obtain ⟨h1, h2⟩ := textsOf_get r m hm
    refine ⟨by simp [h1], fun j x h => ?_⟩
    cases j with
    | zero => simp at h; simp [h]
    | succ j => simp at h ⊢; exact h2 j x h
  | .b _ :: _, _, e | .i _ _ :: _, _, e | .p _ _ :: _, _, e | .np :: _, _, e | .sl _ _ _ _ _ :: _, _, e | .se :: _, _, e | .ns :: _, _, e | .f _ _ _ :: _, _, e | .nf :: _, _, e | .ifc _ _ :: _, _, e | .ni :: _, _, e | .ag _ :: _, _, e | .tu _ :: _, _, e | .top :: _, _, e | .y _ :: _, _, e => by cases e
theorem vr_slice {ρ : Mp} {id off len cap : Nat} {k : Option Nat} {v : Value} (e : VR ρ (.sl id off len cap k) v) (h : len ≠ 0) :
    ∃ b o n cap', ρ[id]? = some (b, o, n) ∧ v = .slice (some ⟨b, o + off, none⟩) len cap' ∧ len ≤ cap ∧ cap ≤ cap' ∧ cap' ≤ maxLen ∧ (∀ z, k = some z → z ≠ 0 → o + off + cap' * z ≤ n) := by
  cases e with
  | sl id off len cap k b o n cap' hρ h1 h2 h3 h4 h5 => exact ⟨b, o, n, cap', hρ, rfl, h1, h2, h3, h5⟩
  | sz id off a c hc hn => exact absurd rfl h
theorem vl_pair {ρ : Mp} {a b : AV} {vals : Array Value} (h : VL ρ [a, b] vals) : ∃ x y, vals = #[x, y] ∧ VR ρ a x ∧ VR ρ b y := by
  obtain ⟨hs, hv⟩ := h
  obtain ⟨l⟩ := vals
  match l, hs with
  | [x, y], _ => exact ⟨x, y, rfl, hv 0 a x rfl rfl, hv 1 b y rfl rfl⟩
/-- strings.Join of a row of texts. -/
theorem join_fnC {h : List AB} {id off n cap : Nat} {k : Option Nat} {fl mu : Bool} {xs : List AV} {l : List (List UInt8)} {sep : List UInt8} (h0 : n ≠ 0) (hb : h[id]? = some (.blk fl mu xs)) (hle : off + n ≤ xs.length)
    (hl : textsOf ((xs.drop off).take n) = some l) (hN : n ≤ 140737488355328) (hlen : (Lib.join l sep).length ≤ 140737488355328) :
    FnC Try.prog 36 [.sl id off n cap k, .s sep] h (.s (Lib.join l sep)) h := by
  refine ⟨⟨_, _, Try.func36, by decide, rfl⟩, fun ρ w vals hr hv => ?_⟩
  obtain ⟨v, f, rfl, hv1, hv2⟩ := vl_pair hv
  obtain ⟨b, o, m, cap', hρ, rfl, hlc, hcc, hcm, -⟩ := vr_slice hv1 h0
  cases hv2 with
  | s sl bs hbs =>
  obtain ⟨hll, hget⟩ := textsOf_get _ _ hl
  have hll' : l.length = n := by rw [hll, List.length_take, List.length_drop]; omega
  have hB := hr.blk id _ b o m hb hρ
  obtain ⟨cs, e, fz, hheap, hm, hsz, hcells⟩ := hB
  have hblk : b < w.heap.size := (Array.getElem?_eq_some_iff.1 hheap).1
  have hmap : (l.map fun x => (⟨x.toArray⟩ : ByteArray)).map (·.data.toList) = l := by
    rw [List.map_map]
    exact (List.map_congr_left fun x _ => by simp).trans (List.map_id l)
  have hJ := joinAll b (o + off) cap' (l.map fun x => (⟨x.toArray⟩ : ByteArray)) bs w (fun j x hx => by
    rw [List.getElem?_map] at hx
    obtain ⟨y, hy, rfl⟩ := Option.map_eq_some_iff.1 hx
    have h1 := hget j y hy
    have hj : j < n := by rw [← hll']; exact (List.getElem?_eq_some_iff.1 hy).1
    rw [List.getElem?_take, if_pos hj, List.getElem?_drop] at h1
    have hoj : o + (off + j) < cs.size := by omega
    have hv := hcells (off + j) _ _ h1 (Array.getElem?_eq_getElem hoj)
    unfold World.cell?
    simp only [hheap, Option.isSome_none, Bool.false_eq_true, if_false]
    rw [show o + off + j = o + (off + j) by omega, Array.getElem?_eq_getElem hoj]
    generalize cs[o + (off + j)] = u at hv
    cases hv with
    | s l' bs' h' =>
      congr 2
      apply ByteArray.ext
      rw [← h']) hblk (by simpa [hll'] using hN) (by simp [hll']; omega) (by rw [hmap, hbs]; exact hlen)
  rw [hmap, hbs, List.length_map, hll'] at hJ
  refine hJ.mono ?_
  rintro e' w' ⟨rfl, hbel⟩
  obtain ⟨r1, r2⟩ := hr.below hbel (Nat.le_refl _)
  exact ⟨_, ρ, rfl, .s _ _ (by simp), r1, r2.p (Ext.refl _) (by rw [hr.len]; exact Nat.le_refl _)⟩
/-- strings.Join, told by what it does. -/
def nv_join (args : List AV) (g : GT) (_ : Nat) : Option (AV × HE) :=
  match args with
  | [.sl id off n _ _, .s sep] => match g id with
    | some (.blk _ _ xs) => match Nat.beq n 0 with
      | true => none
      | false => match Nat.ble (off + n) xs.length && Nat.ble n 1000 with
        | true => match textsOf ((xs.drop off).take n) with
          | some l => match Nat.ble (Lib.join l sep).length 140737488355328 with
            | true => some (.s (Lib.join l sep), .z)
            | false => none
          | none => none
        | false => none
    | _ => none
  | _ => none
theorem nvok_join : NvOk Try.prog 36 nv_join := fun args g h v e hg q => by
  unfold nv_join at q
  split at q
  · rename_i id off n cap k sep
    split at q
    · rename_i fl mu xs hB
      split at q
      · cases q
      · rename_i h0
        split at q
        · rename_i h1
          split at q
          · rename_i l hl
            split at q
            · rename_i h2
              cases q
              rw [Bool.and_eq_true, Nat.ble_eq, Nat.ble_eq] at h1
              rw [Nat.ble_eq] at h2
              exact ⟨join_fnC (Nat.ne_of_beq_eq_false h0) (blk_of (hg id) hB) h1.1 hl (by omega) h2, trivial⟩
            · cases q
          · cases q
        · cases q
    · cases q
  · cases q
end Go.Proofs.Ytbcpcjofkfgjoaa
