/- Arguments that came in, opened: slices of whatever can be read, structs by their fields, arrays of bytes. No program in sight. -/
import Derived.Test.YtpagolhlbceegaaMem
import Derived.ProofKit
import Derived.OpenShut
namespace Go.Proofs.Ytpagolhlbceegaa
open Go.ChangeShapes Go.WideShapes Go.ChangeAt Go.RowKit

/-- A slice of things that each read as R says. -/
def RdL {α : Type} (R : World → List Value → α → Prop) (size : Nat) (w : World) (v : Value) (ts : List α) : Prop :=
  ∃ cs, Sl w v ts.length cs ∧ cs.length = ts.length * size ∧ ∀ i t, ts[i]? = some t → R w ((cs.drop (i * size)).take size) t
/-- R stays where old memory stays. -/
def Stays {α : Type} (R : World → List Value → α → Prop) : Prop := ∀ w w' cs t, R w cs t → Kept NoS w w' → R w' cs t
theorem RdL.keptN {α : Type} {R : World → List Value → α → Prop} (hR : Stays R) {size : Nat} {w w' : World} {v : Value} {ts : List α} (h : RdL R size w v ts) (hk : Kept NoS w w') : RdL R size w' v ts := by
  obtain ⟨cs, h1, h2, h3⟩ := h
  exact ⟨cs, h1.below hk, h2, fun i t ht => hR _ _ _ _ (h3 i t ht) hk⟩

section
variable {H : Type} {enc : TypeId × Value → H} {P : Program} {w : World} {base : Nat} {spare : Nat → Bool} {held : Bool}

theorem mapM_some {α β : Type} (f : α → Option β) : ∀ (l : List α) (r : List β), l.mapM f = some r → ∀ a ∈ l, ∃ b, f a = some b
  | [], _, _, a, ha => by cases ha
  | x :: l, r, h, a, ha => by
    rw [List.mapM_cons] at h
    cases hx : f x with
    | none => simp [hx] at h
    | some b =>
      cases hl : l.mapM f with
      | none => simp [hx, hl] at h
      | some bs =>
        rcases List.mem_cons.1 ha with rfl | ha
        · exact ⟨b, hx⟩
        · exact mapM_some f l bs hl a ha

theorem choose_list {α : Type} (R : Nat → α → Prop) : ∀ n, (∀ i, i < n → ∃ t, R i t) → ∃ ts : List α, ts.length = n ∧ ∀ i t, ts[i]? = some t → R i t
  | 0, _ => ⟨[], rfl, fun i t h => by simp at h⟩
  | n + 1, h => by
    obtain ⟨ts, hl, ht⟩ := choose_list R n fun i hi => h i (by omega)
    obtain ⟨t, h1⟩ := h n (by omega)
    refine ⟨ts ++ [t], by simp [hl], fun i u hu => ?_⟩
    by_cases hi : i < n
    · rw [List.getElem?_append_left (by omega)] at hu
      exact ht i u hu
    · have hi2 : i = n := by
        have := (List.getElem?_eq_some_iff.1 hu).1
        simp [hl] at this
        omega
      subst hi2
      rw [List.getElem?_append_right (by omega)] at hu
      simp [hl] at hu
      exact hu ▸ h1

/-- A slice that came in, of whatever can be read: each of its elements can be. -/
theorem slice_open {α : Type} (R : World → List Value → α → Prop) {fuel : Nat} {T e : TypeId} {size : Nat} (hT : P.underlying T = some (.slice e)) (hc : P.cellsOf e = size) (hsz : 0 < size)
    (hR : ∀ cs x, DataW.trod enc P w base (fun _ => true) held fuel e cs = some x → ∃ t, R w cs t) {v : Value} {x : DataW H × List MemPlace}
    (h : DataW.trod enc P w base (fun _ => true) held (fuel + 1) T [v] = some x) : ∃ ts, RdL R size w v ts := by
  cases v with
  | slice a len cap =>
    cases a with
    | none =>
      cases len with
      | zero =>
        cases cap with
        | zero => exact ⟨[], [], .inl ⟨⟨_, rfl⟩, rfl, rfl⟩, by simp, fun i t ht => by simp at ht⟩
        | succ c => simp [DataW.trod, hT] at h
      | succ l => cases cap <;> simp [DataW.trod, hT] at h
    | some a =>
      simp only [DataW.trod, hT, hc] at h
      split at h
      case isFalse => cases h
      case isTrue hcond =>
        obtain ⟨hb, hlc, hcm⟩ := hcond
        obtain ⟨elems, hel, h2⟩ := Option.bind_eq_some_iff.1 h
        simp only [if_true] at h2
        obtain ⟨rest, hrest, _⟩ := Option.map_eq_some_iff.1 h2
        have hel2 : ∀ i, i < len → ∃ cs t, cs.length = size ∧ (∀ j, j < size → w.cell? ((a.add (i * size)).add j) = cs[j]?) ∧ R w cs t := by
          intro i hi
          obtain ⟨y, hy⟩ := mapM_some _ _ _ hel i (List.mem_range.2 hi)
          obtain ⟨cs, hcs, hy2⟩ := Option.bind_eq_some_iff.1 hy
          obtain ⟨_, hl, hcell⟩ := World.cells?_some hcs
          obtain ⟨t, ht⟩ := hR cs y hy2
          exact ⟨cs, t, hl, hcell, ht⟩
        by_cases h0 : cap = 0
        · subst h0
          have : len = 0 := by omega
          subst this
          exact ⟨[], [], .inl ⟨⟨_, rfl⟩, rfl, rfl⟩, by simp, fun i t ht => by simp at ht⟩
        · have hspot : a.spot = none := by
            have hfirst : ∃ u, w.cell? a = some u := by
              by_cases hl0 : len = 0
              · subst hl0
                obtain ⟨y, hy⟩ := mapM_some _ _ _ hrest 0 (List.mem_range.2 (by omega))
                obtain ⟨cs, hcs, _⟩ := Option.bind_eq_some_iff.1 hy
                obtain ⟨_, hl, hcell⟩ := World.cells?_some hcs
                have := hcell 0 hsz
                simp [Addr.add] at this
                exact ⟨cs[0]'(by omega), by rw [this]; exact List.getElem?_eq_getElem (by omega)⟩
              · obtain ⟨cs, t, hl, hcell, _⟩ := hel2 0 (by omega)
                have := hcell 0 hsz
                simp [Addr.add] at this
                exact ⟨cs[0]'(by omega), by rw [this]; exact List.getElem?_eq_getElem (by omega)⟩
            obtain ⟨u, hu⟩ := hfirst
            unfold World.cell? at hu
            split at hu
            · split at hu
              · cases hu
              · rename_i hs
                simpa using hs
            · cases hu
          obtain ⟨b, off, sp⟩ := a
          simp only at hspot
          subst hspot
          obtain ⟨g, hg⟩ : ∃ g : Nat → Value, ∀ k, g k = (w.cell? ⟨b, off + k, none⟩).getD undef := ⟨_, fun _ => rfl⟩
          have hlt : ∀ i j, i < len → j < size → i * size + j < len * size := fun i j hi hj => by
            have : (i + 1) * size ≤ len * size := Nat.mul_le_mul_right _ hi
            rw [Nat.add_mul] at this
            omega
          have hpiece : ∀ i, i < len → ∀ cs' : List Value, cs'.length = size → (∀ j, j < size → w.cell? (((⟨b, off, none⟩ : Addr).add (i * size)).add j) = cs'[j]?) → ((((List.range (len * size)).map g).drop (i * size)).take size) = cs' := by
            intro i hi cs' hl hcell
            apply List.ext_getElem?
            intro j
            by_cases hj : j < size
            · have h1 := hcell j hj
              rw [Addr.add_none, Addr.add_none] at h1
              rw [List.getElem?_take_of_lt hj, List.getElem?_drop, List.getElem?_map, List.getElem?_range (hlt i j hi hj), ← h1]
              rw [Option.map_some, hg, ← Nat.add_assoc, h1, List.getElem?_eq_getElem (by omega)]
              rfl
            · rw [List.getElem?_eq_none (by rw [List.length_take]; omega), List.getElem?_eq_none (by omega)]
          obtain ⟨ts, htl, hts⟩ := choose_list (fun i t => R w ((((List.range (len * size)).map g).drop (i * size)).take size) t) len fun i hi => by
            obtain ⟨cs, t, hl, hcell, ht⟩ := hel2 i hi
            exact ⟨t, by rw [hpiece i hi cs hl hcell]; exact ht⟩
          refine ⟨ts, (List.range (len * size)).map g, .inr ⟨b, off, cap, by rw [htl], by omega, hcm, fun k u hu => ?_⟩, by simp [htl], hts⟩
          rw [List.getElem?_map] at hu
          obtain ⟨k', hk', rfl⟩ := Option.map_eq_some_iff.1 hu
          have hk : k < len * size := by simpa using (List.getElem?_eq_some_iff.1 hk').1
          rw [List.getElem?_range hk] at hk'
          cases hk'
          have hdiv : k / size < len := (Nat.div_lt_iff_lt_mul hsz).2 hk
          obtain ⟨cs, t, hl, hcell, _⟩ := hel2 (k / size) hdiv
          have h1 := hcell (k % size) (Nat.mod_lt _ hsz)
          rw [Addr.add_none, Addr.add_none, Nat.add_assoc, Nat.mul_comm, Nat.div_add_mod] at h1
          rw [hg, h1, List.getElem?_eq_getElem (by have := Nat.mod_lt k hsz; omega)]
          rfl
  | _ => simp [DataW.trod, hT] at h

theorem struct_open {fuel : Nat} {T : TypeId} {fs : Array Field} (hT : P.underlying T = some (.struct fs)) {cs : List Value} {x : DataW H × List MemPlace}
    (h : DataW.trod enc P w base spare held (fuel + 1) T cs = some x) : cs.length = P.cellsOf T ∧ ∀ f ∈ fs.toList, ∃ y, DataW.trod enc P w base spare held fuel f.type ((cs.drop f.offset).take (P.cellsOf f.type)) = some y := by
  simp only [DataW.trod, hT] at h
  split at h
  · rename_i hl
    obtain ⟨xs, hxs, _⟩ := Option.map_eq_some_iff.1 h
    exact ⟨hl, fun f hf => mapM_some _ _ _ hxs f hf⟩
  · cases h
theorem array_open {fuel : Nat} {T e : TypeId} {n : Nat} (hT : P.underlying T = some (.array n e)) {cs : List Value} {x : DataW H × List MemPlace}
    (h : DataW.trod enc P w base spare held (fuel + 1) T cs = some x) : cs.length = P.cellsOf T ∧ ∀ i, i < n → ∃ y, DataW.trod enc P w base spare held fuel e ((cs.drop (i * P.cellsOf e)).take (P.cellsOf e)) = some y := by
  simp only [DataW.trod, hT] at h
  split at h
  · rename_i hl
    obtain ⟨xs, hxs, _⟩ := Option.map_eq_some_iff.1 h
    exact ⟨hl, fun i hi => mapM_some _ _ _ hxs i (List.mem_range.2 hi)⟩
  · cases h
theorem leaf_int {fuel : Nat} {T : TypeId} {k : IntKind} (hT : P.underlying T = some (.int k)) {cs : List Value} {x : DataW H × List MemPlace}
    (h : DataW.trod enc P w base spare held fuel T cs = some x) : ∃ n, cs = [.int k n] ∧ (Lit.int k n).wf = true := by
  cases fuel with
  | zero => cases h
  | succ fuel =>
    simp only [DataW.trod, hT] at h
    split at h <;> simp_all
theorem leaf_bool {fuel : Nat} {T : TypeId} (hT : P.underlying T = some .bool) {cs : List Value} {x : DataW H × List MemPlace}
    (h : DataW.trod enc P w base spare held fuel T cs = some x) : ∃ b, cs = [.bool b] := by
  cases fuel with
  | zero => cases h
  | succ fuel =>
    simp only [DataW.trod, hT] at h
    split at h <;> simp_all
theorem leaf_string {fuel : Nat} {T : TypeId} (hT : P.underlying T = some .string) {cs : List Value} {x : DataW H × List MemPlace}
    (h : DataW.trod enc P w base spare held fuel T cs = some x) : ∃ s : ByteArray, cs = [.string s] ∧ s.size ≤ maxLen := by
  cases fuel with
  | zero => cases h
  | succ fuel =>
    simp only [DataW.trod, hT] at h
    split at h <;> simp_all
/-- A slice cell that came in. -/
theorem leaf_slice {α : Type} (R : World → List Value → α → Prop) {fuel : Nat} {T e : TypeId} {size : Nat} (hT : P.underlying T = some (.slice e)) (hc : P.cellsOf e = size) (hsz : 0 < size)
    (hR : ∀ fuel cs x, DataW.trod enc P w base (fun _ => true) held fuel e cs = some x → ∃ t, R w cs t) {cs : List Value} {x : DataW H × List MemPlace}
    (h : DataW.trod enc P w base (fun _ => true) held fuel T cs = some x) : ∃ v, cs = [v] ∧ ∃ ts, RdL R size w v ts := by
  cases fuel with
  | zero => cases h
  | succ fuel =>
    have hv : ∃ v, cs = [v] := by
      have h' := h
      simp only [DataW.trod, hT] at h'
      split at h' <;> simp_all
    obtain ⟨v, rfl⟩ := hv
    exact ⟨v, rfl, slice_open R hT hc hsz (fun cs x => hR fuel cs x) h⟩

/-- Elements of one cell each. -/
theorem RdL.one {α : Type} {f : α → Value} {w : World} {v : Value} {ts : List α} (h : RdL (fun _ cs t => cs = [f t]) 1 w v ts) : Sl w v ts.length (ts.map f) := by
  obtain ⟨cs, h1, h2, h3⟩ := h
  have hcs : cs = ts.map f := by
    apply List.ext_getElem?
    intro i
    by_cases hi : i < ts.length
    · obtain ⟨t, ht⟩ := some_at ts hi
      have := h3 i t ht
      rw [List.getElem?_map, ht, Option.map_some]
      have e : ((cs.drop (i * 1)).take 1)[0]? = some (f t) := by rw [this]; rfl
      rw [List.getElem?_take_of_lt (by omega), List.getElem?_drop] at e
      simpa using e
    · rw [List.getElem?_eq_none (by omega), List.getElem?_eq_none (by rw [List.length_map]; omega)]
  rw [hcs] at h1
  exact h1
theorem wf_u8 {n : Int} (h : (Lit.int .u8 n).wf = true) : Value.int .u8 n = .int .u8 ((UInt8.ofInt n).toNat : Int) := by
  have hb := bounds_u8 h
  congr 1
  simp only [UInt8.ofInt, UInt8.toNat_ofNat']
  omega
theorem wf_i64 {n : Int} (h : (Lit.int .i64 n).wf = true) : -9223372036854775808 ≤ n ∧ n ≤ 9223372036854775807 := bounds_i64 h
end
end Go.Proofs.Ytpagolhlbceegaa
