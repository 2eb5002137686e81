/- Trees: what is laid at a place stands there. Frames and heaps as trees stand for those as lists. -/
import Derived.Test.YtbcpcjofkfgjoaaEvFa
namespace Go.Proofs.Ytbcpcjofkfgjoaa
open Go.RowKit

theorem half_ne {m k : Nat} (h : m ≠ k) (h2 : Nat.beq (Nat.mod m 2) 1 = Nat.beq (Nat.mod k 2) 1) : Nat.div m 2 ≠ Nat.div k 2 := by
  have e1 : Nat.mod m 2 = m % 2 := rfl
  have e2 : Nat.mod k 2 = k % 2 := rfl
  have e3 : Nat.div m 2 = m / 2 := rfl
  have e4 : Nat.div k 2 = k / 2 := rfl
  rw [e1, e2] at h2
  rw [e3, e4]
  have h3 : (m % 2 = 1) ↔ (k % 2 = 1) := by
    rw [← Nat.beq_eq (x := m % 2) (y := 1), ← Nat.beq_eq (x := k % 2) (y := 1), h2]
  omega
def FT.has : FT → Nat → Prop
  | .e, _ => False
  | .n _ _ _, 0 => True
  | .n _ l r, m + 1 => match Nat.beq (Nat.mod m 2) 1 with
    | true => r.has (Nat.div m 2)
    | false => l.has (Nat.div m 2)
theorem FT.get_n0 (v : AV) (l r : FT) : (FT.n v l r).get 0 = v := rfl
theorem FT.get_ns (v : AV) (l r : FT) (m : Nat) : (FT.n v l r).get (m + 1) = match Nat.beq (Nat.mod m 2) 1 with | true => r.get (Nat.div m 2) | false => l.get (Nat.div m 2) := by
  change Bool.rec (motive := fun _ => AV) (l.get (Nat.div m 2)) (r.get (Nat.div m 2)) (Nat.beq (Nat.mod m 2) 1) = _
  cases Nat.beq (Nat.mod m 2) 1 <;> rfl
theorem FT.set_n0 (v : AV) (l r : FT) (x : AV) : (FT.n v l r).set 0 x = .n x l r := rfl
theorem FT.set_ns (v : AV) (l r : FT) (m : Nat) (x : AV) : (FT.n v l r).set (m + 1) x = match Nat.beq (Nat.mod m 2) 1 with | true => .n v l (r.set (Nat.div m 2) x) | false => .n v (l.set (Nat.div m 2) x) r := by
  change Bool.rec (motive := fun _ => FT) (FT.n v (l.set (Nat.div m 2) x) r) (FT.n v l (r.set (Nat.div m 2) x)) (Nat.beq (Nat.mod m 2) 1) = _
  cases Nat.beq (Nat.mod m 2) 1 <;> rfl
theorem FT.get_same : ∀ (t : FT) (i : Nat) (x : AV), t.has i → (t.set i x).get i = x
  | .e, _, _, h => h.elim
  | .n _ _ _, 0, _, _ => rfl
  | .n v l r, m + 1, x, h => by
    rw [FT.set_ns]
    simp only [FT.has] at h
    cases hb : Nat.beq (Nat.mod m 2) 1 with
    | true =>
      rw [hb] at h
      simp only [FT.get_ns, hb]
      exact FT.get_same r _ x h
    | false =>
      rw [hb] at h
      simp only [FT.get_ns, hb]
      exact FT.get_same l _ x h
theorem FT.get_other : ∀ (t : FT) (i j : Nat) (x : AV), i ≠ j → (t.set i x).get j = t.get j
  | .e, _, _, _, _ => rfl
  | .n _ _ _, 0, 0, _, h => absurd rfl h
  | .n v l r, 0, j + 1, x, _ => by rw [FT.set_n0, FT.get_ns, FT.get_ns]
  | .n v l r, m + 1, 0, x, _ => by
    rw [FT.set_ns]
    cases Nat.beq (Nat.mod m 2) 1 <;> rfl
  | .n v l r, m + 1, k + 1, x, h => by
    rw [FT.set_ns]
    cases hb : Nat.beq (Nat.mod m 2) 1 with
    | true =>
      simp only [FT.get_ns]
      cases hk : Nat.beq (Nat.mod k 2) 1 with
      | true => exact FT.get_other r _ _ x (half_ne (by omega) (by rw [hb, hk]))
      | false => rfl
    | false =>
      simp only [FT.get_ns]
      cases hk : Nat.beq (Nat.mod k 2) 1 with
      | true => rfl
      | false => exact FT.get_other l _ _ x (half_ne (by omega) (by rw [hb, hk]))
theorem FT.has_set : ∀ (t : FT) (i : Nat) (x : AV) (j : Nat), (t.set i x).has j ↔ t.has j
  | .e, _, _, _ => Iff.rfl
  | .n _ _ _, 0, _, 0 => Iff.rfl
  | .n _ _ _, 0, _, _ + 1 => Iff.rfl
  | .n v l r, m + 1, x, 0 => by
    rw [FT.set_ns]
    cases Nat.beq (Nat.mod m 2) 1 <;> exact Iff.rfl
  | .n v l r, m + 1, x, k + 1 => by
    rw [FT.set_ns]
    cases hb : Nat.beq (Nat.mod m 2) 1 with
    | true =>
      simp only [FT.has]
      cases hk : Nat.beq (Nat.mod k 2) 1 with
      | true => exact FT.has_set r _ x _
      | false => exact Iff.rfl
    | false =>
      simp only [FT.has]
      cases hk : Nat.beq (Nat.mod k 2) 1 with
      | true => exact Iff.rfl
      | false => exact FT.has_set l _ x _
theorem FT.full_s (d : Nat) : FT.full (d + 1) = .n (.tu []) (FT.full d) (FT.full d) := rfl
theorem FT.full_has : ∀ (d i : Nat), i + 1 < 2 ^ d → (FT.full d).has i
  | 0, i, h => by simp at h
  | d + 1, 0, _ => by rw [FT.full_s]; trivial
  | d + 1, m + 1, h => by
    rw [FT.full_s]
    simp only [FT.has]
    have hd : m / 2 + 1 < 2 ^ d := by rw [Nat.pow_succ] at h; omega
    cases Nat.beq (Nat.mod m 2) 1 <;> exact FT.full_has d _ hd
theorem FT.full_get : ∀ (d i : Nat), (FT.full d).get i = .tu []
  | 0, _ => rfl
  | d + 1, 0 => rfl
  | d + 1, m + 1 => by
    rw [FT.full_s, FT.get_ns]
    cases Nat.beq (Nat.mod m 2) 1 <;> exact FT.full_get d _
def HT.has : HT → Nat → Prop
  | .e, _ => False
  | .n _ _ _, 0 => True
  | .n _ l r, m + 1 => match Nat.beq (Nat.mod m 2) 1 with
    | true => r.has (Nat.div m 2)
    | false => l.has (Nat.div m 2)
theorem HT.get_ns (v : Option HB) (l r : HT) (m : Nat) : (HT.n v l r).get (m + 1) = match Nat.beq (Nat.mod m 2) 1 with | true => r.get (Nat.div m 2) | false => l.get (Nat.div m 2) := by
  change Bool.rec (motive := fun _ => Option HB) (l.get (Nat.div m 2)) (r.get (Nat.div m 2)) (Nat.beq (Nat.mod m 2) 1) = _
  cases Nat.beq (Nat.mod m 2) 1 <;> rfl
theorem HT.set_n0 (v : Option HB) (l r : HT) (x : Option HB) : (HT.n v l r).set 0 x = .n x l r := rfl
theorem HT.set_ns (v : Option HB) (l r : HT) (m : Nat) (x : Option HB) : (HT.n v l r).set (m + 1) x = match Nat.beq (Nat.mod m 2) 1 with | true => .n v l (r.set (Nat.div m 2) x) | false => .n v (l.set (Nat.div m 2) x) r := by
  change Bool.rec (motive := fun _ => HT) (HT.n v (l.set (Nat.div m 2) x) r) (HT.n v l (r.set (Nat.div m 2) x)) (Nat.beq (Nat.mod m 2) 1) = _
  cases Nat.beq (Nat.mod m 2) 1 <;> rfl
theorem HT.get_same : ∀ (t : HT) (i : Nat) (x : Option HB), t.has i → (t.set i x).get i = x
  | .e, _, _, h => h.elim
  | .n _ _ _, 0, _, _ => rfl
  | .n v l r, m + 1, x, h => by
    rw [HT.set_ns]
    simp only [HT.has] at h
    cases hb : Nat.beq (Nat.mod m 2) 1 with
    | true =>
      rw [hb] at h
      simp only [HT.get_ns, hb]
      exact HT.get_same r _ x h
    | false =>
      rw [hb] at h
      simp only [HT.get_ns, hb]
      exact HT.get_same l _ x h
theorem HT.get_other : ∀ (t : HT) (i j : Nat) (x : Option HB), i ≠ j → (t.set i x).get j = t.get j
  | .e, _, _, _, _ => rfl
  | .n _ _ _, 0, 0, _, h => absurd rfl h
  | .n v l r, 0, j + 1, x, _ => by rw [HT.set_n0, HT.get_ns, HT.get_ns]
  | .n v l r, m + 1, 0, x, _ => by
    rw [HT.set_ns]
    cases Nat.beq (Nat.mod m 2) 1 <;> rfl
  | .n v l r, m + 1, k + 1, x, h => by
    rw [HT.set_ns]
    cases hb : Nat.beq (Nat.mod m 2) 1 with
    | true =>
      simp only [HT.get_ns]
      cases hk : Nat.beq (Nat.mod k 2) 1 with
      | true => exact HT.get_other r _ _ x (half_ne (by omega) (by rw [hb, hk]))
      | false => rfl
    | false =>
      simp only [HT.get_ns]
      cases hk : Nat.beq (Nat.mod k 2) 1 with
      | true => rfl
      | false => exact HT.get_other l _ _ x (half_ne (by omega) (by rw [hb, hk]))
theorem HT.has_set : ∀ (t : HT) (i : Nat) (x : Option HB) (j : Nat), (t.set i x).has j ↔ t.has j
  | .e, _, _, _ => Iff.rfl
  | .n _ _ _, 0, _, 0 => Iff.rfl
  | .n _ _ _, 0, _, _ + 1 => Iff.rfl
  | .n v l r, m + 1, x, 0 => by
    rw [HT.set_ns]
    cases Nat.beq (Nat.mod m 2) 1 <;> exact Iff.rfl
  | .n v l r, m + 1, x, k + 1 => by
    rw [HT.set_ns]
    cases hb : Nat.beq (Nat.mod m 2) 1 with
    | true =>
      simp only [HT.has]
      cases hk : Nat.beq (Nat.mod k 2) 1 with
      | true => exact HT.has_set r _ x _
      | false => exact Iff.rfl
    | false =>
      simp only [HT.has]
      cases hk : Nat.beq (Nat.mod k 2) 1 with
      | true => exact Iff.rfl
      | false => exact HT.has_set l _ x _
theorem HT.full_s (d : Nat) : HT.full (d + 1) = .n none (HT.full d) (HT.full d) := rfl
theorem HT.full_has : ∀ (d i : Nat), i + 1 < 2 ^ d → (HT.full d).has i
  | 0, i, h => by simp at h
  | d + 1, 0, _ => by rw [HT.full_s]; trivial
  | d + 1, m + 1, h => by
    rw [HT.full_s]
    simp only [HT.has]
    have hd : m / 2 + 1 < 2 ^ d := by rw [Nat.pow_succ] at h; omega
    cases Nat.beq (Nat.mod m 2) 1 <;> exact HT.full_has d _ hd
theorem HT.full_get : ∀ (d i : Nat), (HT.full d).get i = none
  | 0, _ => rfl
  | d + 1, 0 => rfl
  | d + 1, m + 1 => by
    rw [HT.full_s, HT.get_ns]
    cases Nat.beq (Nat.mod m 2) 1 <;> exact HT.full_get d _

/-- A frame as a tree stands for one as a list. -/
structure FRel (F : FR) (fr : List AV) : Prop where
  len : F.n = fr.length
  get : ∀ t, F.t.get t = nthA fr t
  has : ∀ t, t < F.n → F.t.has t
theorem FRel.put {F : FR} {fr : List AV} (h : FRel F fr) (d : Option Nat) (v : AV) : FRel (F.put d v) (put fr d v) := by
  cases d with
  | none => exact h
  | some d =>
    simp only [FR.put, Go.Proofs.Ytbcpcjofkfgjoaa.put]
    cases hb : Nat.blt d F.n with
    | true =>
      have hd : d < F.n := by simpa using hb
      refine ⟨by simp [h.len], fun t => ?_, fun t ht => (FT.has_set _ _ _ _).2 (h.has t ht)⟩
      by_cases e : d = t
      · subst e
        rw [FT.get_same _ _ _ (h.has d hd), nthA_get, List.getElem?_set_self (by rw [← h.len]; exact hd)]
        rfl
      · rw [FT.get_other _ _ _ _ e, h.get, nthA_get, nthA_get, List.getElem?_set_ne e]
    | false =>
      have hd : ¬ d < F.n := fun q => by
        have : Nat.blt d F.n = true := by rw [Nat.blt_eq]; exact q
        rw [this] at hb
        cases hb
      rw [List.set_eq_of_length_le (by rw [← h.len]; omega)]
      exact h
theorem FRel.full (n : Nat) : FRel (FR.full n) (List.replicate n (.tu [])) :=
  ⟨by simp [FR.full], fun t => by
    simp only [FR.full]
    rw [FT.full_get, nthA_get, List.getElem?_replicate]
    split <;> rfl, fun t ht => by
    simp only [FR.full] at ht ⊢
    refine FT.full_has _ _ ?_
    have : n < 2 ^ (Nat.log2 n + 1) := Nat.lt_log2_self
    exact Nat.lt_of_le_of_lt ht this⟩
/-- A block of the tree stands for one of the list; nothing: a dead one. -/
def BRel : Option HB → AB → Prop
  | none, B => B = .dead
  | some (.b B'), B => B = B'
  | some (.lp st pd F ps asg bd), B => ∃ fr, FRel F fr ∧ B = .lp st pd fr ps asg bd
structure HRel (H : HP) (h : List AB) : Prop where
  len : H.len = h.length
  top : H.len ≤ 16001
  out : ∀ i, H.len ≤ i → H.t.get i = none
  blk : ∀ (i : Nat) (B : AB), h[i]? = some B → BRel (H.t.get i) B
  has : ∀ i, i < 16001 → H.t.has i
theorem HRel.lt {H : HP} {h : List AB} (r : HRel H h) {i : Nat} {X : HB} (e : H.t.get i = some X) : i < h.length := by
  rcases Nat.lt_or_ge i h.length with q | q
  · exact q
  · rw [r.out i (by rw [r.len]; exact q)] at e
    cases e
theorem HRel.here {H : HP} {h : List AB} (r : HRel H h) {i : Nat} {X : HB} (e : H.t.get i = some X) : ∃ B, h[i]? = some B ∧ BRel (some X) B := by
  have hi := r.lt e
  exact ⟨h[i], List.getElem?_eq_getElem hi, by rw [← e]; exact r.blk i _ (List.getElem?_eq_getElem hi)⟩
theorem HRel.set {H : HP} {h : List AB} (r : HRel H h) {i : Nat} (hi : i < h.length) {X : Option HB} {B : AB} (hb : BRel X B) : HRel ⟨H.len, H.t.set i X⟩ (h.set i B) := by
  have ht := r.top
  have hl := r.len
  refine ⟨by simp [r.len], r.top, fun j hj => ?_, fun j C e => ?_, fun j hj => (HT.has_set _ _ _ _).2 (r.has j hj)⟩
  · dsimp only at hj
    rw [HT.get_other _ _ _ _ (by omega)]
    exact r.out j hj
  · rw [List.getElem?_set] at e
    dsimp only
    by_cases q : i = j
    · subst q
      rw [if_pos rfl, if_pos hi] at e
      cases e
      rw [HT.get_same _ _ _ (r.has i (by omega))]
      exact hb
    · rw [if_neg q] at e
      rw [HT.get_other _ _ _ _ q]
      exact r.blk j C e
theorem HRel.push {H H' : HP} {h : List AB} (r : HRel H h) {X : Option HB} {B : AB} (hb : BRel X B) (e : H.push X = Option.some H') : HRel H' (h ++ [B]) := by
  have hl := r.len
  have key : ∀ k, H.len = k → k < 16001 → HRel ⟨k + 1, H.t.set k X⟩ (h ++ [B]) := fun k hk hlt => by
    refine ⟨by simp; omega, by simp; omega, fun j hj => ?_, fun j C q => ?_, fun j hj => (HT.has_set _ _ _ _).2 (r.has j hj)⟩
    · dsimp only at hj ⊢
      rw [HT.get_other _ _ _ _ (by omega)]
      exact r.out j (by omega)
    · dsimp only
      by_cases hj : j < h.length
      · rw [List.getElem?_append_left hj] at q
        rw [HT.get_other _ _ _ _ (by omega)]
        exact r.blk j C q
      · rw [List.getElem?_append_right (by omega)] at q
        cases hz : j - h.length with
        | zero =>
          rw [hz] at q
          cases q
          have : j = k := by omega
          subst this
          rw [HT.get_same _ _ _ (r.has j hlt)]
          exact hb
        | succ z => rw [hz] at q; simp at q
  unfold HP.push at e
  cases hk : H.len with
  | zero =>
    rw [hk] at e
    cases e
    exact key 0 hk (by omega)
  | succ m =>
    rw [hk] at e
    dsimp only at e
    cases hb' : Nat.blt m 16000 with
    | true =>
      rw [hb'] at e
      cases e
      have hm : m < 16000 := by simpa using hb'
      exact key (m + 1) hk (by omega)
    | false =>
      rw [hb'] at e
      cases e
/-- What an effect does to a heap as a list. -/
def appL (h : List AB) : HE → List AB
  | .z => h
  | .put id B => h.set id B
  | .new B => h ++ [B]
  | .kn id B => h.set id .dead ++ [B]
/-- The block that an effect turns is there. -/
def HE.fits (g : GT) : HE → Prop
  | .put id _ | .kn id _ => ∃ B, g id = some B
  | _ => True
theorem HP.g_some {H : HP} {h : List AB} (r : HRel H h) {id : Nat} {B : AB} (e : H.g id = some B) : h[id]? = some B := by
  unfold HP.g at e
  split at e
  · rename_i C hC
    cases e
    obtain ⟨C', h1, h2⟩ := r.here hC
    rw [h1]
    exact congrArg _ h2
  · cases e
theorem HRel.app {H H' : HP} {h : List AB} (r : HRel H h) {e : HE} (hf : e.fits H.g) (q : H.app e = some H') : HRel H' (appL h e) := by
  cases e with
  | z => cases q; exact r
  | put id B =>
    cases q
    obtain ⟨C, hC⟩ := hf
    exact r.set (List.getElem?_eq_some_iff.1 (HP.g_some r hC)).1 rfl
  | new B => exact r.push (X := some (.b B)) (B := B) rfl q
  | kn id B =>
    obtain ⟨C, hC⟩ := hf
    exact (r.set (X := none) (B := .dead) (List.getElem?_eq_some_iff.1 (HP.g_some r hC)).1 rfl).push (X := some (.b B)) (B := B) rfl q
/-- The rows of cells that two getters have are the same. -/
def blkO : Option AB → Option AB
  | some (.blk f m x) => some (.blk f m x)
  | some (.iter t p) => some (.iter t p)
  | _ => none
theorem HP.g_blk {H : HP} {h : List AB} (r : HRel H h) (id : Nat) : blkO (H.g id) = blkO (h[id]?) := by
  unfold HP.g
  cases hq : H.t.get id with
  | none =>
    cases hh : h[id]? with
    | none => rfl
    | some B =>
      have := r.blk id B hh
      rw [hq] at this
      rw [show B = .dead from this]
      rfl
  | some X =>
    obtain ⟨B, h1, h2⟩ := r.here hq
    rw [h1]
    cases X with
    | b C => rw [show B = C from h2]
    | lp st pd F ps asg bd =>
      obtain ⟨fr, _, rfl⟩ := h2
      rfl
end Go.Proofs.Ytbcpcjofkfgjoaa
