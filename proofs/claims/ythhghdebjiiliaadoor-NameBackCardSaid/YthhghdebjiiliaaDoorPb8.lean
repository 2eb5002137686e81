/- Part 8 of what the laws' proofs rest on. No condition. -/
import Derived.Test.YthhghdebjiiliaaDoorPb7
set_option linter.all false
section
namespace Go.Proofs.YthhghdebjiiliaaDoor
open Go.RowKit
theorem Q17 {m k : Nat} (h : m ≠ k) (h2 : Nat.beq (Nat.mod m 2) 1 = Nat.beq (Nat.mod k 2) 1) : Nat.div m 2 ≠ Nat.div k 2 := by
 have e1 : Nat.mod m 2 = m % 2 := rfl
 have e2 : Nat.mod k 2 = k % 2 := rfl
 have e3 : Nat.div m 2 = m / 2 := rfl
 have e4 : Nat.div k 2 = k / 2 := rfl
 rw [e1, e2] at h2
 rw [e3, e4]
 have h3 : (m % 2 = 1) ↔ (k % 2 = 1) := by
  rw [← Nat.beq_eq (x := m % 2) (y := 1), ← Nat.beq_eq (x := k % 2) (y := 1), h2]
 omega
def FT.has : FT → Nat → Prop
 | .e, _ => False
 | .n _ _ _, 0 => True
 | .n _ l r, m + 1 => match Nat.beq (Nat.mod m 2) 1 with
  | true => r.has (Nat.div m 2)
  | false => l.has (Nat.div m 2)
theorem FT.get_ns (v : AV) (l r : FT) (m : Nat) : (FT.n v l r).get (m + 1) = match Nat.beq (Nat.mod m 2) 1 with | true => r.get (Nat.div m 2) | false => l.get (Nat.div m 2) := by
 change Bool.rec (motive := fun _ => AV) (l.get (Nat.div m 2)) (r.get (Nat.div m 2)) (Nat.beq (Nat.mod m 2) 1) = _
 cases Nat.beq (Nat.mod m 2) 1 <;> rfl
theorem FT.set_n0 (v : AV) (l r : FT) (x : AV) : (FT.n v l r).set 0 x = .n x l r := rfl
theorem FT.set_ns (v : AV) (l r : FT) (m : Nat) (x : AV) : (FT.n v l r).set (m + 1) x = match Nat.beq (Nat.mod m 2) 1 with | true => .n v l (r.set (Nat.div m 2) x) | false => .n v (l.set (Nat.div m 2) x) r := by
 change Bool.rec (motive := fun _ => FT) (FT.n v (l.set (Nat.div m 2) x) r) (FT.n v l (r.set (Nat.div m 2) x)) (Nat.beq (Nat.mod m 2) 1) = _
 cases Nat.beq (Nat.mod m 2) 1 <;> rfl
theorem FT.get_same : ∀ (t : FT) (i : Nat) (x : AV), t.has i → (t.set i x).get i = x
 | .e, _, _, h => h.elim
 | .n _ _ _, 0, _, _ => rfl
 | .n v l r, m + 1, x, h => by
  rw [FT.set_ns]
  simp only [FT.has] at h
  cases hb : Nat.beq (Nat.mod m 2) 1 with
  | true =>
   rw [hb] at h
   simp only [FT.get_ns, hb]
   exact FT.get_same r _ x h
  | false =>
   rw [hb] at h
   simp only [FT.get_ns, hb]
   exact FT.get_same l _ x h
theorem FT.get_other : ∀ (t : FT) (i j : Nat) (x : AV), i ≠ j → (t.set i x).get j = t.get j
 | .e, _, _, _, _ => rfl
 | .n _ _ _, 0, 0, _, h => absurd rfl h
 | .n v l r, 0, j + 1, x, _ => by rw [FT.set_n0, FT.get_ns, FT.get_ns]
 | .n v l r, m + 1, 0, x, _ => by
  rw [FT.set_ns]
  cases Nat.beq (Nat.mod m 2) 1 <;> rfl
 | .n v l r, m + 1, k + 1, x, h => by
  rw [FT.set_ns]
  cases hb : Nat.beq (Nat.mod m 2) 1 with
  | true =>
   simp only [FT.get_ns]
   cases hk : Nat.beq (Nat.mod k 2) 1 with
   | true => exact FT.get_other r _ _ x (Q17 (by omega) (by rw [hb, hk]))
   | false => rfl
  | false =>
   simp only [FT.get_ns]
   cases hk : Nat.beq (Nat.mod k 2) 1 with
   | true => rfl
   | false => exact FT.get_other l _ _ x (Q17 (by omega) (by rw [hb, hk]))
theorem FT.has_set : ∀ (t : FT) (i : Nat) (x : AV) (j : Nat), (t.set i x).has j ↔ t.has j
 | .e, _, _, _ => Iff.rfl
 | .n _ _ _, 0, _, 0 => Iff.rfl
 | .n _ _ _, 0, _, _ + 1 => Iff.rfl
 | .n v l r, m + 1, x, 0 => by
  rw [FT.set_ns]
  cases Nat.beq (Nat.mod m 2) 1 <;> exact Iff.rfl
 | .n v l r, m + 1, x, k + 1 => by
  rw [FT.set_ns]
  cases hb : Nat.beq (Nat.mod m 2) 1 with
  | true =>
   simp only [FT.has]
   cases hk : Nat.beq (Nat.mod k 2) 1 with
   | true => exact FT.has_set r _ x _
   | false => exact Iff.rfl
  | false =>
   simp only [FT.has]
   cases hk : Nat.beq (Nat.mod k 2) 1 with
   | true => exact Iff.rfl
   | false => exact FT.has_set l _ x _
theorem FT.full_s (d : Nat) : FT.full (d + 1) = .n (.tu []) (FT.full d) (FT.full d) := rfl
theorem FT.full_has : ∀ (d i : Nat), i + 1 < 2 ^ d → (FT.full d).has i
 | 0, i, h => by simp at h
 | d + 1, 0, _ => by rw [FT.full_s]; trivial
 | d + 1, m + 1, h => by
  rw [FT.full_s]
  simp only [FT.has]
  have hd : m / 2 + 1 < 2 ^ d := by rw [Nat.pow_succ] at h; omega
  cases Nat.beq (Nat.mod m 2) 1 <;> exact FT.full_has d _ hd
theorem FT.full_get : ∀ (d i : Nat), (FT.full d).get i = .tu []
 | 0, _ => rfl
 | d + 1, 0 => rfl
 | d + 1, m + 1 => by
  rw [FT.full_s, FT.get_ns]
  cases Nat.beq (Nat.mod m 2) 1 <;> exact FT.full_get d _
def HT.has : HT → Nat → Prop
 | .e, _ => False
 | .n _ _ _, 0 => True
 | .n _ l r, m + 1 => match Nat.beq (Nat.mod m 2) 1 with
  | true => r.has (Nat.div m 2)
  | false => l.has (Nat.div m 2)
theorem HT.get_ns (v : Option HB) (l r : HT) (m : Nat) : (HT.n v l r).get (m + 1) = match Nat.beq (Nat.mod m 2) 1 with | true => r.get (Nat.div m 2) | false => l.get (Nat.div m 2) := by
 change Bool.rec (motive := fun _ => Option HB) (l.get (Nat.div m 2)) (r.get (Nat.div m 2)) (Nat.beq (Nat.mod m 2) 1) = _
 cases Nat.beq (Nat.mod m 2) 1 <;> rfl
theorem HT.set_n0 (v : Option HB) (l r : HT) (x : Option HB) : (HT.n v l r).set 0 x = .n x l r := rfl
theorem HT.set_ns (v : Option HB) (l r : HT) (m : Nat) (x : Option HB) : (HT.n v l r).set (m + 1) x = match Nat.beq (Nat.mod m 2) 1 with | true => .n v l (r.set (Nat.div m 2) x) | false => .n v (l.set (Nat.div m 2) x) r := by
 change Bool.rec (motive := fun _ => HT) (HT.n v (l.set (Nat.div m 2) x) r) (HT.n v l (r.set (Nat.div m 2) x)) (Nat.beq (Nat.mod m 2) 1) = _
 cases Nat.beq (Nat.mod m 2) 1 <;> rfl
theorem HT.get_same : ∀ (t : HT) (i : Nat) (x : Option HB), t.has i → (t.set i x).get i = x
 | .e, _, _, h => h.elim
 | .n _ _ _, 0, _, _ => rfl
 | .n v l r, m + 1, x, h => by
  rw [HT.set_ns]
  simp only [HT.has] at h
  cases hb : Nat.beq (Nat.mod m 2) 1 with
  | true =>
   rw [hb] at h
   simp only [HT.get_ns, hb]
   exact HT.get_same r _ x h
  | false =>
   rw [hb] at h
   simp only [HT.get_ns, hb]
   exact HT.get_same l _ x h
theorem HT.get_other : ∀ (t : HT) (i j : Nat) (x : Option HB), i ≠ j → (t.set i x).get j = t.get j
 | .e, _, _, _, _ => rfl
 | .n _ _ _, 0, 0, _, h => absurd rfl h
 | .n v l r, 0, j + 1, x, _ => by rw [HT.set_n0, HT.get_ns, HT.get_ns]
 | .n v l r, m + 1, 0, x, _ => by
  rw [HT.set_ns]
  cases Nat.beq (Nat.mod m 2) 1 <;> rfl
 | .n v l r, m + 1, k + 1, x, h => by
  rw [HT.set_ns]
  cases hb : Nat.beq (Nat.mod m 2) 1 with
  | true =>
   simp only [HT.get_ns]
   cases hk : Nat.beq (Nat.mod k 2) 1 with
   | true => exact HT.get_other r _ _ x (Q17 (by omega) (by rw [hb, hk]))
   | false => rfl
  | false =>
   simp only [HT.get_ns]
   cases hk : Nat.beq (Nat.mod k 2) 1 with
   | true => rfl
   | false => exact HT.get_other l _ _ x (Q17 (by omega) (by rw [hb, hk]))
theorem HT.has_set : ∀ (t : HT) (i : Nat) (x : Option HB) (j : Nat), (t.set i x).has j ↔ t.has j
 | .e, _, _, _ => Iff.rfl
 | .n _ _ _, 0, _, 0 => Iff.rfl
 | .n _ _ _, 0, _, _ + 1 => Iff.rfl
 | .n v l r, m + 1, x, 0 => by
  rw [HT.set_ns]
  cases Nat.beq (Nat.mod m 2) 1 <;> exact Iff.rfl
 | .n v l r, m + 1, x, k + 1 => by
  rw [HT.set_ns]
  cases hb : Nat.beq (Nat.mod m 2) 1 with
  | true =>
   simp only [HT.has]
   cases hk : Nat.beq (Nat.mod k 2) 1 with
   | true => exact HT.has_set r _ x _
   | false => exact Iff.rfl
  | false =>
   simp only [HT.has]
   cases hk : Nat.beq (Nat.mod k 2) 1 with
   | true => exact Iff.rfl
   | false => exact HT.has_set l _ x _
theorem HT.full_s (d : Nat) : HT.full (d + 1) = .n none (HT.full d) (HT.full d) := rfl
theorem HT.full_has : ∀ (d i : Nat), i + 1 < 2 ^ d → (HT.full d).has i
 | 0, i, h => by simp at h
 | d + 1, 0, _ => by rw [HT.full_s]; trivial
 | d + 1, m + 1, h => by
  rw [HT.full_s]
  simp only [HT.has]
  have hd : m / 2 + 1 < 2 ^ d := by rw [Nat.pow_succ] at h; omega
  cases Nat.beq (Nat.mod m 2) 1 <;> exact HT.full_has d _ hd
theorem HT.full_get : ∀ (d i : Nat), (HT.full d).get i = none
 | 0, _ => rfl
 | d + 1, 0 => rfl
 | d + 1, m + 1 => by
  rw [HT.full_s, HT.get_ns]
  cases Nat.beq (Nat.mod m 2) 1 <;> exact HT.full_get d _
structure FRel (F : FR) (fr : List AV) : Prop where
 len : F.n = fr.length
 get : ∀ t, F.t.get t = nthA fr t
 has : ∀ t, t < F.n → F.t.has t
theorem FRel.put {F : FR} {fr : List AV} (h : FRel F fr) (d : Option Nat) (v : AV) : FRel (F.put d v) (put fr d v) := by
 cases d with
 | none => exact h
 | some d =>
  simp only [FR.put, Go.Proofs.YthhghdebjiiliaaDoor.put]
  cases hb : Nat.blt d F.n with
  | true =>
   have hd : d < F.n := by simpa using hb
   refine ⟨by simp [h.len], fun t => ?_, fun t ht => (FT.has_set _ _ _ _).2 (h.has t ht)⟩
   by_cases e : d = t
   ·subst e
    rw [FT.get_same _ _ _ (h.has d hd), zjj, List.getElem?_set_self (by rw [← h.len]; exact hd)]
    rfl
   ·rw [FT.get_other _ _ _ _ e, h.get, zjj, zjj, List.getElem?_set_ne e]
  | false =>
   have hd : ¬ d < F.n := fun q => by
    have : Nat.blt d F.n = true := by rw [Nat.blt_eq]; exact q
    rw [this] at hb
    cases hb
   rw [List.set_eq_of_length_le (by rw [← h.len]; omega)]
   exact h
theorem FRel.full (n : Nat) : FRel (FR.full n) (List.replicate n (.tu [])) :=
 ⟨by simp [FR.full], fun t => by
  simp only [FR.full]
  rw [FT.full_get, zjj, List.getElem?_replicate]
  split <;> rfl, fun t ht => by
  simp only [FR.full] at ht ⊢
  refine FT.full_has _ _ ?_
  have : n < 2 ^ (Nat.log2 n + 1) := Nat.lt_log2_self
  exact Nat.lt_of_le_of_lt ht this⟩
def BRel : Option HB → AB → Prop
 | none, B => B = .dead
 | some (.b B'), B => B = B'
 | some (.lp st pd F ps asg bd), B => ∃ fr, FRel F fr ∧ B = .lp st pd fr ps asg bd
structure HRel (H : HP) (h : List AB) : Prop where
 len : H.len = h.length
 top : H.len ≤ 16001
 out : ∀ i, H.len ≤ i → H.t.get i = none
 blk : ∀ (i : Nat) (B : AB), h[i]? = some B → BRel (H.t.get i) B
 has : ∀ i, i < 16001 → H.t.has i
theorem HRel.lt {H : HP} {h : List AB} (r : HRel H h) {i : Nat} {X : HB} (e : H.t.get i = some X) : i < h.length := by
 rcases Nat.lt_or_ge i h.length with q | q
 ·exact q
 ·rw [r.out i (by rw [r.len]; exact q)] at e
  cases e
theorem HRel.here {H : HP} {h : List AB} (r : HRel H h) {i : Nat} {X : HB} (e : H.t.get i = some X) : ∃ B, h[i]? = some B ∧ BRel (some X) B := by
 have hi := r.lt e
 exact ⟨h[i], List.getElem?_eq_getElem hi, by rw [← e]; exact r.blk i _ (List.getElem?_eq_getElem hi)⟩
theorem HRel.set {H : HP} {h : List AB} (r : HRel H h) {i : Nat} (hi : i < h.length) {X : Option HB} {B : AB} (hb : BRel X B) : HRel ⟨H.len, H.t.set i X⟩ (h.set i B) := by
 have ht := r.top
 have hl := r.len
 refine ⟨by simp [r.len], r.top, fun j hj => ?_, fun j C e => ?_, fun j hj => (HT.has_set _ _ _ _).2 (r.has j hj)⟩
 ·dsimp only at hj
  rw [HT.get_other _ _ _ _ (by omega)]
  exact r.out j hj
 ·rw [List.getElem?_set] at e
  dsimp only
  by_cases q : i = j
  ·subst q
   rw [if_pos rfl, if_pos hi] at e
   cases e
   rw [HT.get_same _ _ _ (r.has i (by omega))]
   exact hb
  ·rw [if_neg q] at e
   rw [HT.get_other _ _ _ _ q]
   exact r.blk j C e
theorem HRel.push {H H' : HP} {h : List AB} (r : HRel H h) {X : Option HB} {B : AB} (hb : BRel X B) (e : H.push X = Option.some H') : HRel H' (h ++ [B]) := by
 have hl := r.len
 have key : ∀ k, H.len = k → k < 16001 → HRel ⟨k + 1, H.t.set k X⟩ (h ++ [B]) := fun k hk hlt => by
  refine ⟨by simp; omega, by simp; omega, fun j hj => ?_, fun j C q => ?_, fun j hj => (HT.has_set _ _ _ _).2 (r.has j hj)⟩
  ·dsimp only at hj ⊢
   rw [HT.get_other _ _ _ _ (by omega)]
   exact r.out j (by omega)
  ·dsimp only
   by_cases hj : j < h.length
   ·rw [List.getElem?_append_left hj] at q
    rw [HT.get_other _ _ _ _ (by omega)]
    exact r.blk j C q
   ·rw [List.getElem?_append_right (by omega)] at q
    cases hz : j - h.length with
    | zero =>
     rw [hz] at q
     cases q
     have : j = k := by omega
     subst this
     rw [HT.get_same _ _ _ (r.has j hlt)]
     exact hb
    | succ z => rw [hz] at q; simp at q
 unfold HP.push at e
 cases hk : H.len with
 | zero =>
  rw [hk] at e
  cases e
  exact key 0 hk (by omega)
 | succ m =>
  rw [hk] at e
  dsimp only at e
  cases hb' : Nat.blt m 16000 with
  | true =>
   rw [hb'] at e
   cases e
   have hm : m < 16000 := by simpa using hb'
   exact key (m + 1) hk (by omega)
  | false =>
   rw [hb'] at e
   cases e
def appL (h : List AB) : HE → List AB
 | .z => h
 | .put id B => h.set id B
 | .new B => h ++ [B]
 | .kn id B => h.set id .dead ++ [B]
def HE.fits (g : GT) : HE → Prop
 | .put id _ | .kn id _ => ∃ B, g id = some B
 | _ => True
theorem HP.g_some {H : HP} {h : List AB} (r : HRel H h) {id : Nat} {B : AB} (e : H.g id = some B) : h[id]? = some B := by
 unfold HP.g at e
 split at e
 ·rename_i C hC
  cases e
  obtain ⟨C', h1, h2⟩ := r.here hC
  rw [h1]
  exact congrArg _ h2
 ·cases e
theorem HRel.app {H H' : HP} {h : List AB} (r : HRel H h) {e : HE} (hf : e.fits H.g) (q : H.app e = some H') : HRel H' (appL h e) := by
 cases e with
 | z => cases q; exact r
 | put id B =>
  cases q
  obtain ⟨C, hC⟩ := hf
  exact r.set (List.getElem?_eq_some_iff.1 (HP.g_some r hC)).1 rfl
 | new B => exact r.push (X := some (.b B)) (B := B) rfl q
 | kn id B =>
  obtain ⟨C, hC⟩ := hf
  exact (r.set (X := none) (B := .dead) (List.getElem?_eq_some_iff.1 (HP.g_some r hC)).1 rfl).push (X := some (.b B)) (B := B) rfl q
def blkO : Option AB → Option AB
 | some (.blk f m x) => some (.blk f m x)
 | some (.iter t p) => some (.iter t p)
 | _ => none
theorem HP.g_blk {H : HP} {h : List AB} (r : HRel H h) (id : Nat) : blkO (H.g id) = blkO (h[id]?) := by
 unfold HP.g
 cases hq : H.t.get id with
 | none =>
  cases hh : h[id]? with
  | none => rfl
  | some B =>
   have := r.blk id B hh
   rw [hq] at this
   rw [show B = .dead from this]
   rfl
 | some X =>
  obtain ⟨B, h1, h2⟩ := r.here hq
  rw [h1]
  cases X with
  | b C => rw [show B = C from h2]
  | lp st pd F ps asg bd =>
   obtain ⟨fr, _, rfl⟩ := h2
   rfl
end Go.Proofs.YthhghdebjiiliaaDoor
end
section
namespace Go.Proofs.YthhghdebjiiliaaDoor
open Go.RowKit
theorem qMt {g : GT} {h : List AB} {id : Nat} (hg : blkO (g id) = blkO (h[id]?)) {f m : Bool} {x : List AV} (e : g id = some (.blk f m x)) : h[id]? = some (.blk f m x) := by
 rw [e] at hg
 simp only [blkO] at hg
 split at hg
 ·rename_i a b c q
  cases hg
  exact q
 ·cases hg
 ·cases hg
theorem X2q {g : GT} {h : List AB} {id : Nat} (hg : blkO (g id) = blkO (h[id]?)) {t : ByteArray} {p : Nat} (e : g id = some (.iter t p)) : h[id]? = some (.iter t p) := by
 rw [e] at hg
 simp only [blkO] at hg
 split at hg
 ·cases hg
 ·rename_i a b q
  cases hg
  exact q
 ·cases hg
theorem zni {g : GT} {h : List AB} {id : Nat} (hg : blkO (g id) = blkO (h[id]?)) : rdG g id = JZy h id := by
 unfold rdG JZy
 unfold blkO at hg
 split at hg <;> split at hg <;> simp_all
theorem qOV {g : GT} {h : List AB} (hg : ∀ id, blkO (g id) = blkO (h[id]?)) (n : Option Nat) (x : AV) : ldG g n x = ldV h n x := by
 unfold ldG ldV
 cases n <;> cases x <;> simp only [zni (hg _), zVo]
theorem QL5 {g : GT} {h : List AB} (hg : ∀ id, blkO (g id) = blkO (h[id]?)) (sz : Nat) (x : AV) : srcG g sz x = srcV h sz x := by
 unfold srcG srcV
 cases x <;> simp only [zni (hg _)]
theorem qvt {g : GT} {h : List AB} (hg : ∀ id, blkO (g id) = blkO (h[id]?)) {id off : Nat} {l : List AV} {e : HE} (q : stG g id off l = some e) : stB h id off l = some (appL h e) ∧ e.fits g := by
 unfold stG at q
 split at q
 ·rename_i fl xs hB
  split at q
  ·rename_i hc
   cases q
   unfold stB
   rw [qMt (hg id) hB]
   simp only
   rw [if_pos hc]
   exact ⟨rfl, _, hB⟩
  ·cases q
 ·cases q
theorem qvT {g : GT} {h : List AB} (hg : ∀ id, blkO (g id) = blkO (h[id]?)) {n : Option Nat} {x y : AV} {e : HE} (q : stVG g n x y = some e) : stV h n x y = some (appL h e) ∧ e.fits g := by
 unfold stVG at q
 split at q
 ·split at q
  ·rename_i h1
   obtain ⟨a, b⟩ := qvt hg q
   simp only [stV]
   rw [if_pos h1]
   exact ⟨a, b⟩
  ·cases q
 ·split at q
  ·rename_i h1
   obtain ⟨a, b⟩ := qvt hg q
   simp only [stV]
   rw [if_pos h1]
   exact ⟨a, b⟩
  ·cases q
 ·cases q
theorem zY0 {g : GT} {h : List AB} {fl : Bool} {cs : List AV} {f : Nat → AV} {v : AV} {e : HE} (q : newG h.length fl cs f = some (v, e)) : newB h fl cs f = some (v, appL h e) ∧ e.fits g := by
 unfold newG at q
 split at q
 ·rename_i hc
  cases q
  unfold newB
  rw [if_pos hc]
  exact ⟨rfl, trivial⟩
 ·cases q
theorem zEh {g : GT} {h : List AB} (hg : ∀ id, blkO (g id) = blkO (h[id]?)) {fl : Bool} {sz by_ : Nat} {s x v : AV} {e : HE} (q : appG g h.length fl sz by_ s x = some (v, e)) : appV h fl sz by_ s x = some (v, appL h e) ∧ e.fits g := by
 unfold appG at q
 unfold appV
 rw [QL5 hg] at q
 obtain ⟨⟨m, ys⟩, hs, q⟩ := Option.bind_eq_some_iff.1 q
 rw [hs]
 simp only [Option.bind_some]
 dsimp only at q
 split at q
 ·rename_i hall
  rw [if_pos hall]
  split at q
  ·split at q
   ·rename_i h0
    cases q
    rw [if_pos h0]
    exact ⟨rfl, trivial⟩
   ·rename_i h0
    rw [if_neg h0]
    split at q
    ·rename_i h1
     cases q
     rw [if_pos h1]
     exact ⟨rfl, trivial⟩
    ·cases q
  ·dsimp only
   split at q
   ·rename_i h0
    cases q
    rw [if_pos h0]
    exact ⟨rfl, trivial⟩
   ·rename_i h0
    rw [if_neg h0]
    split at q
    ·rename_i h1
     obtain ⟨e', he, q⟩ := Option.map_eq_some_iff.1 q
     cases q
     obtain ⟨a, b⟩ := qvt hg he
     rw [if_pos h1, a]
     exact ⟨rfl, b⟩
    ·rename_i h1
     rw [if_neg h1]
     split at q
     ·rename_i fl' mu xs hB
      rw [qMt (hg _) hB]
      dsimp only
      split at q
      ·rename_i h2
       rw [if_pos h2]
       split at q
       ·rename_i h3
        cases q
        rw [if_pos h3]
        exact ⟨rfl, trivial⟩
       ·rename_i h3
        rw [if_neg h3]
        split at q
        ·rename_i h4
         cases q
         rw [if_pos h4]
         exact ⟨rfl, _, hB⟩
        ·rename_i h4
         rw [if_neg h4]
         split at q
         ·rename_i h5
          cases q
          rw [if_pos h5]
          exact ⟨rfl, _, hB⟩
         ·cases q
      ·cases q
     ·cases q
  ·cases q
 ·cases q
theorem KEQ {g : GT} {h : List AB} (hg : ∀ id, blkO (g id) = blkO (h[id]?)) {sz : Nat} {d s v : AV} {e : HE} (q : cpyG g sz d s = some (v, e)) : cpyV h sz d s = some (v, appL h e) ∧ e.fits g := by
 unfold cpyG at q
 unfold cpyV
 rw [QL5 hg] at q
 obtain ⟨⟨m, ys⟩, hs, q⟩ := Option.bind_eq_some_iff.1 q
 rw [hs]
 simp only [Option.bind_some]
 dsimp only at q
 split at q
 ·split at q
  ·rename_i h1
   obtain ⟨e', he, q⟩ := Option.map_eq_some_iff.1 q
   cases q
   obtain ⟨a, b⟩ := qvt hg he
   dsimp only
   rw [if_pos h1, a]
   exact ⟨rfl, b⟩
  ·cases q
 ·cases q
theorem ZvC {op : CO} (hm : op.mk = .free) {ev : Opd → AV} (g : GT) (h : List AB) {v : AV} {e : HE} (q : Y5q (op.runF ev []) = some (v, e)) : op.run ev h = some (v, appL h e) ∧ e.fits g := by
 rw [q7w] at q
 unfold Y5q at q
 split at q
 ·rename_i v' h0 hr
  cases q
  rw [Q6y hm, hr]
  exact ⟨rfl, trivial⟩
 ·cases q
theorem JDo (op : CO) (hc : op.isCall = none) {ev : Opd → AV} {g : GT} {h : List AB} (hg : ∀ id, blkO (g id) = blkO (h[id]?)) {v : AV} {e : HE} (q : opE op ev g h.length = some (v, e)) : op.run ev h = some (v, appL h e) ∧ e.fits g := by
 cases op with
 | call f args => cases hc
 | stop => cases q
 | ld n x =>
  change valG (ldG g n (ev x)) = _ at q
  rw [qOV hg] at q
  unfold valG at q
  split at q
  ·rename_i v' hv
   cases q
   simp only [CO.run]
   rw [hv]
   exact ⟨rfl, trivial⟩
  ·cases q
 | st n x y =>
  change untG (stVG g n (ev x) (ev y)) = _ at q
  unfold untG at q
  split at q
  ·rename_i e' he
   cases q
   obtain ⟨a, b⟩ := qvT hg he
   simp only [CO.run]
   rw [a]
   exact ⟨rfl, b⟩
  ·cases q
 | new fl zs =>
  change newG h.length fl zs (fun n => .p n 0) = _ at q
  exact zY0 q
 | box fl n x =>
  change (if (ev x).cells.length = n then newG h.length fl (ev x).cells (fun n => .p n 0) else none) = _ at q
  simp only [CO.run]
  split at q
  ·rename_i h1
   rw [if_pos h1]
   exact zY0 q
  ·cases q
 | bls fl k zs ps =>
  change ((YwX ev zs ps).bind fun cs => newG h.length fl cs (fun n => .sl n 0 k k none)) = _ at q
  simp only [CO.run]
  obtain ⟨cs, hcs, q⟩ := Option.bind_eq_some_iff.1 q
  rw [hcs]
  exact zY0 q
 | mks fl z by_ le ca =>
  change (match ev le, ev ca with
   | .i _ l, .i _ c => if 0 ≤ l ∧ l ≤ c ∧ (by_ : Int) * c ≤ 2 ^ 47 ∧ c ≤ maxLen then newG h.length fl ((List.replicate c.toNat z).flatten) (fun n => .sl n 0 l.toNat c.toNat none) else none
   | _, _ => none) = _ at q
  simp only [CO.run]
  split at q
  ·rename_i h1 h2
   rw [h1, h2]
   dsimp only
   split at q
   ·rename_i h3
    rw [if_pos h3]
    exact zY0 q
   ·cases q
  ·cases q
 | app str fl sz b s x =>
  change (if (ev x).isStr = str then appG g h.length fl sz b (ev s) (ev x) else none) = _ at q
  simp only [CO.run]
  split at q
  ·rename_i h1
   rw [if_pos h1]
   exact zEh hg q
  ·cases q
 | cpy str sz d s =>
  change (if (ev s).isStr = str then cpyG g sz (ev d) (ev s) else none) = _ at q
  simp only [CO.run]
  split at q
  ·rename_i h1
   rw [if_pos h1]
   exact KEQ hg q
  ·cases q
 | apz fl z by_ s n =>
  change (match ev s, ev n with
   | .ns, .i _ m => if m = 0 then some (AV.ns, HE.z) else if 0 < m ∧ m.toNat * by_ ≤ 140737488355328 ∧ m.toNat ≤ maxLen then newG h.length fl ((List.replicate m.toNat z).flatten) (fun k => .sl k 0 m.toNat m.toNat (some z.length)) else none
   | _, _ => none) = _ at q
  simp only [CO.run]
  split at q
  ·rename_i h1 h2
   rw [h1, h2]
   dsimp only
   split at q
   ·rename_i h3
    cases q
    rw [if_pos h3]
    exact ⟨rfl, trivial⟩
   ·rename_i h3
    rw [if_neg h3]
    split at q
    ·rename_i h4
     rw [if_pos h4]
     exact zY0 q
    ·cases q
  ·cases q
 | b2s x =>
  change (if (ev x).isStr then none else (srcG g 1 (ev x)).bind fun (_, cs) => (bytesOf cs).map fun l => (AV.s l, HE.z)) = _ at q
  simp only [CO.run]
  rw [QL5 hg] at q
  split at q
  ·cases q
  ·rename_i h1
   rw [if_neg h1]
   obtain ⟨⟨m, cs⟩, hs, q⟩ := Option.bind_eq_some_iff.1 q
   obtain ⟨l, hl, q⟩ := Option.map_eq_some_iff.1 q
   cases q
   rw [hs]
   simp only [Option.bind_some]
   rw [hl]
   exact ⟨rfl, trivial⟩
 | clr z x =>
  change (match ev x with
   | .ns => some (AV.tu [], HE.z)
   | .se => some (AV.tu [], HE.z)
   | .sl id off n _ _ => if n = 0 then some (AV.tu [], HE.z) else untG (stG g id off ((List.replicate n z).flatten))
   | _ => none) = _ at q
  simp only [CO.run]
  split at q
  ·rename_i h1
   cases q
   rw [h1]
   exact ⟨rfl, trivial⟩
  ·rename_i h1
   cases q
   rw [h1]
   exact ⟨rfl, trivial⟩
  ·rename_i h1
   rw [h1]
   dsimp only
   split at q
   ·rename_i h2
    cases q
    rw [if_pos h2]
    exact ⟨rfl, trivial⟩
   ·rename_i h2
    rw [if_neg h2]
    unfold untG at q
    split at q
    ·rename_i e' he
     cases q
     obtain ⟨a, b⟩ := qvt hg he
     rw [a]
     exact ⟨rfl, b⟩
    ·cases q
  ·cases q
 | bcmp x y =>
  change ((srcG g 1 (ev x)).bind fun (_, xs) => (srcG g 1 (ev y)).bind fun (_, ys) => (bytesOf xs).bind fun l => (bytesOf ys).map fun m => (AV.i .i64 (Extern.BytealgCompare.cmp ⟨l.toArray⟩ ⟨m.toArray⟩), HE.z)) = _ at q
  rw [QL5 hg, QL5 hg] at q
  simp only [CO.run]
  obtain ⟨⟨m1, xs⟩, s1, q⟩ := Option.bind_eq_some_iff.1 q
  obtain ⟨⟨m2, ys⟩, s2, q⟩ := Option.bind_eq_some_iff.1 q
  obtain ⟨l, b1, q⟩ := Option.bind_eq_some_iff.1 q
  obtain ⟨m, b2, q⟩ := Option.map_eq_some_iff.1 q
  cases q
  rw [s1]
  simp only [Option.bind_some]
  rw [s2]
  simp only [Option.bind_some]
  rw [b1]
  simp only [Option.bind_some]
  rw [b2]
  exact ⟨rfl, trivial⟩
 | s2b x =>
  change (match ev x with
   | .s l => if l.length ≤ maxLen then some (AV.sl h.length 0 l.length l.length (some 1), HE.new (.blk true true (l.map fun b : UInt8 => .i .u8 (b.toNat : Int)))) else none
   | _ => none) = _ at q
  simp only [CO.run]
  split at q
  ·rename_i l h1
   rw [h1]
   dsimp only
   split at q
   ·rename_i h2
    cases q
    rw [if_pos h2]
    exact ⟨rfl, trivial⟩
   ·cases q
  ·cases q
 | rng x =>
  change (match ev x with
   | .s l => some (AV.p h.length 0, HE.new (.iter ⟨l.toArray⟩ 0))
   | _ => none) = _ at q
  simp only [CO.run]
  split at q
  ·rename_i l h1
   cases q
   rw [h1]
   exact ⟨rfl, trivial⟩
  ·cases q
 | nxt x =>
  change (match ev x with
   | .p id 0 => match g id with
    | some (.iter s pos) => if pos < s.size then some (AV.tu [.b true, .i .i64 (pos : Int), .i .i32 ((Utf8.decode s pos).1 : Int)], HE.put id (.iter s (pos + (Utf8.decode s pos).2))) else some (.tu [.b false], .z)
    | _ => none
   | _ => none) = _ at q
  simp only [CO.run]
  split at q
  ·rename_i id h1
   rw [h1]
   split at q
   ·rename_i s pos h2
    have hh := X2q (hg id) h2
    change (match h[id]? with
     | some (.iter s pos) => if pos < s.size then some (AV.tu [.b true, .i .i64 (pos : Int), .i .i32 ((Utf8.decode s pos).1 : Int)], h.set id (.iter s (pos + (Utf8.decode s pos).2))) else some (.tu [.b false], h)
     | _ => none) = _ ∧ _
    rw [hh]
    change (if pos < s.size then some (AV.tu [.b true, .i .i64 (pos : Int), .i .i32 ((Utf8.decode s pos).1 : Int)], h.set id (.iter s (pos + (Utf8.decode s pos).2))) else some (.tu [.b false], h)) = _ ∧ _
    split at q
    ·rename_i h3
     cases q
     rw [if_pos h3]
     exact ⟨rfl, _, h2⟩
    ·rename_i h3
     cases q
     rw [if_neg h3]
     exact ⟨rfl, trivial⟩
   ·cases q
  ·cases q
 | s2s x =>
  change (match ev x with
   | .sl id off n c k => if n = 0 then none else match g id with
    | some (.blk fl true xs) => some (AV.sl id off n c k, HE.put id (.blk fl false xs))
    | _ => none
   | _ => none) = _ at q
  simp only [CO.run]
  split at q
  ·rename_i id off n c k h1
   rw [h1]
   split at q
   ·cases q
   ·rename_i h2
    split at q
    ·rename_i fl xs h3
     cases q
     refine ⟨?_, _, h3⟩
     change (if n = 0 then none else match h[id]? with
      | some (.blk fl true xs) => some (AV.sl id off n c k, h.set id (.blk fl false xs))
      | _ => none) = _
     rw [if_neg h2, qMt (hg id) h3]
     rfl
    ·cases q
  ·cases q
 | bix x y =>
  change (match ev x, ev y with
   | .s l, .i .u8 n => some (AV.i .i64 (match (List.range l.length).find? fun i => (⟨l.toArray⟩ : ByteArray)[i]! == UInt8.ofNat n.toNat with | some i => (i : Int) | none => -1), HE.z)
   | _, _ => none) = _ at q
  simp only [CO.run]
  split at q
  ·rename_i l n h1 h2
   cases q
   rw [h1, h2]
   exact ⟨rfl, trivial⟩
  ·cases q
 | _ => exact ZvC rfl g h q
def setL : List AV → Nat → List AV → List AV
 | [], _, fr => fr
 | a :: l, k, fr => setL l (k + 1) (fr.set k a)
theorem qds (x : AV) : ∀ (l pre : List AV) (m : Nat), l.length ≤ m → setL l pre.length (pre ++ List.replicate m x) = pre ++ l ++ List.replicate (m - l.length) x
 | [], pre, m, _ => by simp [setL]
 | a :: l, pre, m, h => by
  obtain ⟨m', rfl⟩ : ∃ m', m = m' + 1 := ⟨m - 1, by simp at h; omega⟩
  have h1 : (pre ++ List.replicate (m' + 1) x).set pre.length a = (pre ++ [a]) ++ List.replicate m' x := by
   rw [List.set_append_right _ _ (Nat.le_refl _), Nat.sub_self, List.replicate_succ]
   simp
  have h2 := qds x l (pre ++ [a]) m' (by simpa using h)
  simp only [setL]
  rw [h1]
  simp only [List.length_append, List.length_singleton] at h2
  rw [h2]
  simp
theorem FRel.args : ∀ (l : List AV) (k : Nat) {F : FR} {fr : List AV}, FRel F fr → FRel (Xi9 l k F) (setL l k fr)
 | [], _, _, _, h => h
 | a :: l, k, _, _, h => FRel.args l (k + 1) (h.put (some k) a)
theorem FRel.enter (l : List AV) (n : Nat) (h : l.length ≤ n) : FRel (Xi9 l 0 (FR.full n)) (l ++ List.replicate (n - l.length) (.tu [])) := by
 have := FRel.args l 0 (FRel.full n)
 have e := qds (.tu []) l [] n h
 simp only [List.length_nil, List.nil_append] at e
 rw [e] at this
 exact this
theorem FRel.ps : ∀ (ps : List Nat) (az : List AV) {F : FR} {fr : List AV}, FRel F fr → FRel (psT ps az F) (qHl ps az fr)
 | [], az, F, fr, h => by
  cases az <;> exact h
 | p :: ps, [], F, fr, h => h
 | p :: ps, a :: az, F, fr, h => FRel.ps ps az (h.put (some p) a)
section
variable {P : Program}
structure SoundX (P : Program) (E : RunT) : Prop where
 fn : ∀ (g : Nat) (fn : Func) (cf : CF) (F : FR) (fr : List AV) (H : HP) (h : List AB) (v : AV) (H' : HP), P.funcs[g]? = some fn → qXD P fn = some cf → FRel F fr → HRel H h → E (.fn cf) F H = some (v, H') →
  ∃ h', HRel H' h' ∧ AM P h.length none g [.code cf.body] fr h (fun a h'' => a = v ∧ h'' = h')
 rd : ∀ (id : Nat) (asg bd : CC) (F : FR) (fr : List AV) (H : HP) (h : List AB) (v : AV) (H' : HP), FRel F fr → HRel H h → E (.rd id asg bd) F H = some (v, H') →
  ∃ h', HRel H' h' ∧ ∀ g, AM P h.length (some id) g [.code asg, .br, .code bd] fr h (fun a h'' => a = v ∧ h'' = h')
def NvOk (P : Program) (g : Nat) (f : List AV → GT → Nat → Option (AV × HE)) : Prop :=
 ∀ (args : List AV) (gt : GT) (h : List AB) (v : AV) (e : HE), (∀ id, blkO (gt id) = blkO (h[id]?)) → f args gt h.length = some (v, e) → FnC P g args h v (appL h e) ∧ e.fits gt
def TC.Ok (P : Program) (g : Nat) : TC → Prop
 | .cf x => ∃ fn, P.funcs[g]? = some fn ∧ qXD P fn = some x
 | .nv x => NvOk P g x
def zDq (P : Program) (T : TB) : Prop := ∀ g c, T g = some c → c.Ok P g
theorem X12 {F : FR} {frx : List AV} (x : Opd) (h : ∀ t ∈ x.tmps, F.t.get t = nthA frx t) : Opd.evT F x = Opd.ev frx x := by
 cases x with
 | t n =>
  have := h n (by simp [Opd.tmps])
  simp only [Opd.evT, Opd.ev]
  rw [this, qiA]
 | c v => rfl
def Did (P : Program) (c : COper) (F : FR) (h : List AB) (v : AV) (h' : List AB) : Prop :=
 ∀ frx : List AV, (∀ t ∈ c.op.tmps, F.t.get t = nthA frx t) → Xyg frx c.guard = some true → ∀ (ops : Array Oper) (i : Nat) (o : Oper), ops[i]? = some o → XyB P ops o = some c → OpOk P ops i c.dst frx h v h'
theorem qQ4 {c : COper} (hc : c.op.isCall = none) {F : FR} {h h' : List AB} {v : AV} (q : c.op.run (Opd.evT F) h = some (v, h')) : Did P c F h v h' := by
 intro frx hx hg ops i o ho hco
 obtain ⟨hk, hw⟩ := q6I hg
 refine QYm ho hco hk hw ?_
 rw [← q]
 refine qc1 h c.op (ev := Opd.ev frx) (ev' := Opd.evT F) (fun v => rfl) fun t ht => ?_
 have := hx t ht
 simp only [Opd.evT, Opd.ev]
 rw [this, qiA]
theorem Jyc {T : TB} {E : RunT} (hT : zDq P T) (hE : SoundX P E) {F : FR} {H H' : HP} {h : List AB} (hH : HRel H h) {c : COper} {f : Opd} {args : List Opd} (hcc : c.op = .call f args) {v : AV}
  (e : YqP T E (Opd.evT F f) (args.map (Opd.evT F)) H = some (v, H')) : ∃ h', HRel H' h' ∧ Did P c F h v h' := by
 have evs : ∀ {frx : List AV}, (∀ t ∈ c.op.tmps, F.t.get t = nthA frx t) → Opd.evT F f = Opd.ev frx f ∧ args.map (Opd.evT F) = args.map (Opd.ev frx) := fun {frx} hx => by
  rw [hcc] at hx
  exact ⟨X12 f fun t q => hx t (List.mem_append_left _ q), List.map_congr_left fun x hxm => X12 x fun t q => hx t (List.mem_append_right _ (List.mem_flatMap.2 ⟨x, hxm, q⟩))⟩
 unfold YqP at e
 split at e
 ·rename_i g fst cap hf
  split at e
  ·rename_i c0 hcf
   cases c0 with
   | cf cf =>
    change (match Nat.ble (fst ++ args.map (Opd.evT F) ++ cap).length cf.ntmps with
     | true => E (.fn cf) (Xi9 (fst ++ args.map (Opd.evT F) ++ cap) 0 (FR.full cf.ntmps)) H
     | false => none) = _ at e
    split at e
    ·rename_i hle
     obtain ⟨fn, h1, h2⟩ := hT _ _ hcf
     have hle' : (fst ++ args.map (Opd.evT F) ++ cap).length ≤ cf.ntmps := by simpa using hle
     obtain ⟨h', r1, r2⟩ := hE.fn g fn cf _ _ _ _ _ _ h1 h2 (FRel.enter _ _ hle') hH e
     refine ⟨h', r1, fun frx hx hg ops i o ho hco => ?_⟩
     obtain ⟨e1, e2⟩ := evs hx
     obtain ⟨hk, hw⟩ := q6I hg
     rw [e2] at r2
     exact J3I ho hco hk hw hcc (by rw [← e1]; exact hf) h1 h2 r2
    ·cases e
   | nv f =>
    change appR H (f (fst ++ args.map (Opd.evT F) ++ cap) H.g H.len) = _ at e
    unfold appR at e
    split at e
    ·rename_i v' eff hq
     split at e
     ·rename_i H1 hap
      cases e
      rw [hH.len] at hq
      obtain ⟨r1, r2⟩ := (show NvOk P g f from hT _ _ hcf) _ _ h _ _ (HP.g_blk hH) hq
      refine ⟨_, hH.app r2 hap, fun frx hx hg ops i o ho hco => ?_⟩
      obtain ⟨e1, e2⟩ := evs hx
      obtain ⟨hk, hw⟩ := q6I hg
      rw [e2] at r1
      exact YgV ho hco hk hw hcc (by rw [← e1]; exact hf) r1
     ·cases e
    ·cases e
  ·cases e
 ·rename_i id hf
  split at e
  ·rename_i st pd F0 ps asg bd hlp
   obtain ⟨B, hB, fr0, hF0, rfl⟩ := hH.here hlp
   split at e
   ·rename_i hps
    obtain ⟨h', r1, r2⟩ := hE.rd id asg bd _ _ _ _ _ _ (FRel.ps ps _ hF0) hH e
    refine ⟨h', r1, fun frx hx hg ops i o ho hco => ?_⟩
    obtain ⟨e1, e2⟩ := evs hx
    obtain ⟨hk, hw⟩ := q6I hg
    rw [e2] at r2
    exact qcK ho hco hk hw hcc (by rw [← e1]; exact hf) hB (by have := Nat.eq_of_beq_eq_true hps; simpa using this) r2
   ·cases e
  ·cases e
 ·cases e
theorem Qs5 {op : CO} {f : Opd} {args : List Opd} (h : op.isCall = some (f, args)) : op = .call f args := by
 cases op <;> first | (cases h; done) | (simp only [CO.isCall, Option.some.injEq, Prod.mk.injEq] at h; rw [h.1, h.2])
theorem Jnf {T : TB} {E : RunT} (hT : zDq P T) (hE : SoundX P E) {F : FR} {H H' : HP} {h : List AB} (hH : HRel H h) {c : COper} {v : AV} (e : opT T E F H c.op = some (v, H')) : ∃ h', HRel H' h' ∧ Did P c F h v h' := by
 unfold opT at e
 split at e
 ·rename_i f args hcc
  exact Jyc hT hE hH (Qs5 hcc) e
 ·rename_i hcc
  unfold appR at e
  split at e
  ·rename_i v' eff hq
   split at e
   ·rename_i H1 hap
    cases e
    rw [hH.len] at hq
    obtain ⟨a, b⟩ := JDo c.op hcc (HP.g_blk hH) hq
    exact ⟨_, hH.app b hap, qQ4 hcc a⟩
   ·cases e
  ·cases e
theorem ZQt {F : FR} {frx : List AV} (g : Option (Nat × Bool)) (h : ∀ t w, g = some (t, w) → F.t.get t = nthA frx t) : Kxd F g = Xyg frx g := by
 cases g with
 | none => rfl
 | some p =>
  obtain ⟨t, w⟩ := p
  simp only [Kxd, Xyg]
  rw [h t w rfl]
  rfl
theorem YLK {T : TB} {E : RunT} (hT : zDq P T) (hE : SoundX P E) : ∀ (l : List COper) {F F' : FR} {H H' : HP} {fr : List AV} {h : List AB}, FRel F fr → HRel H h → JM7 T E l F H = some (F', H') →
  ∃ fr' h', FRel F' fr' ∧ HRel H' h' ∧ ∀ (p : Nat) (rd : Option Nat) (fn : FuncId) (k : List CI) (R : AV → List AB → Prop), AM P p rd fn k fr' h' R → AM P p rd fn (.ops l :: k) fr h R
 | [], F, F', H, H', fr, h, hF, hH, e => by
  cases e
  exact ⟨fr, h, hF, hH, fun p rd fn k R g => AM.go rfl g⟩
 | c :: l, F, F', H, H', fr, h, hF, hH, e => by
  change Q9f T E c (JM7 T E l) F H = some (F', H') at e
  unfold Q9f at e
  rw [ZQt c.guard (fun t w _ => hF.get t)] at e
  split at e
  ·cases e
  ·rename_i b hb
   cases b with
   | true =>
    simp only [Q6D] at e
    split at e
    ·cases e
    ·rename_i v H1 h2
     obtain ⟨h1, r1, r2⟩ := Jnf hT hE hH h2
     obtain ⟨fr', h', q1, q2, q3⟩ := YLK hT hE l (hF.put c.dst v) r1 e
     exact ⟨fr', h', q1, q2, fun p rd fn k R g => AM.op (fun ops i o ho hc => r2 fr (fun t _ => hF.get t) hb ops i o ho hc) (q3 p rd fn k R g)⟩
   | false =>
    simp only at e
    obtain ⟨fr', h', q1, q2, q3⟩ := YLK hT hE l (hF.put c.dst (.tu [])) hH e
    exact ⟨fr', h', q1, q2, fun p rd fn k R g => AM.op (fun ops i o ho hc => quU ho hc h hb) (q3 p rd fn k R g)⟩
end
end Go.Proofs.YthhghdebjiiliaaDoor
end
