/- A region that draws its order: what is done in whatever order is what is done in the order of the text. -/
import Derived.Test.YtbcpcjofkfgjoaaEvU
namespace Go.Proofs.Ytbcpcjofkfgjoaa
open Go.RowKit

theorem memN_iff {n : Nat} : ∀ {l : List Nat}, memN n l = true ↔ n ∈ l
  | [] => by simp [memN]
  | m :: l => by
    unfold memN
    by_cases h : m = n
    · subst h
      simp
    · have : Nat.beq m n = false := by
        cases hb : Nat.beq m n with
        | true => exact absurd (Nat.eq_of_beq_eq_true hb) h
        | false => rfl
      rw [this]
      simp only [Bool.false_eq_true, if_false, List.mem_cons, memN_iff]
      constructor
      · exact .inr
      · rintro (rfl | h')
        · exact absurd rfl h
        · exact h'
theorem ptHas_iff {p : Pt} {i : Nat} : ptHas p i = true ↔ i ∈ p.ws ∨ (p.lo ≤ i ∧ i < p.hi) := by
  unfold ptHas
  simp only [Bool.or_eq_true, Bool.and_eq_true, memN_iff, Nat.ble_eq, Nat.blt_eq]
theorem ptHas_not {p : Pt} {i : Nat} : ptHas p i = false ↔ i ∉ p.ws ∧ ¬ (p.lo ≤ i ∧ i < p.hi) := by
  rw [← Bool.not_eq_true, ptHas_iff, not_or]
theorem put_get (fr : List AV) (d : Option Nat) (v : AV) (t : Nat) : (put fr d v)[t]? = if d = some t then (fr[t]?).map (fun _ => v) else fr[t]? := by
  cases d with
  | none => simp [put]
  | some d =>
    simp only [put, List.getElem?_set, Option.some.injEq]
    by_cases h : d = t
    · subst h
      simp only [if_true]
      by_cases hl : d < fr.length
      · rw [if_pos hl, List.getElem?_eq_getElem hl]
        rfl
      · rw [if_neg hl, List.getElem?_eq_none (by omega)]
        rfl
    · rw [if_neg h, if_neg h]
theorem put_comm (fr : List AV) {d e : Option Nat} (v u : AV) (h : ∀ t, d = some t → e ≠ some t) : put (put fr d v) e u = put (put fr e u) d v := by
  cases d with
  | none => rfl
  | some d =>
    cases e with
    | none => rfl
    | some e => exact List.set_comm _ _ (fun q => h d rfl (by rw [q]))
theorem nthA_get (fr : List AV) (t : Nat) : nthA fr t = (fr[t]?).getD (.tu []) := by
  rw [nthA_eq, List.getD_eq_getElem?_getD]
theorem maskB_get (rs ws : List Nat) : ∀ (h : List AB) (k i : Nat), (maskB rs ws k h)[i]? = (h[i]?).map fun B => if k + i ∈ ws then B else if k + i ∈ rs then B.freeze else .dead
  | [], k, i => by simp [maskB]
  | B :: h, k, 0 => by simp [maskB, memN_iff]
  | B :: h, k, i + 1 => by
    simp only [maskB, List.getElem?_cons_succ]
    rw [maskB_get rs ws h (k + 1) i]
    have : k + 1 + i = k + (i + 1) := by omega
    rw [this]
theorem maskB_len (rs ws : List Nat) : ∀ (h : List AB) (k : Nat), (maskB rs ws k h).length = h.length
  | [], _ => rfl
  | _ :: h, k => by simp [maskB, maskB_len rs ws h]
theorem freeze_ok {q : Nat → Bool} {B : AB} (h : B.ok q = true) : B.freeze.ok q = true := by
  cases B with
  | dead => rfl
  | iter s p => rfl
  | lp _ _ _ _ _ _ => rfl
  | blk fl m xs => cases fl <;> exact h
theorem freeze_mut (B : AB) : B.freeze.mut = false := by cases B <;> rfl
def mkF (f : Nat → Bool) (fr : List AV) : List AV := fr.mapIdx fun t a => if f t then a else .top
theorem mkF_get (f : Nat → Bool) (fr : List AV) (t : Nat) : (mkF f fr)[t]? = (fr[t]?).map fun a => if f t then a else .top := by
  simp [mkF, List.getElem?_mapIdx]

open Classical in
/-- The blocks that may be named by what operation k has made: the old ones, its own, and those that its ancestors have made. -/
noncomputable def ownQ (len0 : Nat) (PT : Nat → Pt) (anc : Nat → Nat) (k : Nat) : Nat → Bool := fun id =>
  decide (id < len0 ∨ ∃ m, m ≤ k ∧ (m = k ∨ bit m (anc k) = true) ∧ (PT m).lo ≤ id ∧ id < (PT m).hi)

/-- The operations in the order of the text: frames, heaps and values, what each has to do with memory, and how they stand to one another. -/
structure Can (P : Program) (ops : Array Oper) (n len0 : Nat) (DS : Nat → DOp) (FR : Nat → List AV) (H : Nat → List AB) (V : Nat → AV) (PT : Nat → Pt) : Prop where
  size : ops.size = n
  fput : ∀ k, k < n → FR (k + 1) = put (FR k) (DS k).o.dst (V k)
  len : ∀ k, k < n → (H k).length ≤ (H (k + 1)).length
  base : (H 0).length = len0
  rng : ∀ k, k < n → ((PT k).lo = 0 ∧ (PT k).hi = 0) ∨ ((PT k).lo = (H k).length ∧ (PT k).hi = (H (k + 1)).length)
  out : ∀ k, k < n → ∀ i, ptHas (PT k) i = false → (H (k + 1))[i]? = (H k)[i]?
  foot : ∀ k, k < n → ∀ i, i ∈ (PT k).rs ++ (PT k).ws → i < (H k).length
  ind : ∀ j k, j < k → k < n → bit j (DS k).anc = true ∨ ((∀ i, i ∈ (PT k).rs ++ (PT k).ws → ptHas (PT j) i = false) ∧ ∀ i, i ∈ (PT k).ws → i ∉ (PT j).rs ++ (PT j).ws)
  vok : ∀ k, k < n → (V k).ok (ownQ len0 PT (fun k => (DS k).anc) k) = true
  bok : ∀ k, k < n → ∀ i B, ptHas (PT k) i = true → (H (k + 1))[i]? = some B → B.ok (ownQ len0 PT (fun k => (DS k).anc) k) = true
  tmp : ∀ j k, j < k → k < n → bit j (DS k).anc = true ∨ indepT (DS j) (DS k) = true
  lt : ∀ k, k < n → ∀ j, bit j (DS k).anc = true → j < k
  deps : ∀ k, k < n → ∀ o, ops[k]? = some o → ∀ d ∈ depsOf o, bit d (DS k).anc = true
  ancs : ∀ k, k < n → ∀ o, ops[k]? = some o → ∀ m, bit m (DS k).anc = true → ∃ d ∈ depsOf o, m = d ∨ bit m (DS d).anc = true
  run : ∀ k, k < n →
    ((PT k).ws = [] ∧ (PT k).hi = 0 ∧ ∀ frx hx, (∀ t, bit t (DS k).us = true → nthA frx t = nthA (FR k) t) → (∀ i ∈ (PT k).rs, hx[i]? = (H k)[i]?) → OpOk P ops k (DS k).o.dst frx hx (V k) hx) ∨
    ((PT k).lo = (H k).length ∧ (PT k).hi = (H (k + 1)).length ∧ (∀ t, bit t (DS k).us = true → (nthA (FR k) t).ok (fun i => decide (i < (H k).length)) = true) ∧
      (∀ i, i ∈ (PT k).rs ++ (PT k).ws → ∃ B, (H k)[i]? = some B ∧ B.ok (fun i => decide (i < (H k).length)) = true) ∧
      ∃ G, G.length = (H (k + 1)).length ∧ (∀ i, ptHas (PT k) i = true → (H (k + 1))[i]? = G[i]?) ∧
        ∀ frx, (∀ t, bit t (DS k).us = true → nthA frx t = nthA (FR k) t) → OpOk P ops k (DS k).o.dst frx (maskB (PT k).rs (PT k).ws 0 (H k)) (V k) G)

/-- The frame behind the operations of D. -/
def frD (DS : Nat → DOp) (FR : Nat → List AV) (V : Nat → AV) (D : Nat → Bool) : Nat → List AV
  | 0 => FR 0
  | k + 1 => if D k then put (frD DS FR V D k) (DS k).o.dst (V k) else frD DS FR V D k
/-- Block i behind the operations of D. -/
def hD (H : Nat → List AB) (PT : Nat → Pt) (D : Nat → Bool) (i : Nat) : Nat → Option AB
  | 0 => (H 0)[i]?
  | k + 1 => if D k && ptHas (PT k) i then (H (k + 1))[i]? else hD H PT D i k
def hL (H : Nat → List AB) (PT : Nat → Pt) (n : Nat) (D : Nat → Bool) : List AB := (List.range (H n).length).map fun i => (hD H PT D i n).getD .dead
theorem hL_get (H : Nat → List AB) (PT : Nat → Pt) (n : Nat) (D : Nat → Bool) (i : Nat) : (hL H PT n D)[i]? = if i < (H n).length then some ((hD H PT D i n).getD .dead) else none := by
  unfold hL
  rw [List.getElem?_map]
  by_cases h : i < (H n).length
  · rw [if_pos h, List.getElem?_range h]
    rfl
  · rw [if_neg h, List.getElem?_eq_none (by simpa using h)]
    rfl
theorem hL_len (H : Nat → List AB) (PT : Nat → Pt) (n : Nat) (D : Nat → Bool) : (hL H PT n D).length = (H n).length := by
  simp [hL]
def insD (D : Nat → Bool) (k : Nat) : Nat → Bool := fun j => D j || Nat.beq j k
theorem insD_same (D : Nat → Bool) (k : Nat) : insD D k k = true := by simp [insD]
theorem insD_ne {D : Nat → Bool} {k j : Nat} (h : j ≠ k) : insD D k j = D j := by
  have : Nat.beq j k = false := by
    cases hb : Nat.beq j k with
    | true => exact absurd (Nat.eq_of_beq_eq_true hb) h
    | false => rfl
  simp [insD, this]
theorem insD_sub {D : Nat → Bool} {k j : Nat} (h : D j = true) : insD D k j = true := by simp [insD, h]

section
variable {P : Program} {ops : Array Oper} {n len0 : Nat} {DS : Nat → DOp} {FR : Nat → List AV} {H : Nat → List AB} {V : Nat → AV} {PT : Nat → Pt}
theorem Can.mono (C : Can P ops n len0 DS FR H V PT) {j : Nat} : ∀ {k : Nat}, j ≤ k → k ≤ n → (H j).length ≤ (H k).length
  | 0, h, _ => by obtain rfl : j = 0 := by omega
                  exact Nat.le_refl _
  | k + 1, h, hk => by
    by_cases e : j = k + 1
    · subst e; exact Nat.le_refl _
    · exact Nat.le_trans (C.mono (by omega) (by omega)) (C.len k (by omega))
theorem Can.disj (C : Can P ops n len0 DS FR H V PT) {j k id : Nat} (hj : j < n) (hk : k < n) (hne : j ≠ k) (h1 : (PT j).lo ≤ id) (h2 : id < (PT j).hi) (h3 : (PT k).lo ≤ id) (h4 : id < (PT k).hi) : False := by
  rcases C.rng j hj with ⟨a, b⟩ | ⟨a, b⟩
  · omega
  rcases C.rng k hk with ⟨c, d⟩ | ⟨c, d⟩
  · omega
  rcases Nat.lt_or_gt_of_ne hne with q | q
  · have := C.mono (j := j + 1) (k := k) (by omega) (by omega); omega
  · have := C.mono (j := k + 1) (k := j) (by omega) (by omega); omega

def Shut (n : Nat) (DS : Nat → DOp) (D : Nat → Bool) : Prop := ∀ j, j < n → D j = true → ∀ m, bit m (DS j).anc = true → D m = true

theorem Can.hfoot (C : Can P ops n len0 DS FR H V PT) {D : Nat → Bool} (hD' : Shut n DS D) {k : Nat} (hk : k < n) (hnk : D k = false) (ha : ∀ m, bit m (DS k).anc = true → D m = true) {i : Nat} (hi : i ∈ (PT k).rs ++ (PT k).ws) : hD H PT D i n = (H k)[i]? := by
  have hlt := C.foot k hk i hi
  have one : ∀ m, m ≤ k → hD H PT D i m = (H m)[i]? := by
    intro m
    induction m with
    | zero => exact fun _ => rfl
    | succ m ih =>
      intro hm
      simp only [hD]
      rcases C.ind m k (by omega) hk with q | ⟨q, _⟩
      · rw [ha m q, Bool.true_and]
        by_cases hp : ptHas (PT m) i = true
        · rw [if_pos hp]
        · rw [if_neg hp, ih (by omega), C.out m (by omega) i (by simpa using hp)]
      · have hp := q i hi
        rw [hp, Bool.and_false, if_neg (by simp), ih (by omega), C.out m (by omega) i hp]
  have two : ∀ m, k ≤ m → m ≤ n → hD H PT D i m = (H k)[i]? := by
    intro m
    induction m with
    | zero => intro h1 _; obtain rfl : k = 0 := by omega
              exact one 0 (Nat.le_refl _)
    | succ m ih =>
      intro h1 h2
      by_cases e : k = m + 1
      · subst e; exact one _ (Nat.le_refl _)
      simp only [hD]
      by_cases hc : (D m && ptHas (PT m) i) = true
      · exfalso
        simp only [Bool.and_eq_true] at hc
        have hkm : k < m := by
          rcases Nat.lt_or_ge k m with q | q
          · exact q
          · obtain rfl : k = m := by omega
            rw [hnk] at hc; exact absurd hc.1 (by simp)
        rcases C.ind k m hkm (by omega) with q | ⟨_, q⟩
        · have := hD' m (by omega) hc.1 k q
          rw [hnk] at this; cases this
        · rcases ptHas_iff.1 hc.2 with w | w
          · exact q i w hi
          · have := C.mono (j := k) (k := m) (by omega) (by omega)
            rcases C.rng m (by omega) with ⟨a, b⟩ | ⟨a, b⟩ <;> omega
      · rw [if_neg hc]
        exact ih (by omega) (by omega)
  exact two n (by omega) (Nat.le_refl _)
theorem Can.hout (D : Nat → Bool) {k : Nat} {i : Nat} (hp : ptHas (PT k) i = false) : ∀ m, hD H PT (insD D k) i m = hD H PT D i m
  | 0 => rfl
  | m + 1 => by
    simp only [hD]
    rw [Can.hout D hp m]
    by_cases e : m = k
    · subst e
      rw [hp]
      simp
    · rw [insD_ne e]
theorem Can.hin (C : Can P ops n len0 DS FR H V PT) {D : Nat → Bool} (hD' : Shut n DS D) {k : Nat} (hk : k < n) (hnk : D k = false) {i : Nat} (hp : ptHas (PT k) i = true) : hD H PT (insD D k) i n = (H (k + 1))[i]? := by
  have main : ∀ m, k < m → m ≤ n → hD H PT (insD D k) i m = (H (k + 1))[i]? := by
    intro m
    induction m with
    | zero => intro h; omega
    | succ m ih =>
      intro h1 h2
      simp only [hD]
      by_cases e : m = k
      · subst e
        rw [insD_same, hp]
        simp
      rw [insD_ne e]
      by_cases hc : (D m && ptHas (PT m) i) = true
      · exfalso
        simp only [Bool.and_eq_true] at hc
        have hkm : k < m := by omega
        rcases C.ind k m hkm (by omega) with q | ⟨q, _⟩
        · have := hD' m (by omega) hc.1 k q
          rw [hnk] at this; cases this
        · rcases ptHas_iff.1 hc.2 with w | w
          · have := q i (List.mem_append_right _ w)
            rw [hp] at this; cases this
          · have hm1 := C.mono (j := k + 1) (k := m) (by omega) (by omega)
            have hm2 := C.len k hk
            rcases C.rng m (by omega) with ⟨a, b⟩ | ⟨a, b⟩
            · omega
            · rcases ptHas_iff.1 hp with u | u
              · have := C.foot k hk i (List.mem_append_right _ u); omega
              · rcases C.rng k hk with ⟨c, d⟩ | ⟨c, d⟩ <;> omega
      · rw [if_neg hc]
        exact ih (by omega) (by omega)
  exact main n hk (Nat.le_refl _)
theorem indepT_spec {e d : DOp} (h : indepT e d = true) : (∀ t, e.o.dst = some t → bit t d.us = false ∧ d.o.dst ≠ some t) ∧ (∀ t, d.o.dst = some t → bit t e.us = false) := by
  unfold indepT at h
  simp only [Bool.and_eq_true] at h
  refine ⟨fun t ht => ?_, fun t ht => ?_⟩
  · have h1 := h.1
    rw [ht] at h1
    simp only [Bool.and_eq_true, Bool.not_eq_true'] at h1
    refine ⟨h1.1, fun q => ?_⟩
    have h2 := h1.2
    rw [q] at h2
    simp at h2
  · have h1 := h.2
    rw [ht] at h1
    simpa using h1
theorem Can.fins (C : Can P ops n len0 DS FR H V PT) {D : Nat → Bool} (hD' : Shut n DS D) {k : Nat} (hk : k < n) (hnk : D k = false) : frD DS FR V (insD D k) n = put (frD DS FR V D n) (DS k).o.dst (V k) := by
  have one : ∀ m, m ≤ k → frD DS FR V (insD D k) m = frD DS FR V D m := by
    intro m
    induction m with
    | zero => exact fun _ => rfl
    | succ m ih =>
      intro h
      simp only [frD]
      rw [insD_ne (by omega), ih (by omega)]
  have two : ∀ m, k < m → m ≤ n → frD DS FR V (insD D k) m = put (frD DS FR V D m) (DS k).o.dst (V k) := by
    intro m
    induction m with
    | zero => intro h; omega
    | succ m ih =>
      intro h1 h2
      simp only [frD]
      by_cases e : m = k
      · subst e
        rw [insD_same, hnk, one m (Nat.le_refl _)]
        simp
      rw [insD_ne e, ih (by omega) (by omega)]
      cases hm : D m with
      | false => simp
      | true =>
        simp only [if_true]
        rcases C.tmp k m (by omega) (by omega) with q | q
        · have := hD' m (by omega) hm k q
          rw [hnk] at this; cases this
        · exact put_comm _ _ _ fun t ht => ((indepT_spec q).1 t ht).2
  exact two n hk (Nat.le_refl _)
theorem Can.fus (C : Can P ops n len0 DS FR H V PT) {D : Nat → Bool} (hD' : Shut n DS D) {k : Nat} (hk : k < n) (hnk : D k = false) (ha : ∀ m, bit m (DS k).anc = true → D m = true) {t : Nat} (ht : bit t (DS k).us = true) : (frD DS FR V D n)[t]? = (FR k)[t]? := by
  have one : ∀ m, m ≤ k → (frD DS FR V D m)[t]? = (FR m)[t]? := by
    intro m
    induction m with
    | zero => exact fun _ => rfl
    | succ m ih =>
      intro hm
      simp only [frD]
      rw [C.fput m (by omega), put_get]
      by_cases hd : D m = true
      · rw [if_pos hd, put_get, ih (by omega)]
      · rw [if_neg hd, ih (by omega)]
        rcases C.tmp m k (by omega) hk with q | q
        · exact absurd (ha m q) hd
        · rw [if_neg fun e => ?_]
          have := ((indepT_spec q).1 t e).1
          rw [ht] at this; cases this
  have two : ∀ m, k ≤ m → m ≤ n → (frD DS FR V D m)[t]? = (FR k)[t]? := by
    intro m
    induction m with
    | zero => intro h1 _; obtain rfl : k = 0 := by omega
              exact one 0 (Nat.le_refl _)
    | succ m ih =>
      intro h1 h2
      by_cases e : k = m + 1
      · subst e; exact one _ (Nat.le_refl _)
      simp only [frD]
      by_cases hd : D m = true
      · have hkm : k < m := by
          rcases Nat.lt_or_ge k m with q | q
          · exact q
          · obtain rfl : k = m := by omega
            rw [hnk] at hd; cases hd
        rw [if_pos hd, put_get]
        rcases C.tmp k m hkm (by omega) with q | q
        · have := hD' m (by omega) hd k q
          rw [hnk] at this; cases this
        · rw [if_neg fun e => ?_, ih (by omega) (by omega)]
          have := (indepT_spec q).2 t e
          rw [ht] at this; cases this
      · rw [if_neg hd]
        exact ih (by omega) (by omega)
  exact two n (by omega) (Nat.le_refl _)
/-- Not one of the blocks that operation k makes. -/
def notNew (p : Pt) (id : Nat) : Bool := !(Nat.ble p.lo id && Nat.blt id p.hi)
theorem notNew_iff {p : Pt} {id : Nat} : notNew p id = true ↔ ¬ (p.lo ≤ id ∧ id < p.hi) := by
  unfold notNew
  rw [Bool.not_eq_true', ← Bool.not_eq_true]
  simp only [Bool.and_eq_true, Nat.ble_eq, Nat.blt_eq]
theorem Can.own (C : Can P ops n len0 DS FR H V PT) {D : Nat → Bool} (hD' : Shut n DS D) {k : Nat} (hk : k < n) (hnk : D k = false) {m : Nat} (hm : m < n) (hdm : D m = true) (id : Nat) (h : ownQ len0 PT (fun k => (DS k).anc) m id = true) : notNew (PT k) id = true := by
  rw [notNew_iff]
  rintro ⟨h1, h2⟩
  simp only [ownQ, decide_eq_true_eq] at h
  rcases h with h | ⟨m', h3, h4, h5, h6⟩
  · have := C.mono (j := 0) (k := k) (by omega) (by omega)
    rw [C.base] at this
    rcases C.rng k hk with ⟨a, b⟩ | ⟨a, b⟩ <;> omega
  · refine C.disj (j := m') (k := k) (by omega) hk (fun e => ?_) h5 h6 h1 h2
    subst e
    rcases h4 with rfl | h4
    · rw [hnk] at hdm; cases hdm
    · have := hD' m hm hdm _ h4
      rw [hnk] at this; cases this
theorem Can.old (C : Can P ops n len0 DS FR H V PT) {k : Nat} (hk : k < n) (id : Nat) (h : decide (id < len0) = true) : notNew (PT k) id = true := by
  rw [notNew_iff]
  rintro ⟨h1, h2⟩
  have := C.mono (j := 0) (k := k) (by omega) (by omega)
  rw [C.base] at this
  simp at h
  rcases C.rng k hk with ⟨a, b⟩ | ⟨a, b⟩ <;> omega
theorem Can.hok (C : Can P ops n len0 DS FR H V PT) {D : Nat → Bool} (hD' : Shut n DS D) {k : Nat} (hk : k < n) (hnk : D k = false) (h0 : ∀ (i : Nat) (B : AB), (H 0)[i]? = some B → B.ok (fun i => decide (i < len0)) = true) : ∀ m, m ≤ n → ∀ (i : Nat) (B : AB), hD H PT D i m = some B → B.ok (notNew (PT k)) = true
  | 0, _, i, B, e => AB.ok_mono (C.old hk) B (h0 i B e)
  | m + 1, hm, i, B, e => by
    simp only [hD] at e
    split at e
    · rename_i hc
      simp only [Bool.and_eq_true] at hc
      exact AB.ok_mono (C.own hD' hk hnk (by omega) hc.1) B (C.bok m (by omega) i B hc.2 e)
    · exact C.hok hD' hk hnk h0 m (by omega) i B e
theorem Can.fok (C : Can P ops n len0 DS FR H V PT) {D : Nat → Bool} (hD' : Shut n DS D) {k : Nat} (hk : k < n) (hnk : D k = false) (f0 : ∀ (t : Nat) (a : AV), (FR 0)[t]? = some a → a.ok (fun i => decide (i < len0)) = true) : ∀ m, m ≤ n → ∀ (t : Nat) (a : AV), (frD DS FR V D m)[t]? = some a → a.ok (notNew (PT k)) = true
  | 0, _, t, a, e => AV.ok_mono (C.old hk) a (f0 t a e)
  | m + 1, hm, t, a, e => by
    simp only [frD] at e
    split at e
    · rename_i hc
      rw [put_get] at e
      split at e
      · obtain ⟨_, _, rfl⟩ := Option.map_eq_some_iff.1 e
        exact AV.ok_mono (C.own hD' hk hnk (by omega) hc) _ (C.vok m (by omega))
      · exact C.fok hD' hk hnk f0 m (by omega) t a e
    · exact C.fok hD' hk hnk f0 m (by omega) t a e
theorem Can.all (C : Can P ops n len0 DS FR H V PT) {D : Nat → Bool} (hall : ∀ j, j < n → D j = true) : frD DS FR V D n = FR n ∧ hL H PT n D = H n := by
  have one : ∀ m, m ≤ n → frD DS FR V D m = FR m := by
    intro m
    induction m with
    | zero => exact fun _ => rfl
    | succ m ih =>
      intro h
      simp only [frD]
      rw [hall m (by omega), ih (by omega), C.fput m (by omega)]
      rfl
  have two : ∀ i m, m ≤ n → hD H PT D i m = (H m)[i]? := by
    intro i m
    induction m with
    | zero => exact fun _ => rfl
    | succ m ih =>
      intro h
      simp only [hD]
      rw [hall m (by omega), Bool.true_and]
      by_cases hp : ptHas (PT m) i = true
      · rw [if_pos hp]
      · rw [if_neg hp, ih (by omega), C.out m (by omega) i (by simpa using hp)]
  refine ⟨one n (Nat.le_refl _), List.ext_getElem? fun i => ?_⟩
  rw [hL_get]
  split
  · rename_i hi
    rw [two i n (Nat.le_refl _), List.getElem?_eq_getElem hi]
    rfl
  · rename_i hi
    rw [List.getElem?_eq_none (by omega)]

/-- One operation, in whatever order. -/
theorem Can.step (C : Can P ops n len0 DS FR H V PT) {D : Nat → Bool} (hD' : Shut n DS D) {k : Nat} (hk : k < n) (hnk : D k = false) (ha : ∀ m, bit m (DS k).anc = true → D m = true)
    (f0 : ∀ (t : Nat) (a : AV), (FR 0)[t]? = some a → a.ok (fun i => decide (i < len0)) = true) (h0 : ∀ (i : Nat) (B : AB), (H 0)[i]? = some B → B.ok (fun i => decide (i < len0)) = true)
    {p : Nat} (hp : p ≤ len0) {ρ : Mp} {w : World} {tmps : Array Value} (is : List Nat) (its : List Item) {b : Frame} (cs : List Frame) (ds : List Deferred) (hbk : b.kind = .normal)
    (hv : VL ρ (frD DS FR V D n) tmps) (hr : Rel (KC P) ρ (hL H PT n D) w) :
    ∃ tmps' w' ρ', Steps P (lone (b.atR { tmps, defers := ds } (.inRegion ops (k :: is) :: its)) cs w) (lone (b.atR { tmps := tmps', defers := ds } (.inRegion ops is :: its)) cs w') ∧
      VL ρ' (frD DS FR V (insD D k) n) tmps' ∧ Rel (KC P) ρ' (hL H PT n (insD D k)) w' ∧ EffP p ρ (hL H PT n D) w ρ' (hL H PT n (insD D k)) w' := by
  have hlk := C.mono (j := k) (k := n) (by omega) (Nat.le_refl _)
  have hl0 := C.mono (j := 0) (k := k) (by omega) (by omega)
  rw [C.base] at hl0
  have hus : ∀ t, bit t (DS k).us = true → nthA (frD DS FR V D n) t = nthA (FR k) t := fun t ht => by
    rw [nthA_get, nthA_get, C.fus hD' hk hnk ha ht]
  have hft : ∀ i, i ∈ (PT k).rs ++ (PT k).ws → (hL H PT n D)[i]? = (H k)[i]? := fun i hi => by
    have hlt := C.foot k hk i hi
    rw [hL_get, if_pos (by omega), C.hfoot hD' hk hnk ha hi, List.getElem?_eq_getElem hlt]
    rfl
  rw [C.fins hD' hk hnk]
  rcases C.run k hk with ⟨hw, hh, hrun⟩ | ⟨hlo, hhi, hu, hbl, G, hG, hGi, hrun⟩
  · have hno : ∀ i, ptHas (PT k) i = false := fun i => ptHas_not.2 ⟨by rw [hw]; simp, by omega⟩
    have hsame : hL H PT n (insD D k) = hL H PT n D := by
      unfold hL
      congr 1
      funext i
      rw [Can.hout D (hno i) n]
    rw [hsame]
    obtain ⟨v', w', ρ', hst, hvr, hrel, heff⟩ := hrun _ (hL H PT n D) hus (fun i hi => hft i (List.mem_append_left _ hi)) ρ w tmps is its b cs ds hbk hv hr
    have hput := put_ok (a := { tmps, defers := ds }) (hv.ext (heff.ext hr)) (DS k).o.dst hvr
    refine ⟨_, w', ρ', ?_, hput.1, hrel, heff.weak ?_⟩
    · have := hst
      rw [← act_eta] at this
      exact this
    · rw [hL_len]; omega
  · have hM : (maskB (PT k).rs (PT k).ws 0 (H k)).length = (H k).length := maskB_len _ _ _ _
    have hmg : ∀ i B', (maskB (PT k).rs (PT k).ws 0 (H k))[i]? = some B' → (i ∈ (PT k).rs ++ (PT k).ws ∧ ∃ B, (H k)[i]? = some B ∧ B' = (if i ∈ (PT k).ws then B else B.freeze)) ∨ (i ∉ (PT k).ws ∧ B' = .dead) := fun i B' e => by
      rw [maskB_get] at e
      obtain ⟨B, hB, rfl⟩ := Option.map_eq_some_iff.1 e
      rw [Nat.zero_add]
      by_cases h1 : i ∈ (PT k).ws
      · exact .inl ⟨List.mem_append_right _ h1, B, hB, by rw [if_pos h1, if_pos h1]⟩
      · by_cases h2 : i ∈ (PT k).rs
        · exact .inl ⟨List.mem_append_left _ h2, B, hB, by rw [if_neg h1, if_neg h1, if_pos h2]⟩
        · exact .inr ⟨h1, by rw [if_neg h1, if_neg h2]⟩
    have hle : ∀ (i : Nat) B' B, (maskB (PT k).rs (PT k).ws 0 (H k))[i]? = some B' → (hL H PT n D)[i]? = some B → B'.le B := fun i B' B e1 e2 => by
      rcases hmg i B' e1 with ⟨hi, C', hC, rfl⟩ | ⟨_, rfl⟩
      · rw [hft i hi, hC] at e2
        cases e2
        split
        · exact .inr (.inr rfl)
        · exact .inr (.inl rfl)
      · exact .inl rfl
    have hpart := hr.part hM (by rw [hL_len]; exact hlk) hle (fun i B e => by
      rcases hmg i B e with ⟨hi, C', hC, rfl⟩ | ⟨_, rfl⟩
      · obtain ⟨C'', hC2, hok⟩ := hbl i hi
        rw [hC] at hC2
        cases hC2
        split
        · exact hok
        · exact freeze_ok hok
      · rfl)
    have hvx : VL (ρ.take (H k).length) (mkF (fun t => bit t (DS k).us) (frD DS FR V D n)) tmps := by
      refine ⟨by rw [mkF, List.length_mapIdx]; exact hv.1, fun t a c h1 h2 => ?_⟩
      rw [mkF_get] at h1
      obtain ⟨a', ha', rfl⟩ := Option.map_eq_some_iff.1 h1
      by_cases hb : bit t (DS k).us = true
      · rw [if_pos hb]
        have hok := hu t hb
        rw [← hus t hb, nthA_get, ha'] at hok
        refine (hv.2 t a' c ha' h2).agree (q := fun i => decide (i < (H k).length)) (fun i hi => ?_) hok
        rw [List.getElem?_take, if_pos (by simpa using hi)]
      · rw [if_neg hb]
        exact .top c
    obtain ⟨v', w', ρ1, hst, hvr, hrel, heff⟩ := hrun (mkF (fun t => bit t (DS k).us) (frD DS FR V D n)) (fun t ht => by
      rw [← hus t ht, nthA_get, nthA_get, mkF_get]
      cases (frD DS FR V D n)[t]? with
      | none => rfl
      | some a => simp [ht]) (ρ.take (H k).length) w tmps is its b cs ds hbk hvx hpart
    rw [hM] at heff
    have hlen' := C.len k hk
    have hlk1 := C.mono (j := k + 1) (k := n) (by omega) (Nat.le_refl _)
    have hwh := Rel.whole (p := p) (H' := hL H PT n (insD D k)) (T := ptHas (PT k)) (q := notNew (PT k)) hr hM hG (by omega) (by rw [hL_len]; omega) (by rw [hL_len, hL_len]) (by omega) hle
      (fun i hi => by
        rcases ptHas_iff.1 hi with q | q
        · have := C.foot k hk i (List.mem_append_right _ q); omega
        · omega)
      (fun i hi => by have := (ptHas_not.1 hi).2; rw [hlo, hhi] at this; exact this)
      (fun i B hi e => by
        have hni := (ptHas_not.1 hi).1
        rcases hmg i B e with ⟨_, C', _, rfl⟩ | ⟨_, rfl⟩
        · rw [if_neg hni]; exact freeze_mut _
        · rfl)
      (fun i hi => by
        have hlt : i < (H (k + 1)).length := by
          rcases ptHas_iff.1 hi with q | q
          · have := C.foot k hk i (List.mem_append_right _ q); omega
          · omega
        rw [← hGi i hi, hL_get, if_pos (by omega), C.hin hD' hk hnk hi, List.getElem?_eq_getElem hlt]
        rfl)
      (fun i hi => by rw [hL_get, hL_get, Can.hout D hi n])
      (fun i hi => by have := notNew_iff.1 hi; rw [hlo, hhi] at this; exact this)
      (fun i B e => by
        rw [hL_get] at e
        split at e
        · cases e
          cases hq : hD H PT D i n with
          | none => rfl
          | some B => exact C.hok hD' hk hnk h0 n (Nat.le_refl _) i B hq
        · cases e)
      hrel heff
    obtain ⟨w1, w2, w3, w4⟩ := hwh
    have hvs : VL (splice ρ ρ1 (H k).length (H (k + 1)).length) (frD DS FR V D n) tmps := hv.agree w3 (fun t a e => .inr (C.fok hD' hk hnk f0 n (Nat.le_refl _) t a e))
    have hput := put_ok (a := { tmps, defers := ds }) hvs (DS k).o.dst (hvr.ext w4)
    refine ⟨_, w', _, ?_, hput.1, w1, w2⟩
    have := hst
    rw [← act_eta] at this
    exact this
end
end Go.Proofs.Ytbcpcjofkfgjoaa
