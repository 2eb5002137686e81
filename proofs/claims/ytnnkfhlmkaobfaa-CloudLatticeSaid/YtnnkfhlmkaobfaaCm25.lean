/- Part 25 of what the laws' proofs rest on. No condition. -/
import Derived.Test.YtnnkfhlmkaobfaaCm24
set_option linter.all false
section
namespace Go.Proofs.Ytnnkfhlmkaobfaa
/-- What a list of numbers has at a region. -/
def gS (sn : List Int) (r : Int) : Int := sn.getD (r - 1).toNat 0
def mM (t : List Int × Dots) (d : Int × Int) : Prop := d.2 ≤ gS t.1 d.1 ∨ d ∈ t.2
theorem gS_set {sn : List Int} (h : sn.length = 16) {d e : Int × Int} (hd : dottedP d) (he : dottedP e) (x : Int) : gS (sn.set (d.1 - 1).toNat x) e.1 = if e.1 = d.1 then x else gS sn e.1 := by
  unfold gS
  rw [List.getD_eq_getElem?_getD, List.getElem?_set]
  obtain ⟨a1, a2, _, _⟩ := hd
  obtain ⟨b1, b2, _, _⟩ := he
  by_cases q : e.1 = d.1
  · rw [if_pos (by omega), if_pos (by omega), if_pos q]; rfl
  · rw [if_neg (by omega), if_neg q, ← List.getD_eq_getElem?_getD]
theorem fmD_len (t : List Int × Dots) (d : Int × Int) : (fmD t d).1.length = t.1.length := by
  unfold fmD
  split
  · simp
  · split <;> rfl
theorem fmD_mem {t : List Int × Dots} (h : t.1.length = 16) {d e : Int × Int} (hd : dottedP d) (he : dottedP e) : mM (fmD t d) e ↔ mM t e ∨ e = d := by
  unfold fmD
  have hg : t.1.getD (d.1 - 1).toNat 0 = gS t.1 d.1 := rfl
  rw [hg]
  split
  · rename_i q
    unfold mM
    simp only [gS_set h hd he]
    split
    · rename_i q2
      rw [q2]
      constructor
      · rintro (z | z)
        · by_cases z2 : e.2 = d.2
          · exact .inr (Prod.ext q2 z2)
          · exact .inl (.inl (by omega))
        · exact .inl (.inr z)
      · rintro ((z | z) | z)
        · exact .inl (by omega)
        · exact .inr z
        · exact .inl (by rw [z]; omega)
    · rename_i q2
      constructor
      · exact .inl
      · rintro (z | z)
        · exact z
        · exact absurd (by rw [z]) q2
  · split
    · unfold mM
      simp only [List.mem_append, List.mem_singleton]
      rw [or_assoc]
    · rename_i q1 q2
      constructor
      · exact .inl
      · rintro (z | rfl)
        · exact z
        · exact .inl (by omega)
theorem fmF_mem : ∀ (l : Dots) (t : List Int × Dots), t.1.length = 16 → (∀ d ∈ l, dottedP d) → ∀ {e : Int × Int}, dottedP e → (mM (l.foldl fmD t) e ↔ mM t e ∨ e ∈ l)
  | [], t, _, _, e, _ => by simp
  | d :: l, t, h, hl, e, he => by
    rw [List.foldl_cons, fmF_mem l (fmD t d) (by rw [fmD_len]; exact h) (fun x hx => hl x (.tail _ hx)) he, fmD_mem h (hl d (.head _)) he, List.mem_cons, or_assoc]
theorem fmD_in (t : List Int × Dots) (d : Int × Int) : ∀ x ∈ (fmD t d).2, x ∈ t.2 ∨ x = d := fun x h => by
  unfold fmD at h
  split at h
  · exact .inl h
  · split at h
    · simpa using h
    · exact .inl h
theorem fmF_in : ∀ (l : Dots) (t : List Int × Dots), ∀ x ∈ (l.foldl fmD t).2, x ∈ t.2 ∨ x ∈ l
  | [], t, x, h => .inl h
  | d :: l, t, x, h => by
    rcases fmF_in l (fmD t d) x h with q | q
    · rcases fmD_in t d x q with z | rfl
      · exact .inl z
      · exact .inr (.head _)
    · exact .inr (.tail _ q)
/-- None of the dots lies at the end of the first ones. -/
def Gap (t : List Int × Dots) : Prop := ∀ x ∈ t.2, gS t.1 x.1 + 1 < x.2
theorem fmF_gap : ∀ (l : Dots) (t : List Int × Dots), t.1.length = 16 → (∀ d ∈ l, dottedP d) → (∀ x ∈ t.2, dottedP x) → Rise l → (∀ x ∈ t.2, ∀ d ∈ l, lessD x d) → Gap t → Gap (l.foldl fmD t)
  | [], t, _, _, _, _, _, g => g
  | d :: l, t, h, hl, ht, hr, hx, g => by
    have r := List.pairwise_cons.1 hr
    have hd := hl d (.head _)
    refine fmF_gap l (fmD t d) (by rw [fmD_len]; exact h) (fun x hx => hl x (.tail _ hx)) (fun x q => ?_) r.2 (fun x q y hy => ?_) ?_
    · rcases fmD_in t d x q with z | rfl
      · exact ht x z
      · exact hd
    · rcases fmD_in t d x q with z | rfl
      · exact hx x z y (.tail _ hy)
      · exact r.1 y hy
    · have hg : t.1.getD (d.1 - 1).toNat 0 = gS t.1 d.1 := rfl
      unfold fmD
      rw [hg]
      split
      · rename_i q
        intro x z
        simp only at z
        rw [gS_set h hd (ht x z)]
        have h1 := hx x z d (.head _)
        have h2 := g x z
        split
        · rename_i q2
          unfold lessD at h1
          rw [q2] at h2
          omega
        · exact h2
      · rename_i q
        split
        · rename_i q2
          intro x z
          rcases List.mem_append.1 z with z | z
          · exact g x z
          · rw [List.mem_singleton.1 z]
            simp only
            omega
        · exact g
theorem fmF_cnt : ∀ (l : Dots) (t : List Int × Dots), t.1.length = 16 → (∀ d ∈ l, dottedP d) → Rise l → (∀ d ∈ l, ¬ mM t d) → (l.foldl fmD t).1.sum + ((l.foldl fmD t).2.length : Int) = t.1.sum + (t.2.length : Int) + l.length
  | [], t, _, _, _, _ => by simp
  | d :: l, t, h, hl, hr, hn => by
    have r := List.pairwise_cons.1 hr
    have hd := hl d (.head _)
    rw [List.foldl_cons, fmF_cnt l (fmD t d) (by rw [fmD_len]; exact h) (fun x hx => hl x (.tail _ hx)) r.2 fun e he => ?_]
    · have h1 := hn d (.head _)
      have hg : t.1.getD (d.1 - 1).toNat 0 = gS t.1 d.1 := rfl
      unfold fmD
      rw [hg]
      split
      · have hs : ∀ (l : List Int) (i : Nat) (x : Int), i < l.length → (l.set i x).sum = l.sum - l.getD i 0 + x := by
          intro l
          induction l with
          | nil => intro i x hi; simp at hi
          | cons a l ih =>
            intro i x hi
            cases i with
            | zero => simp; omega
            | succ i =>
              have := ih i x (by simpa using hi)
              simp only [List.set_cons_succ, List.sum_cons, List.getD_cons_succ]
              omega
        rw [hs _ _ _ (by obtain ⟨a1, a2, _, _⟩ := hd; omega), hg]
        simp only [List.length_cons]
        omega
      · split
        · simp only [List.length_append, List.length_cons, List.length_nil]
          omega
        · exact absurd (.inl (by omega)) h1
    · rw [fmD_mem h hd (hl e (.tail _ he))]
      rintro (z | rfl)
      · exact hn e (.tail _ he) z
      · exact lessD_irrefl _ (r.1 _ he)
/-- A cloud in its form. -/
structure NF (v : List Int) (ds : Dots) : Prop where
  rg : rangedP v ds
  rise : Rise ds
  gap : ∀ d ∈ ds, vAt v d.1 + 1 < d.2
  trim : Trim v
/-- A dot of a cloud. -/
def inC (v : List Int) (ds : Dots) (d : Int × Int) : Prop := dottedP d ∧ (d.2 ≤ vAt v d.1 ∨ d ∈ ds)
theorem rg_vAt {v : List Int} {ds : Dots} (h : rangedP v ds) (r : Int) : vAt v r ≤ 1048576 := vAt_le v (fun n hn => (h.2.1 n hn).2) r
theorem rg_in {v : List Int} {ds : Dots} (h : rangedP v ds) {r : Int} (hp : 0 < vAt v r) : 1 ≤ r ∧ r ≤ 16 := by
  have := h.1
  constructor
  · rcases Int.lt_or_le r 1 with z | z
    · rw [vAt_out v _ (.inl z)] at hp; omega
    · exact z
  · rcases Int.lt_or_le 16 r with z | z
    · rw [vAt_out v _ (.inr (by omega))] at hp; omega
    · exact z
theorem NF.le {v v' : List Int} {ds ds' : Dots} (a : NF v ds) (b : rangedP v' ds') (h : ∀ d, inC v' ds' d → inC v ds d) (r : Int) : vAt v' r ≤ vAt v r := by
  rcases Int.lt_or_le (vAt v r) (vAt v' r) with q | q
  · have p := vAt_ge v r
    have hi := rg_in b (r := r) (by omega)
    have hb := rg_vAt b r
    have hd : dottedP (r, vAt v r + 1) := ⟨hi.1, hi.2, by simp only; omega, by simp only; omega⟩
    rcases (h (r, vAt v r + 1) ⟨hd, .inl (by simp only; omega)⟩).2 with z | z
    · simp only at z; omega
    · have := a.gap _ z
      simp only at this
      omega
  · exact q
theorem NF.mem {v : List Int} {ds : Dots} (a : NF v ds) (d : Int × Int) : d ∈ ds ↔ inC v ds d ∧ vAt v d.1 < d.2 := by
  constructor
  · intro h
    have := a.gap d h
    exact ⟨⟨a.rg.2.2 d h, .inr h⟩, by omega⟩
  · rintro ⟨⟨_, h | h⟩, h2⟩
    · omega
    · exact h
theorem NF.ext {v v' : List Int} {ds ds' : Dots} (a : NF v ds) (b : NF v' ds') (h : ∀ d, inC v ds d ↔ inC v' ds' d) : (v, ds) = (v', ds') := by
  have hv : ∀ r, vAt v r = vAt v' r := fun r => Int.le_antisymm (b.le a.rg (fun d => (h d).1) r) (a.le b.rg (fun d => (h d).2) r)
  have e1 : v = v' := trim_ext (fun n hn => (a.rg.2.1 n hn).1) (fun n hn => (b.rg.2.1 n hn).1) a.trim b.trim hv
  subst e1
  rw [rise_ext a.rise b.rise fun d => by rw [a.mem, b.mem, h d]]
theorem seen_gS {v : List Int} (hl : v.length ≤ 16) (hp : ∀ n ∈ v, 0 ≤ n) {r : Int} (h1 : 1 ≤ r) : gS (seen0 v v.length) r = vAt v r := by
  have e : seen0 v v.length = v ++ List.replicate (16 - v.length) 0 := by unfold seen0; rw [List.take_length]
  obtain ⟨i, rfl⟩ : ∃ i : Nat, r = ((i + 1 : Nat) : Int) := ⟨(r - 1).toNat, by omega⟩
  have ei : ((((i + 1 : Nat) : Int) - 1)).toNat = i := by omega
  unfold gS
  rw [e, ei, List.getD_eq_getElem?_getD]
  by_cases hi : i < v.length
  · rw [List.getElem?_append_left hi, vAt_in v i hi, List.getD_eq_getElem?_getD, List.getElem?_eq_getElem hi]
    have := hp _ (List.getElem_mem hi)
    simp only [Option.getD_some]
    omega
  · rw [vAt_out v _ (.inr (by omega)), List.getElem?_append_right (by omega), List.getElem?_replicate]
    split <;> rfl
theorem fmR_gS {v : List Int} {ds : Dots} (hr : rangedP v ds) {r : Int} (h1 : 1 ≤ r) (h2 : r ≤ 16) : vAt (fmO v ds).1 r = gS (fmR v (layR ds)).1 r := by
  have hi := fmR_inv v hr.1 hr.2.1 (l := layR ds) (fun d hd => hr.2.2 d ((layR_mem' ds d).1 hd)) (Nat.le_refl _)
  rw [List.take_length] at hi
  obtain ⟨i1, i2, i3⟩ := hi
  obtain ⟨i, rfl⟩ : ∃ i : Nat, r = ((i + 1 : Nat) : Int) := ⟨(r - 1).toNat, by omega⟩
  have e := vAt_take (fmR v (layR ds)).1 ((i + 1 : Nat) : Int)
  rw [i1] at e
  unfold fmO
  rw [e, vAt_in _ i (by omega)]
  have ei : ((((i + 1 : Nat) : Int) - 1)).toNat = i := by omega
  unfold gS
  rw [ei]
  have := i3 i
  omega
theorem fm_in {v : List Int} {ds : Dots} (hr : rangedP v ds) (d : Int × Int) : inC (fmO v ds).1 (fmO v ds).2 d ↔ inC v ds d := by
  unfold inC
  refine and_congr_right fun hd => ?_
  have hs := seen0_len v (Nat.le_refl _) hr.1
  have := fmF_mem (layR ds) (seen0 v v.length, []) hs (fun d hd => hr.2.2 d ((layR_mem' ds d).1 hd)) hd
  rw [fmR_gS hr hd.1 hd.2.1]
  have e : mM ((layR ds).foldl fmD (seen0 v v.length, [])) d ↔ (d.2 ≤ gS (fmR v (layR ds)).1 d.1 ∨ d ∈ (fmO v ds).2) := Iff.rfl
  rw [← e, this, layR_mem']
  unfold mM
  simp only
  rw [seen_gS hr.1 (fun n hn => (hr.2.1 n hn).1) hd.1]
  simp
theorem NF.fm {v : List Int} {ds : Dots} (hr : rangedP v ds) : NF (fmO v ds).1 (fmO v ds).2 := by
  have hd : ∀ d ∈ layR ds, dottedP d := fun d hd => hr.2.2 d ((layR_mem' ds d).1 hd)
  have hs := seen0_len v (Nat.le_refl _) hr.1
  have hi := fmR_inv v hr.1 hr.2.1 hd (Nat.le_refl _)
  rw [List.take_length] at hi
  obtain ⟨i1, i2, i3⟩ := hi
  have hm : ∀ d ∈ (fmO v ds).2, d ∈ layR ds := fun d h => by
    rcases fmF_in (layR ds) (seen0 v v.length, []) d h with q | q
    · cases q
    · exact q
  have hdd : ∀ d ∈ (fmO v ds).2, dottedP d := fun d h => hd d (hm d h)
  refine ⟨⟨?_, fun n hn => ?_, hdd⟩, fmO_rise v ds, fun d h => ?_, trim_take _ _ (by rw [i1]; exact Nat.le_refl _)⟩
  · have := topI_le (fmR v (layR ds)).1 16
    simp only [fmO, List.length_take]
    omega
  · have h1 := List.mem_of_mem_take (show n ∈ (fmR v (layR ds)).1.take _ from hn)
    obtain ⟨k, hk, rfl⟩ := List.getElem_of_mem h1
    have := i3 k
    rw [List.getD_eq_getElem?_getD, List.getElem?_eq_getElem hk] at this
    exact this
  · have q := hdd d h
    rw [fmR_gS hr q.1 q.2.1]
    exact fmF_gap (layR ds) (seen0 v v.length, []) hs hd (fun x h => by cases h) (layR_rise ds) (fun x h => by cases h) (fun x h => by cases h) d h
theorem NF.fix {v : List Int} {ds : Dots} (a : NF v ds) : fmO v ds = (v, ds) := (NF.fm a.rg).ext a fun d => fm_in a.rg d
theorem nf_check {v : List Int} {ds : Dots} (h : checkR v ds = 0) : NF v ds := by
  obtain ⟨h1, _, h3⟩ := check_fm h
  have := NF.fm h1
  rw [h3] at this
  exact this
theorem NF.check {v : List Int} {ds : Dots} (a : NF v ds) (hl : ds.length ≤ 4096) : checkR v ds = 0 := by
  unfold checkR
  rw [if_neg (not_not_intro a.rg), if_neg (by omega), if_pos a.fix]
theorem fmO_ext {v v' : List Int} {ds ds' : Dots} (h1 : rangedP v ds) (h2 : rangedP v' ds') (h : ∀ d, inC v ds d ↔ inC v' ds' d) : fmO v ds = fmO v' ds' := by
  have := (NF.fm h1).ext (NF.fm h2) fun d => by rw [fm_in h1, fm_in h2, h]
  exact this
theorem fmO_len2 {v : List Int} {ds : Dots} (hr : rangedP v ds) : (fmO v ds).2.length ≤ ds.length := by
  have hi := fmR_inv v hr.1 hr.2.1 (l := layR ds) (fun d hd => hr.2.2 d ((layR_mem' ds d).1 hd)) (Nat.le_refl _)
  rw [List.take_length] at hi
  have := layR_len ds
  have h2 : (fmO v ds).2 = (fmR v (layR ds)).2 := rfl
  rw [h2]
  omega
theorem rhas_in {v : List Int} {ds : Dots} (hr : rangedP v ds) (d : Int × Int) : rhasP v ds d ↔ inC v ds d := by
  unfold rhasP inC
  rw [rAt_vAt fun n hn => (hr.2.1 n hn).1]
  constructor
  · rintro (q | q)
    · have h1 := rg_in hr (r := d.1) (by omega)
      have h2 := rg_vAt hr d.1
      exact ⟨⟨h1.1, h1.2, q.1, by omega⟩, .inl q.2⟩
    · exact ⟨hr.2.2 d q, .inr q⟩
  · rintro ⟨hd, q | q⟩
    · exact .inl ⟨hd.2.2.1, q⟩
    · exact .inr q
theorem leq_in {v v' : List Int} {ds ds' : Dots} (h : rangedP v ds) (h' : rangedP v' ds') : leqP v ds v' ds' ↔ ∀ d, inC v ds d → inC v' ds' d := by
  have pv : ∀ n ∈ v, 0 ≤ n := fun n hn => (h.2.1 n hn).1
  have pv' : ∀ n ∈ v', 0 ≤ n := fun n hn => (h'.2.1 n hn).1
  unfold leqP leqRow
  constructor
  · rintro ⟨q1, q2⟩ d ⟨hd, z | z⟩
    · by_cases hz : d.2 ≤ vAt v' d.1
      · exact ⟨hd, .inl hz⟩
      · obtain ⟨i, hi⟩ : ∃ i : Nat, d.1 = ((i + 1 : Nat) : Int) := ⟨(d.1 - 1).toNat, by have := hd.1; omega⟩
        have h16 := hd.2.1
        have := q1 i (by omega) d.2 (by rw [rAt_vAt pv', ← hi]; omega) (by rw [rAt_vAt pv, ← hi]; exact z)
        rw [← hi] at this
        exact (rhas_in h' d).1 this
    · exact (rhas_in h' d).1 (q2 d z)
  · intro q
    refine ⟨fun r hr n h1 h2 => (rhas_in h' _).2 (q _ ?_), fun d hd => (rhas_in h' d).2 (q d ⟨h.2.2 d hd, .inr hd⟩)⟩
    rw [rAt_vAt pv'] at h1
    rw [rAt_vAt pv] at h2
    have h3 := vAt_ge v' ((r + 1 : Nat) : Int)
    have h4 := rg_vAt h ((r + 1 : Nat) : Int)
    exact ⟨⟨by simp only; omega, by simp only; omega, by simp only; omega, by simp only; omega⟩, .inl h2⟩
theorem join_in {v v' : List Int} {ds ds' : Dots} (h : rangedP v ds) (h' : rangedP v' ds') (d : Int × Int) : inC (joinL v v' 16) (ds ++ ds') d ↔ inC v ds d ∨ inC v' ds' d := by
  unfold inC
  rw [joinL_vAt h.1 h'.1 (fun n hn => (h.2.1 n hn).1) (fun n hn => (h'.2.1 n hn).1), List.mem_append, ← and_or_left]
  refine and_congr_right fun _ => ?_
  constructor
  · rintro (q | q | q)
    · rcases Int.le_total (vAt v d.1) (vAt v' d.1) with z | z
      · exact .inr (.inl (by omega))
      · exact .inl (.inl (by omega))
    · exact .inl (.inr q)
    · exact .inr (.inr q)
  · rintro ((q | q) | (q | q))
    · exact .inl (by omega)
    · exact .inr (.inl q)
    · exact .inl (by omega)
    · exact .inr (.inr q)
theorem sumI_sum : ∀ (v : List Int) (n : Nat), n ≤ v.length → sumI v n = (v.take n).sum
  | v, 0, _ => by simp [sumI]
  | v, n + 1, h => by
    unfold sumI
    rw [sumI_sum v n (by omega), List.take_succ_eq_append_getElem h, List.sum_append, List.getD_eq_getElem?_getD, List.getElem?_eq_getElem h]
    simp
theorem sum_zero : ∀ (l : List Int), (∀ i, i < l.length → l.getD i 0 = 0) → l.sum = 0
  | [], _ => rfl
  | a :: l, h => by
    have h0 := h 0 (by simp)
    have := sum_zero l fun i hi => by have := h (i + 1) (by simpa using hi); simpa using this
    simp only [List.getD_cons_zero] at h0
    rw [List.sum_cons, this, h0]
    rfl
theorem fm_sum {v : List Int} {ds : Dots} (hr : rangedP v ds) : (fmO v ds).1.sum = (fmR v (layR ds)).1.sum := by
  have hi := fmR_inv v hr.1 hr.2.1 (l := layR ds) (fun d hd => hr.2.2 d ((layR_mem' ds d).1 hd)) (Nat.le_refl _)
  rw [List.take_length] at hi
  have h1 := hi.1
  have e := congrArg List.sum (List.take_append_drop (topI (fmR v (layR ds)).1 16) (fmR v (layR ds)).1)
  rw [List.sum_append, sum_zero (List.drop _ _) fun i hi => ?_] at e
  · unfold fmO
    simp only
    omega
  · rw [List.length_drop] at hi
    have := topI_zero (fmR v (layR ds)).1 16 (topI (fmR v (layR ds)).1 16 + i) (by omega) (by omega)
    rw [List.getD_eq_getElem?_getD] at this ⊢
    rw [List.getElem?_drop]
    exact this
/-- One dot more. -/
theorem count_more {v : List Int} {ds : Dots} (a : NF v ds) (hl : ds.length ≤ 4095) {d : Int × Int} (hd : dottedP d) (hn : ¬ inC v ds d) :
    rangedP v (ds ++ [d]) ∧ checkR (fmO v (ds ++ [d])).1 (fmO v (ds ++ [d])).2 = 0 ∧ countR (fmO v (ds ++ [d])).1 (fmO v (ds ++ [d])).2 = countR v ds + 1 ∧ ∀ e, inC (fmO v (ds ++ [d])).1 (fmO v (ds ++ [d])).2 e ↔ inC v ds e ∨ e = d := by
  have hr : rangedP v (ds ++ [d]) := ⟨a.rg.1, a.rg.2.1, fun x hx => by
    rcases List.mem_append.1 hx with q | q
    · exact a.rg.2.2 x q
    · rw [List.mem_singleton.1 q]; exact hd⟩
  have hc : checkR (fmO v (ds ++ [d])).1 (fmO v (ds ++ [d])).2 = 0 := (NF.fm hr).check (by have := fmO_len2 hr; rw [List.length_append, List.length_singleton] at this; omega)
  refine ⟨hr, hc, ?_, fun e => ?_⟩
  · have hlay : layR (ds ++ [d]) = laidD ds d := by
      have e1 : layR (ds ++ [d]) = layS (layR ds) d := by unfold layR; rw [List.foldl_append]; rfl
      have e2 : layR ds = ds := rise_ext (layR_rise ds) a.rise (layR_mem' ds)
      rw [e1, e2]
      unfold layS
      rw [if_neg]
      rintro ⟨q1, q2⟩
      refine hn ⟨hd, .inr ?_⟩
      rw [← q2, List.getD_eq_getElem?_getD, List.getElem?_eq_getElem q1]
      exact List.getElem_mem q1
    have hlen : (layR (ds ++ [d])).length = ds.length + 1 := by
      have := laidI_le ds d
      rw [hlay]
      unfold laidD
      rw [List.length_append, List.length_take, List.length_cons, List.length_drop]
      omega
    have hs := seen0_len v (Nat.le_refl _) a.rg.1
    have hdd : ∀ x ∈ layR (ds ++ [d]), dottedP x := fun x hx => hr.2.2 x ((layR_mem' _ x).1 hx)
    have key := fmF_cnt (layR (ds ++ [d])) (seen0 v v.length, []) hs hdd (layR_rise _) fun x hx => by
      have hx2 := (layR_mem' _ x).1 hx
      rintro (q | q)
      · rw [seen_gS a.rg.1 (fun n hn => (a.rg.2.1 n hn).1) (hdd x hx).1] at q
        rcases List.mem_append.1 hx2 with z | z
        · have := a.gap x z
          omega
        · rw [List.mem_singleton.1 z] at q
          exact hn ⟨hd, .inl q⟩
      · cases q
    have e2 : (fmO v (ds ++ [d])).2 = (fmR v (layR (ds ++ [d]))).2 := rfl
    have e3 : (seen0 v v.length).sum = v.sum := by
      unfold seen0
      rw [List.take_length, List.sum_append]
      have := sum_zero (List.replicate (16 - v.length) 0) fun i hi => by
        rw [List.getD_eq_getElem?_getD, List.getElem?_eq_getElem hi]
        simp
      omega
    unfold countR
    rw [if_pos hc, if_pos (a.check (by omega)), sumI_sum _ _ (Nat.le_refl _), sumI_sum _ _ (Nat.le_refl _), List.take_length, List.take_length, fm_sum hr, e2]
    rw [hlen] at key
    simp only [List.length_nil] at key
    unfold fmR
    omega
  · rw [fm_in hr]
    unfold inC
    rw [List.mem_append, List.mem_singleton]
    constructor
    · rintro ⟨h1, h2 | h2 | h2⟩
      · exact .inl ⟨h1, .inl h2⟩
      · exact .inl ⟨h1, .inr h2⟩
      · exact .inr h2
    · rintro (⟨h1, h2 | h2⟩ | rfl)
      · exact ⟨h1, .inl h2⟩
      · exact ⟨h1, .inr (.inl h2)⟩
      · exact ⟨hd, .inr (.inr rfl)⟩
theorem maxR_top {v : List Int} {ds : Dots} (hr : rangedP v ds) (r : Int) : ∀ i, i ≤ ds.length → vAt v r ≤ maxR v ds r i ∧ (∀ d ∈ ds.take i, d.1 = r → d.2 ≤ maxR v ds r i) ∧ (maxR v ds r i = vAt v r ∨ (r, maxR v ds r i) ∈ ds)
  | 0, _ => ⟨by unfold maxR; rw [rAt_vAt fun n hn => (hr.2.1 n hn).1]; exact Int.le_refl _, fun d hd => by simp at hd, .inl (rAt_vAt (fun n hn => (hr.2.1 n hn).1) r)⟩
  | i + 1, hi => by
    obtain ⟨h1, h2, h3⟩ := maxR_top hr r i (by omega)
    have hm : ds.getD i dotR.d ∈ ds := by rw [List.getD_eq_getElem?_getD, List.getElem?_eq_getElem hi]; exact List.getElem_mem hi
    have et : ds.take (i + 1) = ds.take i ++ [ds.getD i dotR.d] := by rw [List.take_succ_eq_append_getElem hi, List.getD_eq_getElem?_getD, List.getElem?_eq_getElem hi]; rfl
    rw [et]
    unfold maxR
    generalize ds.getD i dotR.d = x at *
    split
    · rename_i q
      refine ⟨by omega, fun d hd hdr => ?_, ?_⟩
      · rcases List.mem_append.1 hd with z | z
        · have := h2 d z hdr; omega
        · rw [List.mem_singleton.1 z]; omega
      · rcases Int.le_total (maxR v ds r i) x.2 with z | z
        · right
          rw [Int.max_eq_right z, ← q]
          exact hm
        · rw [Int.max_eq_left z]
          exact h3
    · rename_i q
      refine ⟨h1, fun d hd hdr => ?_, h3⟩
      rcases List.mem_append.1 hd with z | z
      · exact h2 d z hdr
      · rw [List.mem_singleton.1 z] at hdr
        exact absurd hdr q
end Go.Proofs.Ytnnkfhlmkaobfaa
end
section
namespace Go.Proofs.Ytnnkfhlmkaobfaa
set_option maxRecDepth 100000
set_option maxHeartbeats 4000000
set_option linter.unusedSimpArgs false
def T_awake : List AV → List AB → Option (AV × List AB)
  | [], h => some (.b true, h)
  | _, _ => none
theorem Awake_spec : Spec Try.prog 9 T_awake := by
  intro args h v h' e
  unfold T_awake at e
  split at e
  · cases e
    exact awake_spec h
  · cases e
theorem T_OverC_ns (h : List AB) : T_OverC [.ag [.ns, .ns]] h = some (.tu [], h) := rfl
theorem T_OverC_own {h L : List AB} {l : List Int} {m : Dots} {i j : Nat} (hi : ownM intR l L i) (hj : ownM dotR m L j) (hl : l.length ≤ 1000000) (hm : m.length ≤ 1000000) (hne : (i = j) = False) :
    T_OverC [.ag [rsl intR (h.length + i) l, rsl dotR (h.length + j) m]] (h ++ L) = some (.tu [], h ++ killB (killB L i) j) := by
  have e1 := ownM_get l L i hi
  have e2 := ownM_get m L j hj
  have h1 : (h ++ L)[h.length + i]? = some (resB intR true l) := by rw [own_at]; exact e1
  have h2 : (h ++ L)[h.length + j]? = some (resB dotR true m) := by rw [own_at]; exact e2
  have hne' : ¬ i = j := fun q => by rw [q] at hne; simp at hne
  have g1 : getS intR (h ++ L) (rsl intR (h.length + i) l) = some l := (rsl_rd h1 (by unfold maxLen; omega)).get
  have g2 : getS dotR (h ++ L) (rsl dotR (h.length + j) m) = some m := (rsl_rd h2 (by unfold maxLen; omega)).get
  have hns : ∀ id : Nat, rsl intR id l ≠ .ns := fun id q => by unfold rsl at q; split at q <;> cases q
  unfold T_OverC
  split
  · rename_i q
    simp only [List.cons.injEq, AV.ag.injEq] at q
    exact absurd q.1.1 (hns _)
  · rename_i q
    simp only [List.cons.injEq, AV.ag.injEq, and_true] at q
    obtain ⟨rfl, rfl⟩ := q
    rw [g1, g2]
    simp only [Option.bind_some, idOf_rsl]
    rw [if_pos ⟨rfl, h1, rfl, h2, by omega, hl, hm⟩, killB_eq, killB_eq]
    rw [set_own, set_own]
  · rename_i q1 q2
    first | exact (q2 _ _ rfl).elim | exact (q2 _ _ _ rfl).elim | exact (q2 _ _ _ rfl rfl).elim | exact (q2 _ _ rfl rfl).elim | exact (q1 _ _ rfl rfl).elim | exact (q1 _ _ _ rfl rfl).elim | exact (q2 rfl).elim
theorem fmR_get {h : List AB} {v : List Int} {ds : Dots} (hr : rangedP v ds) (L : List AB) (k : Nat) (hL : ownC L k = some (intR.cells (fmR v (layR ds)).1)) : getS intR (h ++ L) (.sl (h.length + k) 0 (topI (fmR v (layR ds)).1 16) 16 none) = some (fmO v ds).1 := by
  have inv := fmR_inv v hr.1 hr.2.1 (fun d hd => hr.2.2 d (layR_mem ds d hd)) (Nat.le_refl (layR ds).length)
  rw [List.take_length] at inv
  have t1 := topI_le (fmR v (layR ds)).1 16
  exact (Rd_ownT hL (by unfold maxLen; omega) (by omega)).get
theorem CloudJoins_at {h : List AB} (hz : h.map AB.freeze = h) {s t s' t' : AV} {vs vs' : List Int} {ds ds' : Dots} (hs : Rd intR h s vs) (ht : Rd dotR h t ds) (hs' : Rd intR h s' vs') (ht' : Rd dotR h t' ds') :
    FnAt Try.prog 3 [.ag [s, t], .ag [s', t']] h (.b true) h := by
  refine FnAt.run (by kernel_rfl) (T := ⟨[⟨9, T_awake, fun _ => []⟩, ⟨8, T_Long, fun _ => []⟩, ⟨10, T_CopyCloud, fun _ => []⟩, ⟨11, T_cJoin, fun _ => []⟩, ⟨12, T_rJoin, fun _ => []⟩, ⟨13, T_rLeq, fun _ => []⟩, ⟨14, T_rLeq, fun _ => []⟩, ⟨15, T_SameCloud, fun _ => []⟩, ⟨16, T_OverC, fun _ => []⟩], []⟩) ⟨⟨Awake_spec, Long_spec, CopyCloud_spec, cJoin_spec, rJoin_spec, Leq_spec, rLeq_spec, SameCloud_spec, OverCloud_spec, trivial⟩, trivial⟩ Try.func3 sw3 fun ho hh => ?_
  simp only [okL_cons, ok_ag, Bool.and_eq_true] at ho
  have f1 := hs.fx ho.1.1 (sz := 1) rfl
  have f2 := ht.fx ho.1.2.1 (sz := 2) rfl
  have f3 := hs'.fx ho.2.1.1 (sz := 1) rfl
  have f4 := ht'.fx ho.2.1.2.1 (sz := 2) rfl
  unfold w3
  by_cases hL : 20 < vs.length ∨ 30 < ds.length
  · have g1 := eq_true hL
    simp only [rep_0, rep_s, walkW, walkQ, ld_own, lda_own, st_own, sta_own, len_app, if_true, if_false, ↓reduceIte, Nat.reduceAdd, Nat.reduceSub, Nat.reduceLeDiff, Nat.reduceEqDiff, Nat.reduceMul, Nat.reduceLT, Int.reduceLT, Int.reduceLE, Int.reduceEq, rsl_get, srcV_own, merge_own, drop_own, getD_own, CO.tmps, Opd.tmps, optT, Nat.reducePow, Nat.reduceDiv, Nat.reduceMod, f1, f2, f3, f4, T_Long, T_awake, g1]
    exact Bt.dropB _ hh rfl
  by_cases hL' : 20 < vs'.length ∨ 30 < ds'.length
  · have g1 := eq_false hL
    have g2 := eq_true hL'
    simp only [rep_0, rep_s, walkW, walkQ, ld_own, lda_own, st_own, sta_own, len_app, if_true, if_false, ↓reduceIte, Nat.reduceAdd, Nat.reduceSub, Nat.reduceLeDiff, Nat.reduceEqDiff, Nat.reduceMul, Nat.reduceLT, Int.reduceLT, Int.reduceLE, Int.reduceEq, rsl_get, srcV_own, merge_own, drop_own, getD_own, CO.tmps, Opd.tmps, optT, Nat.reducePow, Nat.reduceDiv, Nat.reduceMod, f1, f2, f3, f4, T_Long, T_awake, g1, g2]
    exact Bt.dropB _ hh rfl
  have g1 := eq_false hL
  have g2 := eq_false hL'
  have l1 : (vs.length ≤ 1000000) = True := eq_true (by omega)
  have l2 : (ds.length ≤ 1000000) = True := eq_true (by omega)
  have l3 : (vs'.length ≤ 1000000) = True := eq_true (by omega)
  have l4 : (ds'.length ≤ 1000000) = True := eq_true (by omega)
  by_cases c1 : checkR vs ds = 0
  · by_cases c2 : checkR vs' ds' = 0
    · have k1 := (nf_check c1).rg
      have k2 := (nf_check c2).rg
      have kr := joinL_ranged k1 k2
      have kl := fmO_len2 kr
      rw [List.length_append] at kl
      have l5 : ((fmO (joinL vs vs' 16) (ds ++ ds')).2.length ≤ 4096) = True := eq_true (by omega)
      have l6 : ((joinO vs vs' ds ds').2.length ≤ 4096) = True := l5
      have l7 : ((joinO vs vs' ds ds').1.length ≤ 1000000) = True := eq_true (by have := fmO_len (joinL vs vs' 16) (ds ++ ds'); unfold joinO; omega)
      have l8 : ((joinO vs vs' ds ds').2.length ≤ 1000000) = True := eq_true (by unfold joinO; omega)
      have e2 : (fmR (joinL vs vs' 16) (layR (ds ++ ds'))).2 = (joinO vs vs' ds ds').2 := rfl
      have e1 := fun (L : List AB) (k : Nat) (hL : ownC L k = some (intR.cells (fmR (joinL vs vs' 16) (layR (ds ++ ds'))).1)) => fmR_get (h := h) kr L k hL
      have e3 : fmO (joinL vs vs' 16) (ds ++ ds') = joinO vs vs' ds ds' := rfl
      rw [e3] at e1
      simp only [rep_0, rep_s, walkW, walkQ, ld_own, lda_own, st_own, sta_own, len_app, if_true, if_false, ↓reduceIte, Nat.reduceAdd, Nat.reduceSub, Nat.reduceLeDiff, Nat.reduceEqDiff, Nat.reduceMul, Nat.reduceLT, Int.reduceLT, Int.reduceLE, Int.reduceEq, rsl_get, srcV_own, merge_own, drop_own, getD_own, CO.tmps, Opd.tmps, optT, Nat.reducePow, Nat.reduceDiv, Nat.reduceMod, f1, f2, f3, f4, T_Long, T_awake, T_CopyCloud, T_cJoin, T_rJoin, T_rLeq, T_SameCloud, T_OverC_own, HOk_own hh, mask_ownC hz, mask_ownQ hz, mask_ownQ0 hz, g1, g2, l1, l2, l3, l4, l5, l6, l7, l8, e1, e2, c1, c2, ne_eq, rsl_capOk, beq_self_eq_true]
      exact Bt.dropB _ hh rfl
    · have c2' := eq_false c2
      simp only [rep_0, rep_s, walkW, walkQ, ld_own, lda_own, st_own, sta_own, len_app, if_true, if_false, ↓reduceIte, Nat.reduceAdd, Nat.reduceSub, Nat.reduceLeDiff, Nat.reduceEqDiff, Nat.reduceMul, Nat.reduceLT, Int.reduceLT, Int.reduceLE, Int.reduceEq, rsl_get, srcV_own, merge_own, drop_own, getD_own, CO.tmps, Opd.tmps, optT, Nat.reducePow, Nat.reduceDiv, Nat.reduceMod, f1, f2, f3, f4, T_Long, T_awake, T_CopyCloud, T_cJoin, T_rJoin, T_rLeq, T_SameCloud, T_OverC_ns, HOk_own hh, mask_ownC hz, mask_ownQ hz, mask_ownQ0 hz, g1, g2, l1, l2, l3, l4, c1, c2', ne_eq, rsl_capOk, beq_self_eq_true]
      exact Bt.dropB _ hh rfl
  · have c1' := eq_false c1
    simp only [rep_0, rep_s, walkW, walkQ, ld_own, lda_own, st_own, sta_own, len_app, if_true, if_false, ↓reduceIte, Nat.reduceAdd, Nat.reduceSub, Nat.reduceLeDiff, Nat.reduceEqDiff, Nat.reduceMul, Nat.reduceLT, Int.reduceLT, Int.reduceLE, Int.reduceEq, rsl_get, srcV_own, merge_own, drop_own, getD_own, CO.tmps, Opd.tmps, optT, Nat.reducePow, Nat.reduceDiv, Nat.reduceMod, f1, f2, f3, f4, T_Long, T_awake, T_CopyCloud, T_cJoin, T_rJoin, T_rLeq, T_SameCloud, T_OverC_ns, HOk_own hh, mask_ownC hz, mask_ownQ hz, mask_ownQ0 hz, g1, g2, l1, l2, l3, l4, c1', ne_eq, rsl_capOk, beq_self_eq_true]
    exact Bt.dropB _ hh rfl
end Go.Proofs.Ytnnkfhlmkaobfaa
end
section
namespace Go.Proofs.Ytnnkfhlmkaobfaa
set_option maxRecDepth 100000
set_option maxHeartbeats 4000000
set_option linter.unusedSimpArgs false
theorem CloudMakes_at {h : List AB} (hz : h.map AB.freeze = h) {s t s' t' : AV} {vs vs' : List Int} {ds ds' : Dots} (hs : Rd intR h s vs) (ht : Rd dotR h t ds) (hs' : Rd intR h s' vs') (ht' : Rd dotR h t' ds') (a b r : Int) :
    FnAt Try.prog 4 [s, t, .ag [s', t'], .ag [.i .i64 a, .i .i64 b], .i .i64 r] h (.b true) h := by
  refine FnAt.run (by kernel_rfl) (T := ⟨[⟨9, T_awake, fun _ => []⟩, ⟨8, T_Long, fun _ => []⟩, ⟨10, T_CopyCloud, fun _ => []⟩, ⟨17, T_CopyInts, fun _ => []⟩, ⟨18, T_CopyDots, fun _ => []⟩, ⟨19, T_cMake, fun _ => []⟩, ⟨20, T_rMake, fun _ => []⟩, ⟨21, T_rNext, fun _ => []⟩, ⟨22, T_rNext, fun _ => []⟩, ⟨23, T_chk checkR, fun _ => []⟩, ⟨24, T_rCheck, fun _ => []⟩, ⟨25, T_rHas, fun _ => []⟩, ⟨26, T_rHas, fun _ => []⟩, ⟨27, T_rCount, fun _ => []⟩, ⟨28, T_rCount, fun _ => []⟩, ⟨29, T_SameInts, fun _ => []⟩, ⟨30, T_SameDots, fun _ => []⟩, ⟨15, T_SameCloud, fun _ => []⟩, ⟨16, T_OverC, fun _ => []⟩], []⟩) ⟨⟨Awake_spec, Long_spec, CopyCloud_spec, CopyInts_spec, CopyDots_spec, Make_spec, rMake_spec, Next_spec, rNext_spec, cCheck_spec, rCheck_spec, Has_spec, rHas_spec, Count_spec, rCount_spec, SameInts_spec, SameDots_spec, SameCloud_spec, OverCloud_spec, trivial⟩, trivial⟩ Try.func4 sw4 fun ho hh => ?_
  simp only [okL_cons, ok_ag, Bool.and_eq_true] at ho
  have f1 := hs.fx ho.1 (sz := 1) rfl
  have f2 := ht.fx ho.2.1 (sz := 2) rfl
  have f3 := hs'.fx ho.2.2.1.1 (sz := 1) rfl
  have f4 := ht'.fx ho.2.2.1.2.1 (sz := 2) rfl
  unfold w4
  by_cases hL1 : 20 < (vs.length : Int)
  · have g1 := eq_true hL1
    simp only [rep_0, rep_s, walkW, walkQ, ld_own, lda_own, st_own, sta_own, len_app, if_true, if_false, ↓reduceIte, Nat.reduceAdd, Nat.reduceSub, Nat.reduceLeDiff, Nat.reduceEqDiff, Nat.reduceMul, Nat.reduceLT, Int.reduceLT, Int.reduceLE, Int.reduceEq, rsl_get, srcV_own, merge_own, drop_own, getD_own, CO.tmps, Opd.tmps, optT, Nat.reducePow, Nat.reduceDiv, Nat.reduceMod, f1, f2, f3, f4, T_Long, T_awake, g1]
    exact Bt.dropB _ hh rfl
  have g1 := eq_false hL1
  by_cases hL2 : 40 < (ds.length : Int)
  · have g2 := eq_true hL2
    simp only [rep_0, rep_s, walkW, walkQ, ld_own, lda_own, st_own, sta_own, len_app, if_true, if_false, ↓reduceIte, Nat.reduceAdd, Nat.reduceSub, Nat.reduceLeDiff, Nat.reduceEqDiff, Nat.reduceMul, Nat.reduceLT, Int.reduceLT, Int.reduceLE, Int.reduceEq, rsl_get, srcV_own, merge_own, drop_own, getD_own, CO.tmps, Opd.tmps, optT, Nat.reducePow, Nat.reduceDiv, Nat.reduceMod, f1, f2, f3, f4, T_Long, T_awake, g1, g2]
    exact Bt.dropB _ hh rfl
  have g2 := eq_false hL2
  by_cases hL3 : 20 < vs'.length ∨ 30 < ds'.length
  · have g3 := eq_true hL3
    simp only [rep_0, rep_s, walkW, walkQ, ld_own, lda_own, st_own, sta_own, len_app, if_true, if_false, ↓reduceIte, Nat.reduceAdd, Nat.reduceSub, Nat.reduceLeDiff, Nat.reduceEqDiff, Nat.reduceMul, Nat.reduceLT, Int.reduceLT, Int.reduceLE, Int.reduceEq, rsl_get, srcV_own, merge_own, drop_own, getD_own, CO.tmps, Opd.tmps, optT, Nat.reducePow, Nat.reduceDiv, Nat.reduceMod, f1, f2, f3, f4, T_Long, T_awake, g1, g2, g3]
    exact Bt.dropB _ hh rfl
  have g3 := eq_false hL3
  have l1 : (vs.length ≤ 1000000) = True := eq_true (by omega)
  have l2 : (ds.length ≤ 1000000) = True := eq_true (by omega)
  have l3 : (vs'.length ≤ 1000000) = True := eq_true (by omega)
  have l4 : (ds'.length ≤ 1000000) = True := eq_true (by omega)
  have l5 : (ds.length ≤ 100000) = True := eq_true (by omega)
  by_cases c1 : rangedP vs ds
  · have kl := fmO_len2 c1
    have c1' := eq_true c1
    have l6 : ((fmO vs ds).2.length ≤ 4096) = True := eq_true (by omega)
    have l7 : ((fmO vs ds).1.length ≤ 1000000) = True := eq_true (by have := fmO_len vs ds; omega)
    have l8 : ((fmO vs ds).2.length ≤ 1000000) = True := eq_true (by omega)
    have e2 : (fmR vs (layR ds)).2 = (fmO vs ds).2 := rfl
    have e1 := fun (L : List AB) (k : Nat) (hL : ownC L k = some (intR.cells (fmR vs (layR ds)).1)) => fmR_get (h := h) c1 L k hL
    simp only [rep_0, rep_s, walkW, walkQ, ld_own, lda_own, st_own, sta_own, len_app, if_true, if_false, ↓reduceIte, Nat.reduceAdd, Nat.reduceSub, Nat.reduceLeDiff, Nat.reduceEqDiff, Nat.reduceMul, Nat.reduceLT, Int.reduceLT, Int.reduceLE, Int.reduceEq, rsl_get, srcV_own, merge_own, drop_own, getD_own, CO.tmps, Opd.tmps, optT, Nat.reducePow, Nat.reduceDiv, Nat.reduceMod, f1, f2, f3, f4, T_Long, T_awake, T_CopyCloud, T_CopyInts, T_CopyDots, T_cMake, T_rMake, T_rNext, T_chk, T_rCheck, T_rHas, T_rCount, T_SameInts, T_SameDots, T_SameCloud, T_OverC_own, HOk_own hh, mask_ownC hz, mask_ownQ hz, mask_ownQ0 hz, g1, g2, g3, l1, l2, l3, l4, l5, l6, l7, l8, e1, e2, c1', ne_eq, rsl_capOk, beq_self_eq_true, eq_self, eqc2]
    exact Bt.dropB _ hh rfl
  · have c1' := eq_false c1
    simp only [rep_0, rep_s, walkW, walkQ, ld_own, lda_own, st_own, sta_own, len_app, if_true, if_false, ↓reduceIte, Nat.reduceAdd, Nat.reduceSub, Nat.reduceLeDiff, Nat.reduceEqDiff, Nat.reduceMul, Nat.reduceLT, Int.reduceLT, Int.reduceLE, Int.reduceEq, rsl_get, srcV_own, merge_own, drop_own, getD_own, CO.tmps, Opd.tmps, optT, Nat.reducePow, Nat.reduceDiv, Nat.reduceMod, f1, f2, f3, f4, T_Long, T_awake, T_CopyCloud, T_CopyInts, T_CopyDots, T_cMake, T_rMake, T_rNext, T_chk, T_rCheck, T_rHas, T_rCount, T_SameInts, T_SameDots, T_SameCloud, T_OverC_ns, HOk_own hh, mask_ownC hz, mask_ownQ hz, mask_ownQ0 hz, g1, g2, g3, l1, l2, l3, l4, l5, c1', ne_eq, rsl_capOk, beq_self_eq_true, eq_self, eqc2]
    exact Bt.dropB _ hh rfl
end Go.Proofs.Ytnnkfhlmkaobfaa
end
section
namespace Go.Proofs.Ytnnkfhlmkaobfaa
set_option maxRecDepth 100000
set_option maxHeartbeats 4000000
set_option linter.unusedSimpArgs false
theorem eqcL (a b c d : Int) : eqCells [.i, .i] [.i .i64 a, .i .i64 b] [.i .i64 c, .i .i64 d] = some (decide (a = c ∧ b = d)) := by
  have := eqc2 (a, b) (c, d)
  simp only at this
  rw [this]
  congr 1
  exact decide_eq_decide.2 (by rw [Prod.mk.injEq])
/-- Is one cloud in another one, just so? -/
noncomputable def T_leq : List AV → List AB → Option (AV × List AB)
  | [.ag [s, t], .ag [s', t'], .b w], h => (getS intR h s).bind fun v => (getS dotR h t).bind fun ds => (getS intR h s').bind fun v' => (getS dotR h t').bind fun ds' =>
      some (.b (decide ((if checkR v ds = 0 then checkR v' ds' else checkR v ds) = 0 ∧ (decide (checkR v ds = 0 ∧ checkR v' ds' = 0 ∧ leqP v ds v' ds') = w))), h)
  | _, _ => none
theorem leq_spec : Spec Try.prog 34 T_leq := by
  intro args h v h' e
  unfold T_leq at e
  split at e
  · rename_i s t s' t' w
    obtain ⟨vs, hs, e⟩ := getS_bind e
    obtain ⟨ds, ht, e⟩ := getS_bind e
    obtain ⟨vs', hs', e⟩ := getS_bind e
    obtain ⟨ds', ht', e⟩ := getS_bind e
    cases e
    refine FnAt.c (FnAt.run (by kernel_rfl) (T := ⟨[⟨13, T_rLeq, fun _ => []⟩], []⟩) ⟨⟨Leq_spec, trivial⟩, trivial⟩ Try.func34 sw34 fun ho hh => ?_)
    simp only [okL_cons, ok_ag, Bool.and_eq_true] at ho
    have f1 := hs.fx ho.1.1 (sz := 1) rfl
    have f2 := ht.fx ho.1.2.1 (sz := 2) rfl
    have f3 := hs'.fx ho.2.1.1 (sz := 1) rfl
    have f4 := ht'.fx ho.2.1.2.1 (sz := 2) rfl
    unfold w34
    simp only [rep_0, rep_s, walkW, walkQ, ld_own, lda_own, st_own, sta_own, len_app, if_true, if_false, ↓reduceIte, Nat.reduceAdd, Nat.reduceSub, Nat.reduceLeDiff, Nat.reduceEqDiff, Nat.reduceMul, Nat.reduceLT, Int.reduceLT, Int.reduceLE, Int.reduceEq, rsl_get, srcV_own, merge_own, drop_own, getD_own, CO.tmps, Opd.tmps, optT, Nat.reducePow, Nat.reduceDiv, Nat.reduceMod, f1, f2, f3, f4, T_rLeq]
    generalize hb : decide (checkR vs ds = 0 ∧ checkR vs' ds' = 0 ∧ leqP vs ds vs' ds') = b
    generalize (if checkR vs ds = 0 then checkR vs' ds' else checkR vs ds) = c
    refine ⟨fun q => Bt.dropB _ hh ?_, fun q => Bt.dropB _ hh ?_⟩
    · cases b <;> cases w <;> simp [q]
    · simp [q]
  · cases e
theorem Known_spec (h : List AB) : FnC Try.prog 5 [] h (.b true) h := by
  refine FnAt.c (FnAt.frz0 fun hz => ?_)
  generalize h.map AB.freeze = h at *
  refine FnAt.run (by kernel_rfl) (T := ⟨[⟨32, T_dot, fun _ => []⟩, ⟨31, T_of, fun _ => []⟩, ⟨33, T_makes, fun _ => []⟩, ⟨34, T_leq, fun _ => []⟩, ⟨9, T_awake, fun _ => []⟩, ⟨25, T_rHas, fun _ => []⟩, ⟨21, T_rNext, fun _ => []⟩, ⟨27, T_rCount, fun _ => []⟩, ⟨23, T_chk checkR, fun _ => []⟩], []⟩) ⟨⟨dot_spec, of_spec, makes_spec, leq_spec, Awake_spec, Has_spec, Next_spec, Count_spec, cCheck_spec, trivial⟩, trivial⟩ Try.func5 sw5 fun ho hh => ?_
  have m1 : makesP [0, 0, 1] [] [] [(3, 1)] = True := eq_true (by unfold makesP; decide)
  have m2 : makesP [] [] [0, 0] [] = True := eq_true (by unfold makesP; decide)
  have k1 : checkR [2] [(1, 4)] = 0 := by decide
  have k2 : checkR [1] [(1, 3)] = 0 := by decide
  have k3 : checkR [3] [] = 0 := by decide
  have p1 : rhasP [2] [(1, 4)] (1, 3) = False := eq_false (by decide)
  have p2 : leqP [1] [(1, 3)] [3] [] = True := eq_true ⟨fun r hr n h1 h2 => by
    cases r with
    | zero => exact absurd (Int.lt_of_lt_of_le h1 h2) (by decide)
    | succ r =>
      have e1 : rAt [1] ((r + 1 + 1 : Nat) : Int) = 0 := if_pos (.inr (by simp; omega))
      have e2 : rAt [3] ((r + 1 + 1 : Nat) : Int) = 0 := if_pos (.inr (by simp; omega))
      omega, by decide⟩
  have p3 : leqP [3] [] [1] [(1, 3)] = False := eq_false fun q => absurd (q.1 0 (by decide) 2 (by decide) (by decide)) (by decide)
  have n1 : nextR [2] [(1, 4)] 1 = ((1, 5), 0) := by decide
  have n2 : nextR [2] [(1, 4)] 2 = ((2, 1), 0) := by decide
  have n3 : nextR [] [] 17 = ((0, 0), 3) := by decide
  have n4 : countR [2] [(1, 4)] = 3 := by decide
  have c1 : checkR [0] [] = 2 := by decide
  have c2 : checkR [] [(1, 1)] = 2 := by decide
  have c3 : checkR [] [(1, 3), (1, 2)] = 2 := by decide
  have c4 : checkR [] [(17, 1)] = 3 := by decide
  unfold w5
  simp only [rep_0, rep_s, walkW, walkQ, ld_own, lda_own, st_own, sta_own, len_app, if_true, if_false, ↓reduceIte, Nat.reduceAdd, Nat.reduceSub, Nat.reduceLeDiff, Nat.reduceEqDiff, Nat.reduceMul, Nat.reduceLT, Int.reduceLT, Int.reduceLE, Int.reduceEq, rsl_get, srcV_own, merge_own, drop_own, getD_own, CO.tmps, Opd.tmps, optT, Nat.reducePow, Nat.reduceDiv, Nat.reduceMod, T_dot, T_of, T_makes, T_leq, T_awake, T_rHas, T_rNext, T_rCount, T_chk, getS_litD, chkD_0, chkD_s, valD_0, valD_s, HOk_own hh, mask_ownC hz, mask_ownQ hz, mask_ownQ0 hz, slSl, nsSl, AV.capOk, m1, m2, k1, k2, k3, p1, p2, p3, n1, n2, n3, n4, c1, c2, c3, c4, ne_eq, List.length_cons, List.length_nil, Nat.zero_le, eqcL]
  exact Bt.dropB _ hh rfl
end Go.Proofs.Ytnnkfhlmkaobfaa
end
section
namespace Go.Proofs.Ytnnkfhlmkaobfaa
section
variable {va vb vc : List Int} {da db dc : Dots}
theorem join_nf (a : NF va da) (b : NF vb db) : NF (joinO va vb da db).1 (joinO va vb da db).2 := NF.fm (joinL_ranged a.rg b.rg)
theorem join_mem (a : NF va da) (b : NF vb db) (d : Int × Int) : inC (joinO va vb da db).1 (joinO va vb da db).2 d ↔ inC va da d ∨ inC vb db d := by
  have := fm_in (joinL_ranged a.rg b.rg) d
  rw [join_in a.rg b.rg] at this
  exact this
theorem join_len (a : NF va da) (b : NF vb db) : (joinO va vb da db).2.length ≤ da.length + db.length := by
  have := fmO_len2 (joinL_ranged a.rg b.rg)
  rw [List.length_append] at this
  exact this
theorem join_comm (a : NF va da) (b : NF vb db) : joinO vb va db da = joinO va vb da db := by
  have := (join_nf b a).ext (join_nf a b) fun d => by rw [join_mem b a, join_mem a b, or_comm]
  exact this
theorem join_self (a : NF va da) : joinO va va da da = (va, da) := by
  have := (join_nf a a).ext a fun d => by rw [join_mem a a, or_self]
  exact this
theorem join_assoc (a : NF va da) (b : NF vb db) (c : NF vc dc) : joinO va (joinO vb vc db dc).1 da (joinO vb vc db dc).2 = joinO (joinO va vb da db).1 vc (joinO va vb da db).2 dc := by
  have := (join_nf a (join_nf b c)).ext (join_nf (join_nf a b) c) fun d => by rw [join_mem a (join_nf b c), join_mem b c, join_mem (join_nf a b) c, join_mem a b, or_assoc]
  exact this
theorem join_leq (a : NF va da) (b : NF vb db) : leqP va da vb db ↔ ((joinO va vb da db).1 = vb ∧ (joinO va vb da db).2 = db) := by
  rw [leq_in a.rg b.rg]
  constructor
  · intro h
    have := (join_nf a b).ext b fun d => by
      rw [join_mem a b]
      exact ⟨fun q => q.elim (h d) id, .inr⟩
    rw [Prod.mk.injEq] at this
    exact this
  · rintro ⟨h1, h2⟩ d hd
    have := (join_mem a b d).2 (.inl hd)
    rwa [h1, h2] at this
theorem leq_l (a : NF va da) (b : NF vb db) : leqP va da (joinO va vb da db).1 (joinO va vb da db).2 := (leq_in a.rg (join_nf a b).rg).2 fun d hd => (join_mem a b d).2 (.inl hd)
theorem leq_r (a : NF va da) (b : NF vb db) : leqP vb db (joinO va vb da db).1 (joinO va vb da db).2 := (leq_in b.rg (join_nf a b).rg).2 fun d hd => (join_mem a b d).2 (.inr hd)
end
end Go.Proofs.Ytnnkfhlmkaobfaa
end
section
namespace Go.Proofs.Ytnnkfhlmkaobfaa
set_option maxRecDepth 100000
set_option maxHeartbeats 4000000
set_option linter.unusedSimpArgs false
def T_known : List AV → List AB → Option (AV × List AB)
  | [], h => some (.b true, h)
  | _, _ => none
theorem CloudKnown_spec : Spec Try.prog 5 T_known := by
  intro args h v h' e
  unfold T_known at e
  split at e
  · cases e
    exact Known_spec h
  · cases e
theorem CloudLattice_at {h : List AB} (hz : h.map AB.freeze = h) {s1 t1 s2 t2 s3 t3 : AV} {va vb vc : List Int} {da db dc : Dots} (hs1 : Rd intR h s1 va) (ht1 : Rd dotR h t1 da) (hs2 : Rd intR h s2 vb) (ht2 : Rd dotR h t2 db) (hs3 : Rd intR h s3 vc) (ht3 : Rd dotR h t3 dc) (k1 : t1.capOk = true) (k2 : t2.capOk = true) (k3 : t3.capOk = true) :
    FnAt Try.prog 6 [.ag [s1, t1], .ag [s2, t2], .ag [s3, t3]] h (.b true) h := by
  refine FnAt.run (by kernel_rfl) (T := ⟨[⟨5, T_known, fun _ => []⟩, ⟨8, T_Long, fun _ => []⟩, ⟨23, T_chk checkR, fun _ => []⟩, ⟨11, T_cJoin, fun _ => []⟩, ⟨15, T_SameCloud, fun _ => []⟩, ⟨34, T_leq, fun _ => []⟩], []⟩) ⟨⟨CloudKnown_spec, Long_spec, cCheck_spec, cJoin_spec, SameCloud_spec, leq_spec, trivial⟩, trivial⟩ Try.func6 sw6 fun ho hh => ?_
  simp only [okL_cons, ok_ag, Bool.and_eq_true] at ho
  have f1 := hs1.fx ho.1.1 (sz := 1) rfl
  have f2 := ht1.fx ho.1.2.1 (sz := 2) rfl
  have f3 := hs2.fx ho.2.1.1 (sz := 1) rfl
  have f4 := ht2.fx ho.2.1.2.1 (sz := 2) rfl
  have f5 := hs3.fx ho.2.2.1.1 (sz := 1) rfl
  have f6 := ht3.fx ho.2.2.1.2.1 (sz := 2) rfl
  unfold w6
  by_cases La : 20 < va.length ∨ 30 < da.length
  · have g := eq_true La
    simp only [rep_0, rep_s, walkW, walkQ, ld_own, lda_own, st_own, sta_own, len_app, if_true, if_false, ↓reduceIte, Nat.reduceAdd, Nat.reduceSub, Nat.reduceLeDiff, Nat.reduceEqDiff, Nat.reduceMul, Nat.reduceLT, Int.reduceLT, Int.reduceLE, Int.reduceEq, rsl_get, srcV_own, merge_own, drop_own, getD_own, CO.tmps, Opd.tmps, optT, Nat.reducePow, Nat.reduceDiv, Nat.reduceMod, f1, f2, f3, f4, f5, f6, T_Long, T_known, T_chk, T_cJoin, T_SameCloud, T_leq, HOk_own hh, mask_ownC hz, mask_ownQ hz, mask_ownQ0 hz, ne_eq, rsl_capOk, beq_self_eq_true, eq_self, g]
    exact Bt.dropB _ hh rfl
  have ga := eq_false La
  by_cases Lb : 20 < vb.length ∨ 30 < db.length
  · have g := eq_true Lb
    simp only [rep_0, rep_s, walkW, walkQ, ld_own, lda_own, st_own, sta_own, len_app, if_true, if_false, ↓reduceIte, Nat.reduceAdd, Nat.reduceSub, Nat.reduceLeDiff, Nat.reduceEqDiff, Nat.reduceMul, Nat.reduceLT, Int.reduceLT, Int.reduceLE, Int.reduceEq, rsl_get, srcV_own, merge_own, drop_own, getD_own, CO.tmps, Opd.tmps, optT, Nat.reducePow, Nat.reduceDiv, Nat.reduceMod, f1, f2, f3, f4, f5, f6, T_Long, T_known, T_chk, T_cJoin, T_SameCloud, T_leq, HOk_own hh, mask_ownC hz, mask_ownQ hz, mask_ownQ0 hz, ne_eq, rsl_capOk, beq_self_eq_true, eq_self, ga, g]
    exact Bt.dropB _ hh rfl
  have gb := eq_false Lb
  by_cases Lc : 20 < vc.length ∨ 30 < dc.length
  · have g := eq_true Lc
    simp only [rep_0, rep_s, walkW, walkQ, ld_own, lda_own, st_own, sta_own, len_app, if_true, if_false, ↓reduceIte, Nat.reduceAdd, Nat.reduceSub, Nat.reduceLeDiff, Nat.reduceEqDiff, Nat.reduceMul, Nat.reduceLT, Int.reduceLT, Int.reduceLE, Int.reduceEq, rsl_get, srcV_own, merge_own, drop_own, getD_own, CO.tmps, Opd.tmps, optT, Nat.reducePow, Nat.reduceDiv, Nat.reduceMod, f1, f2, f3, f4, f5, f6, T_Long, T_known, T_chk, T_cJoin, T_SameCloud, T_leq, HOk_own hh, mask_ownC hz, mask_ownQ hz, mask_ownQ0 hz, ne_eq, rsl_capOk, beq_self_eq_true, eq_self, ga, gb, g]
    exact Bt.dropB _ hh rfl
  have gc := eq_false Lc
  by_cases ca : checkR va da = 0
  case neg =>
    have g := eq_false ca
    simp only [rep_0, rep_s, walkW, walkQ, ld_own, lda_own, st_own, sta_own, len_app, if_true, if_false, ↓reduceIte, Nat.reduceAdd, Nat.reduceSub, Nat.reduceLeDiff, Nat.reduceEqDiff, Nat.reduceMul, Nat.reduceLT, Int.reduceLT, Int.reduceLE, Int.reduceEq, rsl_get, srcV_own, merge_own, drop_own, getD_own, CO.tmps, Opd.tmps, optT, Nat.reducePow, Nat.reduceDiv, Nat.reduceMod, f1, f2, f3, f4, f5, f6, T_Long, T_known, T_chk, T_cJoin, T_SameCloud, T_leq, HOk_own hh, mask_ownC hz, mask_ownQ hz, mask_ownQ0 hz, ne_eq, rsl_capOk, beq_self_eq_true, eq_self, ga, gb, gc, g, not_false_eq_true, decide_true]
    exact Bt.dropB _ hh rfl
  by_cases cb : checkR vb db = 0
  case neg =>
    have g := eq_false cb
    simp only [rep_0, rep_s, walkW, walkQ, ld_own, lda_own, st_own, sta_own, len_app, if_true, if_false, ↓reduceIte, Nat.reduceAdd, Nat.reduceSub, Nat.reduceLeDiff, Nat.reduceEqDiff, Nat.reduceMul, Nat.reduceLT, Int.reduceLT, Int.reduceLE, Int.reduceEq, rsl_get, srcV_own, merge_own, drop_own, getD_own, CO.tmps, Opd.tmps, optT, Nat.reducePow, Nat.reduceDiv, Nat.reduceMod, f1, f2, f3, f4, f5, f6, T_Long, T_known, T_chk, T_cJoin, T_SameCloud, T_leq, HOk_own hh, mask_ownC hz, mask_ownQ hz, mask_ownQ0 hz, ne_eq, rsl_capOk, beq_self_eq_true, eq_self, ga, gb, gc, ca, g, not_false_eq_true, decide_true]
    exact Bt.dropB _ hh rfl
  by_cases cc : checkR vc dc = 0
  case neg =>
    have g := eq_false cc
    simp only [rep_0, rep_s, walkW, walkQ, ld_own, lda_own, st_own, sta_own, len_app, if_true, if_false, ↓reduceIte, Nat.reduceAdd, Nat.reduceSub, Nat.reduceLeDiff, Nat.reduceEqDiff, Nat.reduceMul, Nat.reduceLT, Int.reduceLT, Int.reduceLE, Int.reduceEq, rsl_get, srcV_own, merge_own, drop_own, getD_own, CO.tmps, Opd.tmps, optT, Nat.reducePow, Nat.reduceDiv, Nat.reduceMod, f1, f2, f3, f4, f5, f6, T_Long, T_known, T_chk, T_cJoin, T_SameCloud, T_leq, HOk_own hh, mask_ownC hz, mask_ownQ hz, mask_ownQ0 hz, ne_eq, rsl_capOk, beq_self_eq_true, eq_self, ga, gb, gc, ca, cb, g, not_false_eq_true, decide_true]
    exact Bt.dropB _ hh rfl
  have na := nf_check ca
  have nb := nf_check cb
  have nc := nf_check cc
  have l1 := join_len na nb
  have l2 := join_len nb nc
  have l3 := join_len na na
  have l4 := join_len (join_nf na nb) nc
  have v1 := (join_nf na nb).rg.1
  have v2 := (join_nf nb nc).rg.1
  have v4 := (join_nf (join_nf na nb) nc).rg.1
  have va' := na.rg.1
  have e2 := join_comm na nb
  have e3 := join_self na
  have e5 := join_assoc na nb nc
  have x1 := (join_nf na nb).check (by omega)
  have x2 := (join_nf nb nc).check (by omega)
  have p2 := eq_true (leq_l na nb)
  have p3 := eq_true (leq_r na nb)
  have p1 := join_leq na nb
  generalize hW : joinO (joinO va vb da db).1 vc (joinO va vb da db).2 dc = W at *
  generalize hX : joinO va vb da db = X at *
  generalize hY : joinO vb vc db dc = Y at *
  have m1 : (X.2.length ≤ 4096) = True := eq_true (by omega)
  have m2 : (Y.2.length ≤ 4096) = True := eq_true (by omega)
  have m3 : (W.2.length ≤ 4096) = True := eq_true (by omega)
  have m4 : (da.length ≤ 4096) = True := eq_true (by omega)
  have q1 : (X.2.length ≤ 1000000) = True := eq_true (by omega)
  have q2 : (Y.2.length ≤ 1000000) = True := eq_true (by omega)
  have q3 : (W.2.length ≤ 1000000) = True := eq_true (by omega)
  have q4 : (da.length ≤ 1000000) = True := eq_true (by omega)
  have q5 : (X.1.length ≤ 1000000) = True := eq_true (by omega)
  have q6 : (Y.1.length ≤ 1000000) = True := eq_true (by omega)
  have q7 : (W.1.length ≤ 1000000) = True := eq_true (by omega)
  have q8 : (va.length ≤ 1000000) = True := eq_true (by omega)
  by_cases hP : X.1 = vb ∧ X.2 = db
  · have hR : (X.1 = vb ∧ X.2 = db) = True := eq_true hP
    have hp : leqP va da vb db = True := eq_true (p1.2 hP)
    simp only [rep_0, rep_s, walkW, walkQ, ld_own, lda_own, st_own, sta_own, len_app, if_true, if_false, ↓reduceIte, Nat.reduceAdd, Nat.reduceSub, Nat.reduceLeDiff, Nat.reduceEqDiff, Nat.reduceMul, Nat.reduceLT, Int.reduceLT, Int.reduceLE, Int.reduceEq, rsl_get, srcV_own, merge_own, drop_own, getD_own, CO.tmps, Opd.tmps, optT, Nat.reducePow, Nat.reduceDiv, Nat.reduceMod, f1, f2, f3, f4, f5, f6, T_Long, T_known, T_chk, T_cJoin, T_SameCloud, T_leq, HOk_own hh, mask_ownC hz, mask_ownQ hz, mask_ownQ0 hz, ne_eq, rsl_capOk, beq_self_eq_true, eq_self, ga, gb, gc, ca, cb, cc, hX, hY, hW, e2, e3, e5, x1, x2, p2, p3, m1, m2, m3, m4, q1, q2, q3, q4, q5, q6, q7, q8, k1, k2, k3, hR, hp]
    exact Bt.dropB _ hh rfl
  · have hR : (X.1 = vb ∧ X.2 = db) = False := eq_false hP
    have hp : leqP va da vb db = False := eq_false (fun z => hP (p1.1 z))
    simp only [rep_0, rep_s, walkW, walkQ, ld_own, lda_own, st_own, sta_own, len_app, if_true, if_false, ↓reduceIte, Nat.reduceAdd, Nat.reduceSub, Nat.reduceLeDiff, Nat.reduceEqDiff, Nat.reduceMul, Nat.reduceLT, Int.reduceLT, Int.reduceLE, Int.reduceEq, rsl_get, srcV_own, merge_own, drop_own, getD_own, CO.tmps, Opd.tmps, optT, Nat.reducePow, Nat.reduceDiv, Nat.reduceMod, f1, f2, f3, f4, f5, f6, T_Long, T_known, T_chk, T_cJoin, T_SameCloud, T_leq, HOk_own hh, mask_ownC hz, mask_ownQ hz, mask_ownQ0 hz, ne_eq, rsl_capOk, beq_self_eq_true, eq_self, ga, gb, gc, ca, cb, cc, hX, hY, hW, e2, e3, e5, x1, x2, p2, p3, m1, m2, m3, m4, q1, q2, q3, q4, q5, q6, q7, q8, k1, k2, k3, hR, hp]
    exact Bt.dropB _ hh rfl
end Go.Proofs.Ytnnkfhlmkaobfaa
end
