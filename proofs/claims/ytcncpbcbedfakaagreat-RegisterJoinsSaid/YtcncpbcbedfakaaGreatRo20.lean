/- Part 20 of what the laws' proofs rest on. No condition. -/
import Derived.Test.YtcncpbcbedfakaaGreatRo19
set_option linter.all false
section
namespace Go.Proofs.YtcncpbcbedfakaaGreat
theorem YtY (a b : Int × Int) : cmpD a b < 0 ↔ JaS a b := by
 obtain ⟨a1, a2⟩ := a
 obtain ⟨b1, b2⟩ := b
 simp only [cmpD, cmpI, JaS]
 repeat' split
 all_goals omega
theorem ZTI (a b : Int × Int) : cmpD a b = 0 ↔ a = b := by
 obtain ⟨a1, a2⟩ := a
 obtain ⟨b1, b2⟩ := b
 simp only [cmpD, cmpI, Prod.mk.injEq]
 repeat' split
 all_goals omega
theorem JXa (a : Int × Int) : ¬ JaS a a := by simp [JaS]
theorem q5V {a b c : Int × Int} (h : JaS a b) (k : JaS b c) : JaS a c := by simp only [JaS] at *; omega
theorem YZw (a b : Int × Int) : JaS a b ∨ a = b ∨ JaS b a := by
 obtain ⟨a1, a2⟩ := a
 obtain ⟨b1, b2⟩ := b
 simp only [JaS, Prod.mk.injEq]
 omega
def srtD (l : Dots) : Dots := l.mergeSort fun x y => !(decide (cmpD y x < 0))
theorem QL7 (l : Dots) : (srtD l).Perm l := List.mergeSort_perm l _
theorem KCT (l : Dots) (d : Int × Int) : d ∈ srtD l ↔ d ∈ l := (QL7 l).mem_iff
theorem Qv7 (l : Dots) : (srtD l).length = l.length := (QL7 l).length_eq
def YB1 (l : Dots) : Prop := l.Pairwise fun a b => ¬ JaS b a
def Rise (l : Dots) : Prop := l.Pairwise JaS
theorem qre (l : Dots) : YB1 (srtD l) := by
 have h := List.pairwise_mergeSort (le := fun x y : Int × Int => !(decide (cmpD y x < 0))) (fun a b c h1 h2 => ?_) (fun a b => ?_) l
 ·exact h.imp fun {a b} q => by simpa [YtY] using q
 ·simp only [Bool.not_eq_true', decide_eq_false_iff_not, YtY] at h1 h2 ⊢
  intro h3
  rcases YZw a b with q | q | q
  ·exact h2 (q5V h3 q)
  ·subst q; exact h2 h3
  ·exact h1 q
 ·simp only [Bool.or_eq_true, Bool.not_eq_true', decide_eq_false_iff_not, YtY]
  by_cases h1 : JaS b a
  ·exact .inr fun h2 => JXa _ (q5V h1 h2)
  ·exact .inl h1
theorem YVd : ∀ {l l' : Dots}, Rise l → Rise l' → (∀ d, d ∈ l ↔ d ∈ l') → l = l'
 | [], [], _, _, _ => rfl
 | [], b :: l', _, _, h => absurd ((h b).2 (.head _)) (by simp)
 | a :: l, [], _, _, h => absurd ((h a).1 (.head _)) (by simp)
 | a :: l, b :: l', h1, h2, h => by
  have r1 := List.pairwise_cons.1 h1
  have r2 := List.pairwise_cons.1 h2
  have e : a = b := by
   rcases List.mem_cons.1 ((h a).1 (.head _)) with q | q
   ·exact q
   ·rcases List.mem_cons.1 ((h b).2 (.head _)) with z | z
    ·exact z.symm
    ·exact absurd (q5V (r2.1 a q) (r1.1 b z)) (JXa _)
  subst e
  congr 1
  refine YVd r1.2 r2.2 fun d => ⟨fun hd => ?_, fun hd => ?_⟩
  ·rcases List.mem_cons.1 ((h d).1 (.tail _ hd)) with q | q
   ·subst q; exact absurd (r1.1 _ hd) (JXa _)
   ·exact q
  ·rcases List.mem_cons.1 ((h d).2 (.tail _ hd)) with q | q
   ·subst q; exact absurd (r2.1 _ hd) (JXa _)
   ·exact q
def zDd : Dots → Dots
 | [] => []
 | x :: l => if l.head? = some x then zDd l else x :: zDd l
theorem qlQ : ∀ (l : Dots) (d : Int × Int), d ∈ zDd l ↔ d ∈ l
 | [], d => Iff.rfl
 | x :: l, d => by
  unfold zDd
  split
  ·rename_i h
   rw [qlQ l d]
   have hx : x ∈ l := List.mem_of_mem_head? (by simpa using h)
   exact ⟨fun q => .tail _ q, fun q => by rcases List.mem_cons.1 q with rfl | q; exact hx; exact q⟩
  ·rw [List.mem_cons, List.mem_cons, qlQ l d]
theorem zZ6 : ∀ {l : Dots}, YB1 l → Rise (zDd l)
 | [], _ => List.Pairwise.nil
 | x :: l, h => by
  have r := List.pairwise_cons.1 h
  unfold zDd
  split
  ·exact zZ6 r.2
  ·rename_i hx
   refine List.pairwise_cons.2 ⟨fun d hd => ?_, zZ6 r.2⟩
   have hd' := (qlQ l d).1 hd
   rcases YZw x d with q | q | q
   ·exact q
   ·subst q
    cases l with
    | nil => cases hd'
    | cons y l' =>
     have hy : y ≠ x := fun e => hx (by rw [e]; rfl)
     rcases List.mem_cons.1 hd' with z | z
     ·exact absurd z.symm hy
     ·have h1 := (List.pairwise_cons.1 r.2).1 x z
      have h2 := r.1 y (.head _)
      rcases YZw x y with q | q | q
      ·exact absurd q h1
      ·exact absurd q.symm hy
      ·exact absurd q h2
   ·exact absurd q (r.1 d hd')
theorem Qsg : ∀ (l : Dots) (d : Int × Int) (i : Nat), i < Xvn l d → JaS (l.getD i dotR.d) d
 | l, d, i, h => (Zy4 l d dotR.d i (by omega) (by have := Xn6 l d; omega)).2 h
theorem YUL (l : Dots) (d : Int × Int) (h : Xvn l d < l.length) : ¬ JaS (l.getD (Xvn l d) dotR.d) d := fun q => by
 have := (Zy4 l d dotR.d _ (Nat.le_refl _) h).1 q
 omega
theorem XQ9 {l : Dots} (d x : Int × Int) : x ∈ layS l d ↔ x ∈ l ∨ x = d := by
 unfold layS
 split
 ·rename_i h
  refine ⟨.inl, fun q => q.elim id fun e => ?_⟩
  subst e
  have := h.2
  rw [List.getD_eq_getElem?_getD, List.getElem?_eq_getElem h.1] at this
  have hm := List.getElem_mem h.1
  simp only [Option.getD_some] at this
  rw [this] at hm
  exact hm
 ·unfold qqa
  conv => rhs; rw [← List.take_append_drop (Xvn l d) l]
  simp only [List.mem_append, List.mem_cons]
  constructor
  ·rintro (q | q | q)
   ·exact .inl (.inl q)
   ·exact .inr q
   ·exact .inl (.inr q)
  ·rintro ((q | q) | q)
   ·exact .inl q
   ·exact .inr (.inr q)
   ·exact .inr (.inl q)
theorem XwK {l : Dots} (h : Rise l) (d : Int × Int) : Rise (layS l d) := by
 unfold layS
 split
 ·exact h
 ·rename_i hn
  unfold qqa
  have h' := h
  rw [← List.take_append_drop (Xvn l d) l] at h'
  have h2 := List.pairwise_append.1 h'
  have a : ∀ x ∈ l.take (Xvn l d), JaS x d := fun x hx => by
   obtain ⟨i, hi, rfl⟩ := List.getElem_of_mem hx
   rw [List.length_take] at hi
   have := Qsg l d i (by omega)
   rw [List.getD_eq_getElem?_getD, List.getElem?_eq_getElem (by omega)] at this
   simpa using this
  have b : ∀ y ∈ l.drop (Xvn l d), JaS d y := fun y hy => by
   have hlt : Xvn l d < l.length := by
    rcases Nat.lt_or_ge (Xvn l d) l.length with q | q
    ·exact q
    ·rw [List.drop_eq_nil_of_le q] at hy; cases hy
   have hz := YUL l d hlt
   have hz2 : l.getD (Xvn l d) dotR.d ≠ d := fun e => hn ⟨hlt, e⟩
   have hz3 : JaS d (l.getD (Xvn l d) dotR.d) := by
    rcases YZw (l.getD (Xvn l d) dotR.d) d with q | q | q
    ·exact absurd q hz
    ·exact absurd q hz2
    ·exact q
   rw [List.drop_eq_getElem_cons hlt] at hy
   have e : l.getD (Xvn l d) dotR.d = l[Xvn l d] := by rw [List.getD_eq_getElem?_getD, List.getElem?_eq_getElem hlt]; rfl
   rw [e] at hz3
   rcases List.mem_cons.1 hy with rfl | hy
   ·exact hz3
   ·have := h2.2.1
    rw [List.drop_eq_getElem_cons hlt] at this
    exact q5V hz3 ((List.pairwise_cons.1 this).1 y hy)
  refine List.pairwise_append.2 ⟨h2.1, List.pairwise_cons.2 ⟨b, h2.2.1⟩, fun x hx y hy => ?_⟩
  rcases List.mem_cons.1 hy with rfl | hy
  ·exact a x hx
  ·exact q5V (a x hx) (b y hy)
theorem Zu3 : ∀ (ds l : Dots), Rise l → Rise (ds.foldl layS l) ∧ ∀ d, d ∈ ds.foldl layS l ↔ d ∈ l ∨ d ∈ ds
 | [], l, h => ⟨h, fun d => by simp⟩
 | x :: ds, l, h => by
  obtain ⟨h1, h2⟩ := Zu3 ds (layS l x) (XwK h x)
  refine ⟨h1, fun d => ?_⟩
  rw [List.foldl_cons, h2 d, XQ9, List.mem_cons, or_assoc]
theorem XQC (ds : Dots) : Rise (layR ds) := (Zu3 ds [] List.Pairwise.nil).1
theorem zfW (ds : Dots) (d : Int × Int) : d ∈ layR ds ↔ d ∈ ds := by
 unfold layR
 simpa using (Zu3 ds [] List.Pairwise.nil).2 d
theorem zcv (ds : Dots) : zDd (srtD ds) = layR ds :=
 YVd (zZ6 (qre ds)) (XQC ds) fun d => by rw [qlQ, KCT, zfW]
theorem Zex (l : Dots) (d x : Int × Int) : (l ++ [d]).getD ((l ++ [d]).length - 1) x = d := by
 rw [List.getD_eq_getElem?_getD, List.length_append, List.length_singleton, Nat.add_sub_cancel, List.getElem?_append_right (Nat.le_refl _), Nat.sub_self]
 rfl
theorem J54 (s : AbS) {d : Int × Int} (hd : qfE d) : absD (absD s d) d = absD s d := by
 by_cases h1 : d.2 ≤ vAt s.1 d.1
 ·have e : absD s d = s := by unfold absD; rw [if_pos h1]
  rw [e, e]
 ·by_cases h2 : d.2 = vAt s.1 d.1 + 1
  ·have e : absD s d = (QFM s.1 d, s.2) := by unfold absD; rw [if_neg h1, if_pos h2]
   rw [e]
   unfold absD
   rw [if_pos]
   rw [JxJ s.1 hd (by omega), if_pos rfl]
   exact Int.le_refl _
  ·by_cases h3 : s.2.length = 0 ∨ s.2.getD (s.2.length - 1) dotR.d ≠ d
   ·have e : absD s d = (s.1, s.2 ++ [d]) := by unfold absD; rw [if_neg h1, if_neg h2, if_pos h3]
    rw [e]
    unfold absD
    rw [if_neg h1, if_neg h2, if_neg]
    rw [Zex]
    simp
   ·have e : absD s d = s := by unfold absD; rw [if_neg h1, if_neg h2, if_neg h3]
    rw [e, e]
theorem qG8 : ∀ (l : Dots) (s : AbS), (∀ d ∈ l, qfE d) → absR s l = absR s (zDd l)
 | [], s, _ => rfl
 | x :: l, s, h => by
  unfold zDd
  have hl := fun d hd => h d (.tail _ hd)
  split
  ·rename_i hx
   cases l with
   | nil => cases hx
   | cons y l' =>
    have : y = x := by simpa using hx
    subst this
    rw [← qG8 _ s hl]
    simp only [absR, List.foldl_cons, J54 s (h y (.head _))]
  ·have := qG8 l (absD s x) hl
   simp only [absR, List.foldl_cons] at this ⊢
   exact this
def SimV (xs sn : List Int) : Prop := sn.length = 16 ∧ xs.length ≤ 16 ∧ ∀ i : Nat, i < 16 → vAt xs ((i + 1 : Nat) : Int) = sn.getD i 0
theorem simD {s : AbS} {t : List Int × Dots} (hv : SimV s.1 t.1) (h2 : s.2 = t.2) {d : Int × Int} (hd : qfE d) (hr : ∀ x ∈ s.2, JaS x d) : SimV (absD s d).1 (fmD t d).1 ∧ (absD s d).2 = (fmD t d).2 := by
 obtain ⟨i, hi⟩ : ∃ i : Nat, d.1 = ((i + 1 : Nat) : Int) := ⟨(d.1 - 1).toNat, by have := hd.1; omega⟩
 have hi2 : i < 16 := by have := hd.2.1; omega
 have e1 : (d.1 - 1).toNat = i := by omega
 have e2 := hv.2.2 i hi2
 unfold absD fmD
 rw [e1, ← e2, hi]
 by_cases h1 : d.2 ≤ vAt s.1 ((i + 1 : Nat) : Int)
 ·rw [if_pos h1, if_neg (by omega), if_neg (by omega)]
  exact ⟨hv, h2⟩
 ·rw [if_neg h1]
  by_cases h3 : d.2 = vAt s.1 ((i + 1 : Nat) : Int) + 1
  ·rw [if_pos h3, if_pos h3]
   refine ⟨⟨by simp [hv.1], ?_, fun j hj => ?_⟩, h2⟩
   ·have := zHW s.1 d
    have := hv.2.1
    simp only
    omega
   ·simp only
    rw [JxJ s.1 hd (by rw [hi]; omega), hi]
    rw [List.getD_eq_getElem?_getD, List.getElem?_set]
    by_cases hij : i = j
    ·subst hij
     rw [if_pos rfl, if_pos rfl, if_pos (by rw [hv.1]; exact hj)]
     exact h3
    ·rw [if_neg (by omega), if_neg hij, ← List.getD_eq_getElem?_getD]
     exact hv.2.2 j hj
  ·have h4 : s.2.length = 0 ∨ s.2.getD (s.2.length - 1) dotR.d ≠ d := by
    by_cases h0 : s.2.length = 0
    ·exact .inl h0
    ·refine .inr fun q => ?_
     have hlt : s.2.length - 1 < s.2.length := by omega
     rw [List.getD_eq_getElem?_getD, List.getElem?_eq_getElem hlt] at q
     have := hr _ (List.getElem_mem hlt)
     rw [show s.2[s.2.length - 1] = d from q] at this
     exact JXa _ this
   rw [if_neg h3, if_neg h3, if_pos h4, if_pos (show vAt s.1 ((i + 1 : Nat) : Int) < d.2 by omega)]
   exact ⟨hv, by simp only [h2]⟩
theorem ZBP (s : AbS) (d : Int × Int) : ∀ x ∈ (absD s d).2, x ∈ s.2 ∨ x = d := fun x hx => by
 unfold absD at hx
 split at hx
 ·exact .inl hx
 ·split at hx
  ·exact .inl hx
  ·split at hx
   ·simpa using hx
   ·exact .inl hx
theorem simR : ∀ (l : Dots) (s : AbS) (t : List Int × Dots), SimV s.1 t.1 → s.2 = t.2 → (∀ d ∈ l, qfE d) → Rise l → (∀ x ∈ s.2, ∀ d ∈ l, JaS x d) → SimV (absR s l).1 (l.foldl fmD t).1 ∧ (absR s l).2 = (l.foldl fmD t).2
 | [], s, t, hv, h2, _, _, _ => ⟨hv, h2⟩
 | d :: l, s, t, hv, h2, hd, hr, hx => by
  obtain ⟨q1, q2⟩ := simD hv h2 (hd d (.head _)) fun x h => hx x h d (.head _)
  have r := List.pairwise_cons.1 hr
  have := simR l (absD s d) (fmD t d) q1 q2 (fun y hy => hd y (.tail _ hy)) r.2 fun x h y hy => by
   rcases ZBP s d x h with z | z
   ·exact hx x z y (.tail _ hy)
   ·subst z; exact r.1 y hy
  simpa only [absR, List.foldl_cons] using this
def Trim (xs : List Int) : Prop := xs.length = 0 ∨ xs.getD (xs.length - 1) 0 ≠ 0
theorem zA3 : ∀ (xs : List Int) (n : Nat), n ≤ xs.length → Trim (xs.take (topI xs n))
 | xs, 0, _ => .inl (by simp [topI])
 | xs, n + 1, h => by
  unfold topI
  split
  ·exact zA3 xs n (by omega)
  ·rename_i hx
   refine .inr ?_
   have e : (xs.take (n + 1)).length = n + 1 := by rw [List.length_take]; omega
   rw [e, Nat.add_sub_cancel, List.getD_eq_getElem?_getD, List.getElem?_take, if_pos (by omega), ← List.getD_eq_getElem?_getD]
   exact hx
theorem qvZ : ∀ (xs : List Int) (n i : Nat), topI xs n ≤ i → i < n → xs.getD i 0 = 0
 | xs, 0, i, _, h => absurd h (Nat.not_lt_zero _)
 | xs, n + 1, i, h1, h2 => by
  unfold topI at h1
  split at h1
  ·rename_i hx
   by_cases hi : i = n
   ·subst hi; exact hx
   ·exact qvZ xs n i h1 (by omega)
  ·omega
theorem zBT (xs : List Int) : ∀ n, n ≤ xs.length → K01 xs n = xs.take (topI xs n)
 | 0, _ => by simp [K01, topI]
 | n + 1, h => by
  unfold K01 topI
  rw [show intR.d = (0 : Int) from rfl]
  split
  ·exact zBT xs n (by omega)
  ·rfl
theorem KTr (xs : List Int) (r : Int) : vAt (xs.take (topI xs xs.length)) r = vAt xs r := by
 have ht := Qvk xs xs.length
 have hl : (xs.take (topI xs xs.length)).length = topI xs xs.length := by rw [List.length_take]; omega
 by_cases h : r < 1 ∨ (xs.length : Int) < r
 ·rw [J6M _ _ h, J6M _ _ (by rw [hl]; omega)]
 ·obtain ⟨i, rfl⟩ : ∃ i : Nat, r = ((i + 1 : Nat) : Int) := ⟨(r - 1).toNat, by omega⟩
  rw [zJo xs i (by omega)]
  by_cases hi : i < topI xs xs.length
  ·rw [zJo _ i (by omega), List.getD_eq_getElem?_getD, List.getElem?_take, if_pos hi, ← List.getD_eq_getElem?_getD]
  ·rw [J6M _ _ (by rw [hl]; omega), qvZ xs xs.length i (by omega) (by omega)]
   rfl
theorem Xkv {xs ys : List Int} (hx : ∀ n ∈ xs, 0 ≤ n) (hy : ∀ n ∈ ys, 0 ≤ n) (tx : Trim xs) (ty : Trim ys) (h : ∀ r, vAt xs r = vAt ys r) : xs = ys := by
 have key : ∀ {xs ys : List Int}, (∀ n ∈ xs, 0 ≤ n) → Trim xs → (∀ r, vAt xs r = vAt ys r) → xs.length ≤ ys.length := fun {xs ys} hx tx h => by
  rcases Nat.lt_or_ge ys.length xs.length with q | q
  ·have h0 : xs.length ≠ 0 := by omega
   rcases tx with t | t
   ·exact absurd t h0
   ·have := h (((xs.length - 1) + 1 : Nat) : Int)
    rw [zJo xs _ (by omega), J6M ys _ (by omega)] at this
    have hm : xs.getD (xs.length - 1) 0 ∈ xs := by
     rw [List.getD_eq_getElem?_getD, List.getElem?_eq_getElem (by omega : xs.length - 1 < xs.length)]
     exact List.getElem_mem _
    have := hx _ hm
    omega
  ·exact q
 have l1 := key hx tx h
 have l2 := key hy ty fun r => (h r).symm
 refine List.ext_getElem (by omega) fun i h1 h2 => ?_
 have := h ((i + 1 : Nat) : Int)
 rw [zJo xs i h1, zJo ys i h2, List.getD_eq_getElem?_getD, List.getD_eq_getElem?_getD, List.getElem?_eq_getElem h1, List.getElem?_eq_getElem h2] at this
 have := hx _ (List.getElem_mem h1)
 have := hy _ (List.getElem_mem h2)
 simp only [Option.getD_some] at *
 omega
theorem YKH (xs ys : List Int) : ∀ n ∈ XU4 xs ys, 0 ≤ n := fun n hn => by
 simp only [XU4, jn, List.mem_map, List.mem_range] at hn
 obtain ⟨i, _, rfl⟩ := hn
 have := Qaf xs ((i + 1 : Nat) : Int)
 omega
theorem KmU (xs : List Int) (d : Int × Int) : ∀ n ∈ QFM xs d, 0 ≤ n := by
 unfold QFM
 split <;> exact YKH _ _
theorem XOa : ∀ (l : Dots) (s : AbS), (∀ n ∈ s.1, 0 ≤ n) → ∀ n ∈ (absR s l).1, 0 ≤ n
 | [], s, h => h
 | d :: l, s, h => by
  have := XOa l (absD s d) (by
   unfold absD
   split
   ·exact h
   ·split
    ·exact KmU _ _
    ·split <;> exact h)
  simpa only [absR, List.foldl_cons] using this
def bldO (v : List Int) (ds : Dots) : AbS := (K01 (absR (v, []) (srtD ds)).1 (absR (v, []) (srtD ds)).1.length, (absR (v, []) (srtD ds)).2)
theorem sim0 {v : List Int} (hl : v.length ≤ 16) (hp : ∀ n ∈ v, 0 ≤ n) {x : List Int} (hx : x.length ≤ 16) (hxv : ∀ r, vAt x r = vAt v r) : SimV x (YmQ v v.length) := by
 refine ⟨Zux v (Nat.le_refl _) hl, hx, fun i hi => ?_⟩
 rw [hxv]
 unfold YmQ
 rw [List.take_length]
 by_cases h : i < v.length
 ·rw [zJo v i h, List.getD_eq_getElem?_getD, List.getD_eq_getElem?_getD, List.getElem?_append_left h, List.getElem?_eq_getElem h]
  have := hp _ (List.getElem_mem h)
  simp only [Option.getD_some]
  omega
 ·rw [J6M v _ (by omega), List.getD_eq_getElem?_getD, List.getElem?_append_right (by omega), List.getElem?_replicate]
  split <;> rfl
theorem XIa {v x : List Int} {ds : Dots} (hr : qD3 v ds) (hx : x.length ≤ 16) (hp : ∀ n ∈ x, 0 ≤ n) (hxv : ∀ r, vAt x r = vAt v r) : bldO x ds = fmO v ds := by
 have hd : ∀ d ∈ srtD ds, qfE d := fun d hd => hr.2.2 d ((KCT ds d).1 hd)
 have e := qG8 (srtD ds) (x, []) hd
 rw [zcv] at e
 have hd2 : ∀ d ∈ layR ds, qfE d := fun d hd => hr.2.2 d (zyz ds d hd)
 obtain ⟨q1, q2⟩ := simR (layR ds) (x, []) (YmQ v v.length, []) (sim0 hr.1 (fun n hn => (hr.2.1 n hn).1) hx hxv) rfl hd2 (XQC ds) (fun y hy => by cases hy)
 have inv := KYS v hr.1 hr.2.1 hd2 (Nat.le_refl (layR ds).length)
 rw [List.take_length] at inv
 unfold bldO fmO
 rw [e]
 refine Prod.ext ?_ q2
 simp only
 have hpos := XOa (layR ds) (x, []) hp
 generalize hA : absR (x, []) (layR ds) = A at *
 have hF : (layR ds).foldl fmD (YmQ v v.length, []) = fmR v (layR ds) := rfl
 rw [hF] at q1
 generalize fmR v (layR ds) = F at *
 rw [zBT _ _ (Nat.le_refl _)]
 have t16 : topI F.1 16 = topI F.1 F.1.length := by rw [q1.1]
 rw [t16]
 refine Xkv (fun n hn => hpos n (List.mem_of_mem_take hn)) (fun n hn => ?_) (zA3 _ _ (Nat.le_refl _)) (zA3 _ _ (Nat.le_refl _)) fun r => ?_
 ·obtain ⟨k, hk, rfl⟩ := List.getElem_of_mem (List.mem_of_mem_take hn)
  have := (inv.2.2 k).1
  rw [List.getD_eq_getElem?_getD, List.getElem?_eq_getElem hk] at this
  exact this
 ·rw [KTr, KTr]
  by_cases h : r < 1 ∨ 16 < r
  ·rw [J6M _ _ (by have := q1.2.1; omega), J6M _ _ (by rw [q1.1]; omega)]
  ·obtain ⟨i, rfl⟩ : ∃ i : Nat, r = ((i + 1 : Nat) : Int) := ⟨(r - 1).toNat, by omega⟩
   rw [q1.2.2 i (by omega), zJo _ i (by rw [q1.1]; omega)]
   have := (inv.2.2 i).1
   omega
end Go.Proofs.YtcncpbcbedfakaaGreat
end
section
namespace Go.Proofs.YtcncpbcbedfakaaGreat
set_option maxRecDepth 100000
set_option maxHeartbeats 4000000
open Classical in
noncomputable def Z5i : List AV → List AB → Option (AV × List AB)
 | [s, .f (.func 99) [] []], h => (getS dotR h s).bind fun l => match idOf s with
   | [id] => if l.length ≤ 1000000 ∧ s = rsl dotR id l ∧ h[id]? = some (resB dotR true l) then some (.tu [], h.set id (resB dotR true (srtD l))) else none
   | _ => none
 | _, _ => none
def boxL : List AB → Nat → Option (AV × AV)
 | .blk false true [v, d] :: _, 0 => if v.isSl = true ∧ d.isSl = true then some (v, d) else none
 | _, 0 => none
 | [], _ => none
 | _ :: L, k + 1 => boxL L k
theorem Jw4 (v d : AV) (L : List AB) : boxL (.blk false true [v, d] :: L) 0 = if v.isSl = true ∧ d.isSl = true then some (v, d) else none := _root_.id rfl
theorem YGZ (B : AB) (L : List AB) (k : Nat) : boxL (B :: L) (k + 1) = boxL L k := by
 cases B with
 | blk fl m xs => cases fl <;> cases m <;> (match xs with | [] => rfl | [_] => rfl | [_, _] => rfl | _ :: _ :: _ :: _ => rfl)
 | _ => rfl
theorem q3K : ∀ (L : List AB) (k : Nat), KPY L k = boxL L k
 | [], k => by cases k <;> simp [KPY, boxL]
 | B :: L, 0 => by
  unfold KPY boxL
  simp only [List.getElem?_cons_zero]
  split <;> split <;> simp_all
 | B :: L, k + 1 => by
  rw [YGZ, ← q3K L k]
  unfold KPY
  simp only [List.getElem?_cons_succ]
theorem ZzE (h L : List AB) (k : Nat) : KPY (h ++ L) (h.length + k) = boxL L k := by
 rw [← q3K]
 unfold KPY
 rw [List.getElem?_append_right (by omega), Nat.add_sub_cancel_left]
theorem QXE (h L : List AB) (k : Nat) (v d : AV) : bx2 (h ++ L) (h.length + k) v d = h ++ L.set k (.blk false true [v, d]) := by
 unfold bx2
 rw [List.set_append_right _ _ (by omega), Nat.add_sub_cancel_left]
theorem KET (h L : List AB) (k : Nat) : (h ++ L)[h.length + k]? = L[k]? := by rw [List.getElem?_append_right (by omega), Nat.add_sub_cancel_left]
noncomputable def ZeZ : List AV → List AB → Option (AV × List AB)
 | [s, t], h => (getS intR h s).bind fun v => (getS dotR h t).bind fun ds => if ds.length ≤ 100000 then
   if qD3 v ds then
    if (fmO v ds).2.length ≤ 4096 then some (.tu [.ag [rsl intR h.length (fmO v ds).1, rsl dotR (h.length + 1) (fmO v ds).2], .i .i64 0], h ++ [resB intR true (fmO v ds).1, resB dotR true (fmO v ds).2])
    else some (.tu [.ag [.ns, .ns], .i .i64 10], h)
   else some (.tu [.ag [.ns, .ns], .i .i64 3], h)
  else none
 | _, _ => none
theorem zUt {h L : List AB} {a b : Nat} {V : List Int} {D : Dots} {e : AV} {n : Nat} (hh : HOk h) (hn : n ≤ V.length) (he : e.ok (fun i => decide (i < h.length + 2)) = true) (hre : ∀ f, e.ren f = e) (hab : a ≠ b) (ha : L[a]? = some (resB intR true V)) (hb : L[b]? = some (resB dotR true D)) :
  Bt Tryz.prog h.length [.tu [.ag [cutS (rsl intR (h.length + a) V) n, apS dotR (h.length + b) D], e]] (h ++ L) [.tu [.ag [rsl intR h.length (V.take n), apS dotR (h.length + 1) D], e]] (h ++ [resB intR true (V.take n), resB dotR true D]) := by
 have s1 : Bt Tryz.prog h.length [.tu [.ag [cutS (rsl intR (h.length + a) V) n, apS dotR (h.length + b) D], e]] (h ++ L) [.tu [.ag [cutS (rsl intR (h.length + 0) V) n, apS dotR (h.length + 1) D], e]] (h ++ [resB intR true V, resB dotR true D]) := by
  refine Bt.sel [a, b] hh (by simp [hab]) (by simp only [BlkSel, ha, hb, ZIg, Option.some.injEq, exists_eq_left', and_true]) ?_
  refine ⟨.inr ⟨?_, ?_⟩, trivial⟩
  ·simp only [AV.ok, okL, Bool.and_eq_true, Bool.and_true]
   exact ⟨⟨XHa _ _ _ (by simp), Ywb _ _ _ (by simp)⟩, he⟩
  ·simp only [AV.ren, renL, Qn5, Z2D, hre]
   rw [JRw, JRw]
   exact Wk.refl _
 refine s1.trans ?_
 have s2 := Bt.take (P := Tryz.prog) (p := h.length) (fr := [.tu [.ag [cutS (rsl intR (h.length + 0) V) n, apS dotR (h.length + 1) D], e]]) (h := h ++ [resB intR true V, resB dotR true D]) (i := h.length + 0) (n := n) (m := true) (l := V) (by rw [KET]; rfl) hn
 rw [List.set_append_right _ _ (by omega), Nat.add_sub_cancel_left] at s2
 refine s2.trans (Bt.wk ⟨?_, trivial⟩)
 intro ρ c hv
 cases hv with
 | tu l cs hl hv =>
  refine .tu _ cs hl fun j x c hx hc => ?_
  match j, hx with
  | 0, hx =>
   cases hx
   have h0 := hv 0 _ c rfl hc
   cases h0 with
   | ag l2 cs2 hl2 hv2 =>
    refine .ag _ cs2 hl2 fun j x c hx hc => ?_
    match j, hx with
    | 0, hx => cases hx; exact KTf (r := intR) _ hn _ _ (hv2 0 _ c rfl hc)
    | 1, hx => cases hx; exact hv2 1 _ c rfl hc
  | 1, hx => cases hx; exact hv 1 _ c rfl hc
theorem Zrr {h : List AB} {H : List AB} {V : AV} {id : Nat} {D : Dots} {e : AV} : Bt Tryz.prog h.length [.tu [.ag [V, apS dotR id D], e]] H [.tu [.ag [V, rsl dotR id D], e]] H := Bt.wk ⟨by
 intro ρ c hv
 cases hv with
 | tu l cs hl hv =>
  refine .tu _ cs hl fun j x c hx hc => ?_
  match j, hx with
  | 0, hx =>
   cases hx
   have h0 := hv 0 _ c rfl hc
   cases h0 with
   | ag l2 cs2 hl2 hv2 =>
    refine .ag _ cs2 hl2 fun j x c hx hc => ?_
    match j, hx with
    | 0, hx => cases hx; exact hv2 0 _ c rfl hc
    | 1, hx => cases hx; exact XIf (r := dotR) _ _ _ _ (hv2 1 _ c rfl hc)
  | 1, hx => cases hx; exact hv 1 _ c rfl hc, trivial⟩
theorem zrN {h L : List AB} {a b : Nat} {V : List Int} {D : Dots} {e : AV} {n : Nat} (hh : HOk h) (hn : n ≤ V.length) (he : e.ok (fun i => decide (i < h.length + 2)) = true) (hre : ∀ f, e.ren f = e) (hab : a ≠ b) (ha : L[a]? = some (resB intR true V)) (hb : L[b]? = some (resB dotR true D)) :
  Bt Tryz.prog h.length [.tu [.ag [cutS (rsl intR (h.length + a) V) n, apS dotR (h.length + b) D], e]] (h ++ L) [.tu [.ag [rsl intR h.length (V.take n), rsl dotR (h.length + 1) D], e]] (h ++ [resB intR true (V.take n), resB dotR true D]) := (zUt hh hn he hre hab ha hb).trans Zrr
theorem Zaa {v : List Int} {ds : Dots} (h : qD3 v ds) : (∀ n ∈ XU4 [] v, n ≤ 1048576) ∧ (XU4 [] v).length ≤ 16 ∧ (∀ r, vAt (XU4 [] v) r = vAt v r) := by
 refine ⟨fun n hn => ?_, by rw [qCY]; have := h.1; simp; omega, fun r => ?_⟩
 ·simp only [XU4, jn, List.mem_map, List.mem_range] at hn
  obtain ⟨i, _, rfl⟩ := hn
  rw [JP0]
  have := Ywy v (fun n hn => (h.2.1 n hn).2) ((i + 1 : Nat) : Int)
  omega
 ·rw [Y1z, JP0]
  have := Qaf v r
  omega
theorem Kb4 : ∀ (l : Dots) (s : AbS), (absR s l).1.length ≤ max s.1.length 16 ∧ (absR s l).2.length ≤ s.2.length + l.length
 | [], s => ⟨by simp only [absR, List.foldl_nil]; omega, by simp only [absR, List.foldl_nil]; omega⟩
 | d :: l, s => by
  have h1 := KYD s d
  have h2 := Kb4 l (absD s d)
  simp only [absR, List.foldl_cons, List.length_cons] at h2 ⊢
  omega
theorem qH7 (hS : Spec Tryz.prog 98 Z5i) : Spec Tryz.prog 58 ZeZ := by
 intro args h v h' e
 unfold ZeZ at e
 split at e
 ·rename_i s t
  obtain ⟨vs, hs, e⟩ := zZA e
  obtain ⟨ds, ht, e⟩ := zZA e
  split at e
  ·rename_i hl
   by_cases hr : qD3 vs ds
   ·rw [if_pos hr] at e
    have gr : qD3 vs ds = True := eq_true hr
    obtain ⟨n1, n2, n3⟩ := Zaa hr
    have hfm := XIa (x := XU4 [] vs) (ds := ds) hr n2 (YKH [] vs) n3
    have l16 := hr.1
    have gd : ∀ d ∈ srtD ds, qfE d := fun d hd => hr.2.2 d ((KCT ds d).1 hd)
    have gc : ((XU4 [] vs).length ≤ 100000 ∧ (srtD ds).length ≤ 100000 ∧ (∀ n ∈ XU4 [] vs, n ≤ 1048576) ∧ ∀ d ∈ srtD ds, qfE d) = True := eq_true ⟨by omega, by rw [Qv7]; exact hl, n1, gd⟩
    have g1 : (ds.length ≤ 1000000) = True := eq_true (by omega)
    have g2 : (vs.length ≤ 1000000) = True := eq_true (by omega)
    have g3 : (ds.length ≤ maxLen) = True := eq_true (by unfold maxLen; omega)
    have g4 : ((srtD ds).length ≤ maxLen) = True := eq_true (by rw [Qv7]; unfold maxLen; omega)
    have g5 : ((XU4 [] vs).length ≤ maxLen) = True := eq_true (by unfold maxLen; omega)
    have hfm1 : (fmO vs ds).1 = (absR (XU4 [] vs, []) (srtD ds)).1.take (topI (absR (XU4 [] vs, []) (srtD ds)).1 (absR (XU4 [] vs, []) (srtD ds)).1.length) := by
     rw [← hfm]
     exact zBT _ _ (Nat.le_refl _)
    have hfm2 : (fmO vs ds).2 = (absR (XU4 [] vs, []) (srtD ds)).2 := by rw [← hfm]; rfl
    have htr := zBT (absR (XU4 [] vs, []) (srtD ds)).1 (absR (XU4 [] vs, []) (srtD ds)).1.length (Nat.le_refl _)
    have hti := Qvk (absR (XU4 [] vs, []) (srtD ds)).1 (absR (XU4 [] vs, []) (srtD ds)).1.length
    rw [hfm1, hfm2] at e
    have g0 : (([] : List Int).length ≤ 1000000) = True := eq_true (Nat.zero_le _)
    have gsr : ∀ id, rsl dotR id ds = rsl dotR id (srtD ds) := fun id => by unfold rsl; rw [Qv7]
    have gA : ((absR (XU4 [] vs, []) (srtD ds)).1.length ≤ maxLen) = True := eq_true (by have := (Kb4 (srtD ds) (XU4 [] vs, [])).1; simp only at this; unfold maxLen; omega)
    have gB : ((absR (XU4 [] vs, []) (srtD ds)).2.length ≤ maxLen) = True := eq_true (by have := (Kb4 (srtD ds) (XU4 [] vs, [])).2; rw [Qv7] at this; simp only [List.length_nil] at this; unfold maxLen; omega)
    have hlen : (K01 (absR (XU4 [] vs, []) (srtD ds)).1 (absR (XU4 [] vs, []) (srtD ds)).1.length).length = topI (absR (XU4 [] vs, []) (srtD ds)).1 (absR (XU4 [] vs, []) (srtD ds)).1.length := by
     rw [htr, List.length_take]
     omega
    have FA : FnAt Tryz.prog 58 [s, t] h v h' := by
     refine FnAt.run (by kernel_rfl) (T := ⟨[⟨96, qPX, fun _ => []⟩, ⟨97, Ynx, fun _ => []⟩, ⟨98, Z5i, fun _ => []⟩, ⟨83, qMo, fun _ => []⟩, ⟨84, K1B, fun _ => []⟩, ⟨85, ZYT, fun _ => []⟩, ⟨86, JBs, fun _ => []⟩], []⟩) ⟨⟨Xg6, YHl, hS, QcX, Jkl, QxF, JpZ, trivial⟩, trivial⟩ Tryz.func58 sw58 fun ho hh => ?_
     simp only [XDC, Y8A, Bool.and_eq_true] at ho
     have f1 := hs.fx ho.1 (sz := 1) rfl
     have f2 := ht.fx ho.2.1 (sz := 2) rfl
     unfold w58
     by_cases hq : (absR (XU4 [] vs, []) (srtD ds)).1 = XU4 [] vs
     ·have gq := eq_true hq
      simp only [QhW, YqD, z18, Xq8, if_true, if_false, reduceIte, Nat.reduceAdd, Nat.reduceSub, Nat.reduceLeDiff, Nat.reduceEqDiff, Nat.reduceMul, Nat.reduceLT, Int.reduceLT, Int.reduceLE, Int.reduceEq, f1, f2, qPX, gr, Ynx, Z5i, qMo, g1, g2, g3, g4, g5, gc, gq, gA, gB, g0, ZzE, Jw4, YGZ, QXE, KET, Qqr, JZG, Kje, AV.isNs, zKf, nsSl, qPt]
      simp only [z18, Xq8, if_true, if_false, reduceIte, Nat.reduceAdd, Nat.reduceSub, Nat.reduceLeDiff, Nat.reduceEqDiff, Nat.reduceMul, Nat.reduceLT, Int.reduceLT, Int.reduceLE, Int.reduceEq, gsr, K1B, ZYT, JBs, g1, g2, g3, g4, g5, gc, gq, gA, gB, ZzE, Jw4, YGZ, QXE, KET, Qqr, JZG, Kje, AV.isNs, zKf, nsSl, qPt]
      refine ⟨fun q => q.elim, ?_⟩
      by_cases h6 : (fmO vs ds).2.length ≤ 4096
      ·have g6 : ((4096 : Int) < ((absR (XU4 [] vs, []) (srtD ds)).2.length : Int)) = False := eq_false (by rw [← hfm2]; omega)
       rw [hfm2] at h6
       rw [if_pos h6] at e
       cases e
       simp only [z18, Xq8, if_true, if_false, reduceIte, Nat.reduceAdd, Nat.reduceSub, Nat.reduceLeDiff, Nat.reduceEqDiff, Nat.reduceMul, Nat.reduceLT, Int.reduceLT, Int.reduceLE, Int.reduceEq, g6, J0D, JFu, QYK]
       rw [hq] at hlen hti ⊢
       rw [hlen]
       refine zrN (a := 3) (b := 4) hh hti ?_ (fun _ => ?_) (by decide) ?_ ?_ <;> rfl
      ·have g6 : ((4096 : Int) < ((absR (XU4 [] vs, []) (srtD ds)).2.length : Int)) = True := eq_true (by rw [← hfm2]; omega)
       rw [hfm2] at h6
       rw [if_neg h6] at e
       cases e
       simp only [z18, Xq8, if_true, if_false, reduceIte, Nat.reduceAdd, Nat.reduceSub, Nat.reduceLeDiff, Nat.reduceEqDiff, Nat.reduceMul, Nat.reduceLT, Int.reduceLT, Int.reduceLE, Int.reduceEq, g6, J0D, JFu, QYK]
       exact Bt.drop _ hh rfl (by simp [AV.ok, okL])
     ·have gq := eq_false hq
      simp only [QhW, YqD, z18, Xq8, if_true, if_false, reduceIte, Nat.reduceAdd, Nat.reduceSub, Nat.reduceLeDiff, Nat.reduceEqDiff, Nat.reduceMul, Nat.reduceLT, Int.reduceLT, Int.reduceLE, Int.reduceEq, f1, f2, qPX, gr, Ynx, Z5i, qMo, g1, g2, g3, g4, g5, gc, gq, gA, gB, g0, ZzE, Jw4, YGZ, QXE, KET, Qqr, JZG, Kje, AV.isNs, zKf, nsSl, qPt]
      simp only [z18, Xq8, if_true, if_false, reduceIte, Nat.reduceAdd, Nat.reduceSub, Nat.reduceLeDiff, Nat.reduceEqDiff, Nat.reduceMul, Nat.reduceLT, Int.reduceLT, Int.reduceLE, Int.reduceEq, gsr, K1B, ZYT, JBs, g1, g2, g3, g4, g5, gc, gq, gA, gB, ZzE, Jw4, YGZ, QXE, KET, Qqr, JZG, Kje, AV.isNs, zKf, nsSl, qPt]
      refine ⟨fun q => q.elim, ?_⟩
      by_cases h6 : (fmO vs ds).2.length ≤ 4096
      ·have g6 : ((4096 : Int) < ((absR (XU4 [] vs, []) (srtD ds)).2.length : Int)) = False := eq_false (by rw [← hfm2]; omega)
       rw [hfm2] at h6
       rw [if_pos h6] at e
       cases e
       simp only [z18, Xq8, if_true, if_false, reduceIte, Nat.reduceAdd, Nat.reduceSub, Nat.reduceLeDiff, Nat.reduceEqDiff, Nat.reduceMul, Nat.reduceLT, Int.reduceLT, Int.reduceLE, Int.reduceEq, g6, J0D, JFu, QYK]
       rw [hlen]
       refine zrN (a := 4) (b := 5) hh hti ?_ (fun _ => ?_) (by decide) ?_ ?_ <;> rfl
      ·have g6 : ((4096 : Int) < ((absR (XU4 [] vs, []) (srtD ds)).2.length : Int)) = True := eq_true (by rw [← hfm2]; omega)
       rw [hfm2] at h6
       rw [if_neg h6] at e
       cases e
       simp only [z18, Xq8, if_true, if_false, reduceIte, Nat.reduceAdd, Nat.reduceSub, Nat.reduceLeDiff, Nat.reduceEqDiff, Nat.reduceMul, Nat.reduceLT, Int.reduceLT, Int.reduceLE, Int.reduceEq, g6, J0D, JFu, QYK]
       exact Bt.drop _ hh rfl (by simp [AV.ok, okL])
    exact FA.c
   ·rw [if_neg hr] at e
    have gr : qD3 vs ds = False := eq_false hr
    cases e
    refine FnAt.c (FnAt.run (by kernel_rfl) (T := ⟨[⟨96, qPX, fun _ => []⟩], []⟩) ⟨⟨Xg6, trivial⟩, trivial⟩ Tryz.func58 sw58 fun ho hh => ?_)
    simp only [XDC, Y8A, Bool.and_eq_true] at ho
    have f1 := hs.fx ho.1 (sz := 1) rfl
    have f2 := ht.fx ho.2.1 (sz := 2) rfl
    unfold w58
    simp only [QhW, YqD, z18, Xq8, if_true, if_false, reduceIte, Nat.reduceAdd, Nat.reduceSub, Nat.reduceLeDiff, Nat.reduceEqDiff, Nat.reduceMul, Nat.reduceLT, Int.reduceLT, Int.reduceLE, Int.reduceEq, f1, f2, qPX, gr]
    exact ⟨Bt.drop _ hh rfl (by simp [AV.ok, okL]), fun q => q⟩
  ·cases e
 ·cases e
end Go.Proofs.YtcncpbcbedfakaaGreat
end
section
namespace Go.Proofs.YtcncpbcbedfakaaGreat
set_option maxRecDepth 100000
set_option maxHeartbeats 4000000
section
variable {P : Program} {h : List AB} {id n : Nat}
def topB (n : Nat) : AB := .blk true true (List.replicate n .top)
theorem Bt.top {p : Nat} {fr : List AV} {xs : List AV} (hi : h[id]? = some (.blk true true xs)) (hn : xs.length = n) : Bt P p fr h fr (h.set id (topB n)) := by
 refine Bt.less hi (fun ρ w b o m hb => ?_) (fun _ => rfl) (fun _ => rfl)
 obtain ⟨cs, e, fz, h1, h2, h3, _⟩ := hb
 refine ⟨cs, e, fz, h1, h2, by rw [List.length_replicate]; omega, fun k a c ha _ => ?_⟩
 rw [List.getElem?_replicate] at ha
 split at ha
 ·cases ha
  exact .top c
 ·cases ha
theorem JI9 (hid : id < h.length) (x : List AB) (o : Nat) (w : AV) (hw : w.one = true) (hf : wrOk true w = true) (ho : o < n) : stV (h.set id (topB n) ++ x) none (.p id o) w = some (h.set id (.blk true true (over (List.replicate n .top) o [w])) ++ x) := by
 have hb : (h.set id (.blk true true (List.replicate n .top)) ++ x)[id]? = some (.blk true true (List.replicate n .top)) := by
  rw [List.getElem?_append_left (by rw [List.length_set]; exact hid), List.getElem?_set_self hid]
 simp only [stV, hw, if_true, stB, topB, hb]
 rw [if_pos ⟨by simp; omega, by simp [hf]⟩]
 congr 1
 rw [List.set_append_left _ _ (by rw [List.length_set]; exact hid), List.set_set]
theorem ZwG (hid : id < h.length) (x : List AB) (o m : Nat) (l : List AV) (hl : l.length = m) (hf : l.all (wrOk true) = true) (ho : o + m ≤ n) : stV (h.set id (topB n) ++ x) (some m) (.p id o) (.ag l) = some (h.set id (.blk true true (over (List.replicate n .top) o l)) ++ x) := by
 have hb : (h.set id (.blk true true (List.replicate n .top)) ++ x)[id]? = some (.blk true true (List.replicate n .top)) := by
  rw [List.getElem?_append_left (by rw [List.length_set]; exact hid), List.getElem?_set_self hid]
 simp only [stV, hl, if_true, stB, topB, hb]
 rw [if_pos ⟨by simp; omega, hf⟩]
 congr 1
 rw [List.set_append_left _ _ (by rw [List.length_set]; exact hid), List.set_set]
theorem YJ8 {p : Nat} {fr fr' : List AV} (hid : id < h.length) (o : Nat) (l : List AV) (ho : o + l.length ≤ n) (hw : WkL fr' fr) : Bt P p fr (h.set id (.blk true true (over (List.replicate n .top) o l)) ++ []) fr' (h.set id (topB n) ++ []) := by
 rw [List.append_nil, List.append_nil]
 refine Bt.trans (Bt.wk hw) ?_
 have := Bt.top (P := P) (p := p) (fr := fr') (h := h.set id (.blk true true (over (List.replicate n .top) o l))) (id := id) (n := n) (xs := over (List.replicate n .top) o l) (by rw [List.getElem?_set_self hid]) (by rw [KIC _ _ _ (by simp; omega)]; simp)
 rwa [List.set_set] at this
theorem Yed {p : Nat} {fr fr' : List AV} {xs : List AV} (hi : h[id]? = some (.blk true true xs)) (hn : xs.length = n) (hw : WkL fr' fr) : Bt P p fr (h ++ []) fr' (h.set id (topB n) ++ []) := by
 rw [List.append_nil, List.append_nil]
 exact Bt.trans (Bt.wk hw) (Bt.top hi hn)
theorem J13 {p : Nat} {fr : List AV} (hid : id < h.length) : Bt P p fr (h.set id (topB n) ++ []) fr (h.set id .dead) := by
 rw [List.append_nil]
 have := Bt.less (P := P) (p := p) (fr := fr) (h := h.set id (topB n)) (i := id) (B := topB n) (B' := .dead) (by rw [List.getElem?_set_self hid]) (fun _ _ _ _ _ _ => trivial) (fun q => by cases q) (fun q => by cases q)
 rwa [List.set_set] at this
end
open Classical in
noncomputable def qPA {α : Type} (r : Row α) : List AV → List AB → Option (AV × List AB)
 | [s], h => if s.isNs = true then some (.tu [], h) else (getS r h s).bind fun l => match idOf s with
   | [id] => if s = rsl r id l ∧ h[id]? = some (resB r true l) ∧ l.length ≤ 1000000 then some (.tu [], h.set id .dead) else none
   | _ => none
 | _, _ => none
theorem XRV {h : List AB} {id : Nat} (e : h[id]? = some .dead) : h.set id .dead = h := by
 apply List.ext_getElem?
 intro j
 rw [List.getElem?_set]
 split
 ·rename_i hij
  subst hij
  first | rw [if_pos (List.getElem?_eq_some_iff.1 e).1, e] | rw [e]
 ·rfl
theorem zNI : Spec Tryz.prog 94 (qPA intR) := by
 intro args h v h' e
 unfold qPA at e
 split at e
 ·rename_i s
  split at e
  ·rename_i hns
   cases e
   cases s <;> first | (cases hns; done) | skip
   refine FnAt.c (FnAt.run (by kernel_rfl) (T := ⟨[], []⟩) ⟨trivial, trivial⟩ Tryz.func94 sw94 fun ho hh => ?_)
   unfold w94
   simp only [QhW, YqD, z18, Xq8, if_true, if_false, reduceIte, Nat.reduceAdd, Nat.reduceSub, Nat.reduceLeDiff, Nat.reduceEqDiff, Nat.reduceMul, Nat.reduceLT, Int.reduceLT, Int.reduceLE, Int.reduceEq]
   refine zXO (S := Unit) (fun _ => 0) (fun _ => [.ns] ++ tp 1 ++ [.i .i64 0] ++ tp 9) (fun _ => True) () trivial (by simp only [z18, Xq8, if_true, if_false, reduceIte, Nat.reduceAdd, Nat.reduceSub, Nat.reduceLeDiff, Nat.reduceEqDiff, Nat.reduceMul, Nat.reduceLT, Int.reduceLT, Int.reduceLE, Int.reduceEq]) fun _ _ => ?_
   simp only [z18, Xq8, if_true, if_false, reduceIte, Nat.reduceAdd, Nat.reduceSub, Nat.reduceLeDiff, Nat.reduceEqDiff, Nat.reduceMul, Nat.reduceLT, Int.reduceLT, Int.reduceLE, Int.reduceEq, Int.lt_irrefl, false_implies]
   exact Bt.eq rfl (List.append_nil h)
  ·obtain ⟨l, hs, e⟩ := zZA e
   split at e
   ·rename_i id hid
    split at e
    ·rename_i hc
     cases e
     obtain ⟨h1, h2, h3⟩ := hc
     have hlt := (List.getElem?_eq_some_iff.1 h2).1
     by_cases h0 : l.length = 0
     ·have e2 : h.set id .dead = h := XRV (by rw [h2]; unfold resB; rw [if_pos h0])
      rw [e2, h1]
      unfold rsl
      rw [if_pos h0]
      refine FnAt.c (FnAt.run (by kernel_rfl) (T := ⟨[], []⟩) ⟨trivial, trivial⟩ Tryz.func94 sw94 fun ho hh => ?_)
      unfold w94
      simp only [QhW, YqD, z18, Xq8, if_true, if_false, reduceIte, Nat.reduceAdd, Nat.reduceSub, Nat.reduceLeDiff, Nat.reduceEqDiff, Nat.reduceMul, Nat.reduceLT, Int.reduceLT, Int.reduceLE, Int.reduceEq]
      refine zXO (S := Unit) (fun _ => 0) (fun _ => [.sl id 0 0 0 (some 0)] ++ tp 1 ++ [.i .i64 0] ++ tp 9) (fun _ => True) () trivial (by simp only [z18, Xq8, if_true, if_false, reduceIte, Nat.reduceAdd, Nat.reduceSub, Nat.reduceLeDiff, Nat.reduceEqDiff, Nat.reduceMul, Nat.reduceLT, Int.reduceLT, Int.reduceLE, Int.reduceEq]) fun _ _ => ?_
      simp only [z18, Xq8, if_true, if_false, reduceIte, Nat.reduceAdd, Nat.reduceSub, Nat.reduceLeDiff, Nat.reduceEqDiff, Nat.reduceMul, Nat.reduceLT, Int.reduceLT, Int.reduceLE, Int.reduceEq, Int.natCast_zero, Int.lt_irrefl, false_implies, lenV]
      exact Bt.eq rfl (List.append_nil h)
     ·rw [h1]
      unfold rsl
      rw [if_neg h0]
      have hb : h[id]? = some (.blk true true (intR.cells l)) := by rw [h2]; unfold resB; rw [if_neg h0]
      refine FnAt.c (FnAt.run (by kernel_rfl) (T := ⟨[], []⟩) ⟨trivial, trivial⟩ Tryz.func94 sw94 fun ho hh => ?_)
      unfold w94
      simp only [QhW, YqD, z18, Xq8, if_true, if_false, reduceIte, Nat.reduceAdd, Nat.reduceSub, Nat.reduceLeDiff, Nat.reduceEqDiff, Nat.reduceMul, Nat.reduceLT, Int.reduceLT, Int.reduceLE, Int.reduceEq]
      refine q2X (S := Nat) (fun k => l.length - k) (fun k => [.sl id 0 l.length l.length (some intR.sz)] ++ tp 1 ++ [.i .i64 k] ++ tp 9) (fun _ => h.set id (topB l.length) ++ []) (fun k => k ≤ l.length) 0 (Nat.zero_le _) (Yed hb (by simp [Row.cells_len, K4b]) (by simp only [z18, Xq8, if_true, if_false, reduceIte, Nat.reduceAdd, Nat.reduceSub, Nat.reduceLeDiff, Nat.reduceEqDiff, Nat.reduceMul, Nat.reduceLT, Int.reduceLT, Int.reduceLE, Int.reduceEq])) fun k hk => ?_
      by_cases hlk : k < l.length
      ·have g1 : ((k : Int) < (l.length : Int)) = True := eq_true (by omega)
       have e1 : IntKind.i64.wrap ((k : Int) + 1) = ((k + 1 : Nat) : Int) := ZWo (by unfold In64; omega)
       have e3 := JI9 (n := l.length) hlt [] (0 + k * 1) (.i .i64 (-77)) rfl rfl (by omega)
       simp only [z18, Xq8, if_true, if_false, reduceIte, Nat.reduceAdd, Nat.reduceSub, Nat.reduceLeDiff, Nat.reduceEqDiff, Nat.reduceMul, Nat.reduceLT, Int.reduceLT, Int.reduceLE, Int.reduceEq, lenV, g1, e1, iadV, hlk, e3, false_implies]
       exact ⟨k + 1, by omega, by dsimp only; omega, YJ8 hlt _ _ (by simp; omega) (by simp only [z18, Xq8, if_true, if_false, reduceIte, Nat.reduceAdd, Nat.reduceSub, Nat.reduceLeDiff, Nat.reduceEqDiff, Nat.reduceMul, Nat.reduceLT, Int.reduceLT, Int.reduceLE, Int.reduceEq])⟩
      ·have g1 : ((k : Int) < (l.length : Int)) = False := eq_false (by omega)
       simp only [z18, Xq8, if_true, if_false, reduceIte, Nat.reduceAdd, Nat.reduceSub, Nat.reduceLeDiff, Nat.reduceEqDiff, Nat.reduceMul, Nat.reduceLT, Int.reduceLT, Int.reduceLE, Int.reduceEq, lenV, g1, false_implies]
       exact J13 hlt
    ·cases e
   ·cases e
 ·cases e
theorem ZcD : Spec Tryz.prog 95 (qPA dotR) := by
 intro args h v h' e
 unfold qPA at e
 split at e
 ·rename_i s
  split at e
  ·rename_i hns
   cases e
   cases s <;> first | (cases hns; done) | skip
   refine FnAt.c (FnAt.run (by kernel_rfl) (T := ⟨[], []⟩) ⟨trivial, trivial⟩ Tryz.func95 sw95 fun ho hh => ?_)
   unfold w95
   simp only [QhW, YqD, z18, Xq8, if_true, if_false, reduceIte, Nat.reduceAdd, Nat.reduceSub, Nat.reduceLeDiff, Nat.reduceEqDiff, Nat.reduceMul, Nat.reduceLT, Int.reduceLT, Int.reduceLE, Int.reduceEq]
   refine zXO (S := Unit) (fun _ => 0) (fun _ => [.ns] ++ tp 1 ++ [.i .i64 0] ++ tp 10) (fun _ => True) () trivial (by simp only [z18, Xq8, if_true, if_false, reduceIte, Nat.reduceAdd, Nat.reduceSub, Nat.reduceLeDiff, Nat.reduceEqDiff, Nat.reduceMul, Nat.reduceLT, Int.reduceLT, Int.reduceLE, Int.reduceEq]) fun _ _ => ?_
   simp only [z18, Xq8, if_true, if_false, reduceIte, Nat.reduceAdd, Nat.reduceSub, Nat.reduceLeDiff, Nat.reduceEqDiff, Nat.reduceMul, Nat.reduceLT, Int.reduceLT, Int.reduceLE, Int.reduceEq, Int.lt_irrefl, false_implies]
   exact Bt.eq rfl (List.append_nil h)
  ·obtain ⟨l, hs, e⟩ := zZA e
   split at e
   ·rename_i id hid
    split at e
    ·rename_i hc
     cases e
     obtain ⟨h1, h2, h3⟩ := hc
     have hlt := (List.getElem?_eq_some_iff.1 h2).1
     by_cases h0 : l.length = 0
     ·have e2 : h.set id .dead = h := XRV (by rw [h2]; unfold resB; rw [if_pos h0])
      rw [e2, h1]
      unfold rsl
      rw [if_pos h0]
      refine FnAt.c (FnAt.run (by kernel_rfl) (T := ⟨[], []⟩) ⟨trivial, trivial⟩ Tryz.func95 sw95 fun ho hh => ?_)
      unfold w95
      simp only [QhW, YqD, z18, Xq8, if_true, if_false, reduceIte, Nat.reduceAdd, Nat.reduceSub, Nat.reduceLeDiff, Nat.reduceEqDiff, Nat.reduceMul, Nat.reduceLT, Int.reduceLT, Int.reduceLE, Int.reduceEq]
      refine zXO (S := Unit) (fun _ => 0) (fun _ => [.sl id 0 0 0 (some 0)] ++ tp 1 ++ [.i .i64 0] ++ tp 10) (fun _ => True) () trivial (by simp only [z18, Xq8, if_true, if_false, reduceIte, Nat.reduceAdd, Nat.reduceSub, Nat.reduceLeDiff, Nat.reduceEqDiff, Nat.reduceMul, Nat.reduceLT, Int.reduceLT, Int.reduceLE, Int.reduceEq]) fun _ _ => ?_
      simp only [z18, Xq8, if_true, if_false, reduceIte, Nat.reduceAdd, Nat.reduceSub, Nat.reduceLeDiff, Nat.reduceEqDiff, Nat.reduceMul, Nat.reduceLT, Int.reduceLT, Int.reduceLE, Int.reduceEq, Int.natCast_zero, Int.lt_irrefl, false_implies, lenV]
      exact Bt.eq rfl (List.append_nil h)
     ·rw [h1]
      unfold rsl
      rw [if_neg h0]
      have hb : h[id]? = some (.blk true true (dotR.cells l)) := by rw [h2]; unfold resB; rw [if_neg h0]
      refine FnAt.c (FnAt.run (by kernel_rfl) (T := ⟨[], []⟩) ⟨trivial, trivial⟩ Tryz.func95 sw95 fun ho hh => ?_)
      unfold w95
      simp only [QhW, YqD, z18, Xq8, if_true, if_false, reduceIte, Nat.reduceAdd, Nat.reduceSub, Nat.reduceLeDiff, Nat.reduceEqDiff, Nat.reduceMul, Nat.reduceLT, Int.reduceLT, Int.reduceLE, Int.reduceEq]
      refine q2X (S := Nat) (fun k => l.length - k) (fun k => [.sl id 0 l.length l.length (some dotR.sz)] ++ tp 1 ++ [.i .i64 k] ++ tp 10) (fun _ => h.set id (topB (l.length * 2)) ++ []) (fun k => k ≤ l.length) 0 (Nat.zero_le _) (Yed hb (by simp [Row.cells_len, zKR]) (by simp only [z18, Xq8, if_true, if_false, reduceIte, Nat.reduceAdd, Nat.reduceSub, Nat.reduceLeDiff, Nat.reduceEqDiff, Nat.reduceMul, Nat.reduceLT, Int.reduceLT, Int.reduceLE, Int.reduceEq])) fun k hk => ?_
      by_cases hlk : k < l.length
      ·have g1 : ((k : Int) < (l.length : Int)) = True := eq_true (by omega)
       have e1 : IntKind.i64.wrap ((k : Int) + 1) = ((k + 1 : Nat) : Int) := ZWo (by unfold In64; omega)
       have e3 := ZwG (n := l.length * 2) hlt [] (0 + k * 2) 2 [.i .i64 (-7), .i .i64 0] rfl rfl (by omega)
       simp only [z18, Xq8, if_true, if_false, reduceIte, Nat.reduceAdd, Nat.reduceSub, Nat.reduceLeDiff, Nat.reduceEqDiff, Nat.reduceMul, Nat.reduceLT, Int.reduceLT, Int.reduceLE, Int.reduceEq, lenV, g1, e1, iadV, hlk, e3, false_implies]
       exact ⟨k + 1, by omega, by dsimp only; omega, YJ8 hlt _ _ (by simp only [List.length_cons, List.length_nil]; omega) (by simp only [z18, Xq8, if_true, if_false, reduceIte, Nat.reduceAdd, Nat.reduceSub, Nat.reduceLeDiff, Nat.reduceEqDiff, Nat.reduceMul, Nat.reduceLT, Int.reduceLT, Int.reduceLE, Int.reduceEq])⟩
      ·have g1 : ((k : Int) < (l.length : Int)) = False := eq_false (by omega)
       simp only [z18, Xq8, if_true, if_false, reduceIte, Nat.reduceAdd, Nat.reduceSub, Nat.reduceLeDiff, Nat.reduceEqDiff, Nat.reduceMul, Nat.reduceLT, Int.reduceLT, Int.reduceLE, Int.reduceEq, lenV, g1, false_implies]
       exact J13 hlt
    ·cases e
   ·cases e
 ·cases e
theorem KBN {h : List AB} (hh : HOk h) (i : Nat) : HOk (h.set i .dead) := by
 intro j B hB
 rw [List.length_set]
 rw [List.getElem?_set] at hB
 split at hB
 ·split at hB
  ·cases hB
   rfl
  ·cases hB
 ·exact hh j B hB
theorem Yzi {α : Type} {r : Row α} (h : List AB) : qPA r [.ns] h = some (.tu [], h) := rfl
theorem YmS {α : Type} {r : Row α} {h : List AB} {id : Nat} {l : List α} (hb : h[id]? = some (resB r true l)) (hl : l.length ≤ 1000000) (x : List AB) : qPA r [rsl r id l] (h ++ x) = some (.tu [], h.set id .dead ++ x) := by
 have hlt := (List.getElem?_eq_some_iff.1 hb).1
 have hb' : (h ++ x)[id]? = some (resB r true l) := by rw [List.getElem?_append_left hlt]; exact hb
 have hg : getS r (h ++ x) (rsl r id l) = some l := (K0f hb' (by unfold maxLen; omega)).get
 have hid : idOf (rsl r id l) = [id] := by unfold rsl; split <;> rfl
 have hn : (rsl r id l).isNs = false := by unfold rsl; split <;> rfl
 unfold qPA
 simp only [hn, Bool.false_eq_true, if_false, hg, Option.bind_some, hid, hb', hl, and_self, if_true]
 rw [List.set_append_left _ _ hlt]
open Classical in
noncomputable def XrY : List AV → List AB → Option (AV × List AB)
 | [.ag [.ns, .ns]], h => some (.tu [], h)
 | [.ag [s, t]], h => (getS intR h s).bind fun l => (getS dotR h t).bind fun m => match idOf s, idOf t with
   | [i], [j] => if s = rsl intR i l ∧ h[i]? = some (resB intR true l) ∧ t = rsl dotR j m ∧ h[j]? = some (resB dotR true m) ∧ i ≠ j ∧ l.length ≤ 1000000 ∧ m.length ≤ 1000000 then some (.tu [], (h.set i .dead).set j .dead) else none
   | _, _ => none
 | _, _ => none
theorem XpY : Spec Tryz.prog 55 XrY := by
 intro args h v h' e
 unfold XrY at e
 split at e
 ·cases e
  refine FnAt.c (FnAt.run (by kernel_rfl) (T := ⟨[⟨94, qPA intR, fun _ => []⟩, ⟨95, qPA dotR, fun _ => []⟩], []⟩) ⟨⟨zNI, ZcD, trivial⟩, trivial⟩ Tryz.func55 sw55 fun ho hh => ?_)
  unfold w55
  simp only [QhW, YqD, z18, Xq8, if_true, if_false, reduceIte, Nat.reduceAdd, Nat.reduceSub, Nat.reduceLeDiff, Nat.reduceEqDiff, Nat.reduceMul, Nat.reduceLT, Int.reduceLT, Int.reduceLE, Int.reduceEq, Yzi]
  exact Bt.drop _ hh rfl rfl
 ·rename_i s t hne
  obtain ⟨l, hs, e⟩ := zZA e
  obtain ⟨m, ht, e⟩ := zZA e
  split at e
  ·rename_i i j hi hj
   split at e
   ·rename_i hc
    cases e
    obtain ⟨h1, h2, h3, h4, h5, h6, h7⟩ := hc
    refine FnAt.c (FnAt.run (by kernel_rfl) (T := ⟨[⟨94, qPA intR, fun _ => []⟩, ⟨95, qPA dotR, fun _ => []⟩], []⟩) ⟨⟨zNI, ZcD, trivial⟩, trivial⟩ Tryz.func55 sw55 fun ho hh => ?_)
    have g1 := YmS h2 h6
    have g2 := YmS (r := dotR) (h := h.set i .dead) (id := j) (l := m) (by rw [List.getElem?_set_ne h5]; exact h4) h7
    subst h1 h3
    have lz : (h.set i .dead).length = h.length := List.length_set
    unfold w55
    simp only [QhW, YqD, z18, Qgl, if_true, if_false, reduceIte, Nat.reduceAdd, Nat.reduceSub, Nat.reduceLeDiff, Nat.reduceEqDiff, Nat.reduceMul, Nat.reduceLT, Int.reduceLT, Int.reduceLE, Int.reduceEq, g1, g2, lz]
    have b := Bt.drop (P := Tryz.prog) (v := .tu []) (a := .tu []) [.blk false true [rsl intR i l, rsl dotR j m]] (KBN (KBN hh i) j) rfl rfl
    rwa [List.length_set, List.length_set] at b
   ·cases e
  ·cases e
 ·cases e
end Go.Proofs.YtcncpbcbedfakaaGreat
end
section
namespace Go.Proofs.YtcncpbcbedfakaaGreat
section
variable {h : List AB} {p : Nat}
def bxc (h : List AB) (id : Nat) (cs : List AV) : List AB := h.set id (.blk false true cs)
theorem XWQ (id : Nat) (cs : List AV) : (bxc h id cs).length = h.length := List.length_set
theorem J3R {id : Nat} (hid : id < h.length) (cs : List AV) (x : List AB) : (bxc h id cs ++ x)[id]? = some (.blk false true cs) := by
 rw [List.getElem?_append_left (by rw [XWQ]; exact hid)]
 unfold bxc
 rw [List.getElem?_set_self hid]
theorem Jj8 {id : Nat} {cs : List AV} (hb : h[id]? = some (.blk false true cs)) : bxc h id cs = h := by
 unfold bxc
 refine List.ext_getElem? fun i => ?_
 rw [List.getElem?_set]
 split
 ·rename_i e
  subst e
  first | rw [if_pos (List.getElem?_eq_some_iff.1 hb).1, hb] | rw [hb]
 ·rfl
theorem Z11 {id : Nat} (hid : id < h.length) (cs : List AV) (x : List AB) (n o : Nat) : ldV (bxc h id cs ++ x) (some n) (.p id o) = if o + n ≤ cs.length then some (.ag ((cs.drop o).take n)) else none := by
 have rd : ZMj (bxc h id cs ++ x) id = some cs := by
  unfold ZMj
  rw [J3R hid]
 simp only [ldV, rd, Option.bind_some]
theorem X6h {id : Nat} (hid : id < h.length) (cs : List AV) (x : List AB) (n o : Nat) (vs : List AV) : stV (bxc h id cs ++ x) (some n) (.p id o) (.ag vs) = if vs.length = n ∧ o + vs.length ≤ cs.length ∧ vs.all (wrOk false) = true then some (bxc h id (over cs o vs) ++ x) else none := by
 simp only [stV, stB, J3R hid]
 by_cases h1 : vs.length = n
 ·rw [if_pos h1]
  by_cases h2 : o + vs.length ≤ cs.length ∧ vs.all (wrOk false) = true
  ·rw [if_pos h2, if_pos ⟨h1, h2⟩]
   congr 1
   rw [List.set_append_left _ _ (by rw [XWQ]; exact hid)]
   unfold bxc
   rw [List.set_set]
  ·rw [if_neg h2, if_neg fun q => h2 q.2]
 ·rw [if_neg h1, if_neg fun q => h1 q.1]
theorem QDs (hp : h.length = p) {id : Nat} (hid : id < h.length) (cs : List AV) (c anc n : Nat) (past : List Pt) (l : List AB) (hn : n = p + l.length) : XWq (seen (p + c) anc past n) [id] 0 (bxc h id cs ++ l) = bxc (h.map AB.freeze) id cs ++ mskL p c anc past [id] 0 l := by
 subst hp
 refine List.ext_getElem? fun i => ?_
 rw [Qbn, Nat.zero_add]
 by_cases hi : i < h.length
 ·rw [List.getElem?_append_left (by rw [XWQ]; exact hi), List.getElem?_append_left (by rw [XWQ, List.length_map]; exact hi)]
  unfold bxc
  by_cases e : i = id
  ·subst e
   rw [List.getElem?_set_self hi, List.getElem?_set_self (by rw [List.length_map]; exact hi), Option.map_some, if_pos (List.mem_singleton.2 rfl)]
  ·rw [List.getElem?_set_ne (Ne.symm e), List.getElem?_set_ne (Ne.symm e), List.getElem?_map, List.getElem?_eq_getElem hi, Option.map_some, Option.map_some, if_neg (by simpa using e), if_pos]
   exact List.mem_filter.2 ⟨List.mem_range.2 (by omega), YO5 (by omega)⟩
 ·have hne : i ≠ id := by omega
  have g1 : (bxc h id cs ++ l)[i]? = l[i - h.length]? := by rw [List.getElem?_append_right (by rw [XWQ]; omega), XWQ]
  have g2 : (bxc (h.map AB.freeze) id cs ++ mskL h.length c anc past [id] 0 l)[i]? = (mskL h.length c anc past [id] 0 l)[i - h.length]? := by rw [List.getElem?_append_right (by rw [XWQ, List.length_map]; omega), XWQ, List.length_map]
  rw [g1, g2, Q7b]
  cases hB : l[i - h.length]? with
  | none => rfl
  | some B =>
   have hlt := (List.getElem?_eq_some_iff.1 hB).1
   simp only [Option.map_some, Option.some.injEq, show h.length + (0 + (i - h.length)) = i by omega]
   rw [if_neg (by simpa using hne), if_neg (show ¬ memN i [id] = true by rw [Zss]; simpa using hne)]
   by_cases hq : qOk (h.length + c) 0 0 anc past i = true
   ·rw [if_pos hq, if_pos]
    exact List.mem_filter.2 ⟨List.mem_range.2 (by omega), hq⟩
   ·rw [if_neg hq, if_neg]
    exact fun q => hq (List.mem_filter.1 q).2
theorem q69 {id : Nat} (hid : id < h.length) (cs cs' : List AV) (G l : List AB) : ZWN [id] (bxc (h.map AB.freeze) id cs' ++ G) 0 (bxc h id cs ++ l) = bxc h id cs' ++ mrgL h.length [id] 0 G l := by
 refine List.ext_getElem? fun i => ?_
 rw [JEq, Nat.zero_add]
 by_cases hi : i < h.length
 ·have g1 : (bxc h id cs ++ l)[i]? = (bxc h id cs)[i]? := List.getElem?_append_left (by rw [XWQ]; exact hi)
  have g2 : (bxc (h.map AB.freeze) id cs' ++ G)[i]? = (bxc (h.map AB.freeze) id cs')[i]? := List.getElem?_append_left (by rw [XWQ, List.length_map]; exact hi)
  have g3 : (bxc h id cs' ++ mrgL h.length [id] 0 G l)[i]? = (bxc h id cs')[i]? := List.getElem?_append_left (by rw [XWQ]; exact hi)
  rw [if_pos (by rw [List.length_append, XWQ]; omega), g1, g2, g3]
  unfold bxc
  by_cases e : i = id
  ·subst e
   rw [if_pos (List.mem_singleton.2 rfl), List.getElem?_set_self (by rw [List.length_map]; exact hi), List.getElem?_set_self hi]
   rfl
  ·rw [if_neg (by simpa using e), List.getElem?_set_ne (Ne.symm e), List.getElem?_set_ne (Ne.symm e)]
 ·have hne : i ≠ id := by omega
  have g1 : (bxc h id cs ++ l)[i]? = l[i - h.length]? := by rw [List.getElem?_append_right (by rw [XWQ]; omega), XWQ]
  have g2 : (bxc (h.map AB.freeze) id cs' ++ G)[i]? = G[i - h.length]? := by rw [List.getElem?_append_right (by rw [XWQ, List.length_map]; omega), XWQ, List.length_map]
  have g3 : (bxc h id cs' ++ mrgL h.length [id] 0 G l)[i]? = (mrgL h.length [id] 0 G l)[i - h.length]? := by rw [List.getElem?_append_right (by rw [XWQ]; omega), XWQ]
  rw [g1, g2, g3, qEm, List.length_append, XWQ]
  by_cases hl : i - h.length < l.length
  ·rw [if_pos hl, if_pos (by omega), if_neg (by simpa using hne), if_neg (show ¬ h.length + (0 + (i - h.length)) ∈ [id] by rw [List.mem_singleton]; omega)]
  ·rw [if_neg hl, if_neg (by omega)]
theorem zC6 {id : Nat} (hid : id < h.length) (cs : List AV) (G : List AB) : (bxc h id cs ++ G).getD id .dead = .blk false true cs := by
 rw [List.getD_eq_getElem?_getD, J3R hid]
 rfl
theorem KEu (id : Nat) (cs : List AV) (l : List AB) : (bxc h id cs ++ l).length = h.length + l.length := by rw [List.length_append, XWQ]
theorem zed (id : Nat) (cs : List AV) (l : List AB) (n : Nat) : (bxc h id cs ++ l).drop (h.length + n) = l.drop n := JYs (XWQ id cs) l n
theorem zpI {id : Nat} (hid : id < h.length) (hh : HOk h) (cs : List AV) (x : List AB) : HOk (bxc h id cs ++ x) = ((okL (fun i => decide (i < h.length + x.length)) cs && x.all fun B => B.ok (fun i => decide (i < h.length + x.length))) = true) := by
 refine propext ⟨fun q => ?_, fun q i B hB => ?_⟩
 ·rw [Bool.and_eq_true]
  refine ⟨?_, List.all_eq_true.2 fun B hB => ?_⟩
  ·have := q id _ (J3R hid cs x)
   rw [KEu] at this
   exact this
  ·obtain ⟨j, hj, rfl⟩ := List.getElem_of_mem hB
   have := q (h.length + j) x[j] (by rw [List.getElem?_append_right (by rw [XWQ]; omega), XWQ, Nat.add_sub_cancel_left, List.getElem?_eq_getElem hj])
   rw [KEu] at this
   exact this
 ·rw [KEu]
  rw [Bool.and_eq_true] at q
  obtain ⟨q1, q2⟩ := q
  by_cases hi : i < h.length
  ·rw [List.getElem?_append_left (by rw [XWQ]; exact hi)] at hB
   unfold bxc at hB
   rw [List.getElem?_set] at hB
   split at hB
   ·rename_i e
    subst e
    first | rw [if_pos hid] at hB | skip
    cases hB
    exact q1
   ·exact AB.ok_mono (fun i hi => by simp only [decide_eq_true_eq] at hi ⊢; omega) B (hh i B hB)
  ·rw [List.getElem?_append_right (by rw [XWQ]; omega), XWQ] at hB
   exact List.all_eq_true.1 q2 B (List.mem_of_getElem? hB)
end
end Go.Proofs.YtcncpbcbedfakaaGreat
end
