/- Part 10 of what the laws' proofs rest on. No condition. -/
import Derived.WalkLawsBesides
import Derived.Deep.QuietTactic
import Derived.BigQuiet
import Derived.Lib.Hide
import Derived.Deep.WholeRow
import Derived.Test.YthhghdebjiiliaaDoorPn9
set_option linter.all false
section
namespace Go.Proofs.YthhghdebjiiliaaDoor
open Go.RowKit
mutual
def AV.ren (f : Nat → Nat) : AV → AV
 | .p id off => .p (f id) off
 | .sl id off len cap k => .sl (f id) off len cap k
 | .f fn fst cap => .f fn (renL f fst) (renL f cap)
 | .ifc t v => .ifc t (v.ren f)
 | .ag l => .ag (renL f l)
 | .tu l => .tu (renL f l)
 | .y id => .y (f id)
 | .b x => .b x
 | .i k n => .i k n
 | .s l => .s l
 | .np => .np
 | .se => .se
 | .ns => .ns
 | .nf => .nf
 | .ni => .ni
 | .top => .top
def renL (f : Nat → Nat) : List AV → List AV
 | [] => []
 | a :: l => a.ren f :: renL f l
end
theorem z6l (f : Nat → Nat) : ∀ (l : List AV) (j : Nat), (renL f l)[j]? = (l[j]?).map (AV.ren f)
 | [], _ => by simp [renL]
 | a :: l, 0 => by simp [renL]
 | a :: l, j + 1 => by simp only [renL, List.getElem?_cons_succ]; exact z6l f l j
theorem QZj (f : Nat → Nat) : ∀ l : List AV, (renL f l).length = l.length
 | [] => rfl
 | _ :: l => by simp [renL, QZj f l]
theorem VR.ren_up {ρ ρ' : Mp} {f : Nat → Nat} (h : ∀ (i : Nat) x, ρ'[i]? = some x → ρ[f i]? = some x) {a : AV} {v : Value} (r : VR ρ' a v) : VR ρ (a.ren f) v := by
 have lst : ∀ {l : List AV} {cs : Array Value}, (∀ (j : Nat) a c, l[j]? = some a → cs[j]? = some c → VR ρ (a.ren f) c) → ∀ (j : Nat) a c, (renL f l)[j]? = some a → cs[j]? = some c → VR ρ a c := fun {l cs} ih j a c h1 h2 => by
  rw [z6l] at h1
  obtain ⟨b, hb, rfl⟩ := Option.map_eq_some_iff.1 h1
  exact ih j b c hb h2
 induction r with
 | b x => exact .b x
 | i k n => exact .i k n
 | s l bs h => exact .s l bs h
 | p id off b o n hρ => exact .p _ off b o n (h _ _ hρ)
 | np => exact .np
 | sl id off len cap k b o n cap' hρ h1 h2 h3 h4 h5 => exact .sl _ off len cap k b o n cap' (h _ _ hρ) h1 h2 h3 h4 h5
 | sz id off a c hc hn => exact .sz _ off a c hc hn
 | se a c hc => exact .se a c hc
 | ns => exact .ns
 | f fn fst cap fst' cap' h0 hl _ _ ih0 ih => exact .f fn _ _ fst' cap' (by rw [QZj]; exact h0) (by rw [QZj]; exact hl) (lst ih0) (lst ih)
 | nf => exact .nf
 | ifc t v v' _ ih => exact .ifc t _ v' ih
 | ni => exact .ni
 | ag l cs hl _ ih => exact .ag _ cs (by rw [QZj]; exact hl) (lst ih)
 | tu l cs hl _ ih => exact .tu _ cs (by rw [QZj]; exact hl) (lst ih)
 | top v => exact .top v
 | y id b o n hρ => exact .y _ b o n (h _ _ hρ)
mutual
theorem VR.ren_down {ρ ρ' : Mp} {f : Nat → Nat} {q : Nat → Bool} (hq : ∀ i, q i = true → ρ'[i]? = ρ[f i]?) : ∀ (a : AV), a.ok q = true → ∀ v, VR ρ (a.ren f) v → VR ρ' a v
 | .p id off, hok, v, h => by
  cases h with
  | p _ _ b o n hρ => exact .p id off b o n (by rw [hq id hok]; exact hρ)
 | .sl id off len cap k, hok, v, h => by
  cases h with
  | sl _ _ _ _ _ b o n cap' hρ h1 h2 h3 h4 h5 =>
   rcases YwI hok with ⟨rfl, rfl, rfl⟩ | hk
   ·exact .sz id off _ _ h3 (fun e => nomatch e)
   ·exact .sl id off len cap k b o n cap' (by rw [hq id hk]; exact hρ) h1 h2 h3 h4 h5
  | sz _ _ a c hc hn => exact .sz id off a c hc hn
 | .f fn fst cap, hok, v, h => by
  simp only [AV.ok, Bool.and_eq_true] at hok
  cases h with
  | f _ _ _ fst' cap' h0 hl hv0 hv =>
   rw [QZj] at h0 hl
   exact .f fn fst cap fst' cap' h0 hl
    (fun j a c ha hc => ZkD hq fst hok.1 j a c ha (hv0 j (a.ren f) c (by rw [z6l, ha]; rfl) hc))
    (fun j a c ha hc => ZkD hq cap hok.2 j a c ha (hv j (a.ren f) c (by rw [z6l, ha]; rfl) hc))
 | .ifc t a, hok, v, h => by
  simp only [AV.ok] at hok
  cases h with
  | ifc _ _ v' h' => exact .ifc t a v' (VR.ren_down hq a hok v' h')
 | .ag l, hok, v, h => by
  simp only [AV.ok] at hok
  cases h with
  | ag _ cs hl hv =>
   rw [QZj] at hl
   exact .ag l cs hl (fun j a c ha hc => ZkD hq l hok j a c ha (hv j (a.ren f) c (by rw [z6l, ha]; rfl) hc))
 | .tu l, hok, v, h => by
  simp only [AV.ok] at hok
  cases h with
  | tu _ cs hl hv =>
   rw [QZj] at hl
   exact .tu l cs hl (fun j a c ha hc => ZkD hq l hok j a c ha (hv j (a.ren f) c (by rw [z6l, ha]; rfl) hc))
 | .y id, hok, v, h => by
  cases h with
  | y _ b o n hρ => exact .y id b o n (by rw [hq id hok]; exact hρ)
 | .b x, _, v, h => by cases h; exact .b x
 | .i k n, _, v, h => by cases h; exact .i k n
 | .s l, _, v, h => by cases h with | s _ bs h => exact .s l bs h
 | .np, _, v, h => by cases h; exact .np
 | .se, _, v, h => by cases h with | se a c hc => exact .se a c hc
 | .ns, _, v, h => by cases h; exact .ns
 | .nf, _, v, h => by cases h; exact .nf
 | .ni, _, v, h => by cases h; exact .ni
 | .top, _, v, _ => .top v
theorem ZkD {ρ ρ' : Mp} {f : Nat → Nat} {q : Nat → Bool} (hq : ∀ i, q i = true → ρ'[i]? = ρ[f i]?) : ∀ (l : List AV), okL q l = true → ∀ (j : Nat) (a : AV) (c : Value), l[j]? = some a → VR ρ (a.ren f) c → VR ρ' a c
 | [], _, j, a, c, h, _ => by simp at h
 | x :: l, hok, 0, a, c, h, r => by
  simp only [okL, Bool.and_eq_true] at hok
  simp only [List.getElem?_cons_zero, Option.some.injEq] at h
  rw [← h] at r ⊢
  exact VR.ren_down hq x hok.1 c r
 | x :: l, hok, j + 1, a, c, h, r => by
  simp only [okL, Bool.and_eq_true] at hok
  exact ZkD hq l hok.2 j a c (by simpa using h) r
end
def AB.ren (f : Nat → Nat) : AB → AB
 | .blk fl m xs => .blk fl m (if fl then xs else renL f xs)
 | .lp st pd fr ps a b => .lp st pd (renL f fr) ps a b
 | .dead => .dead
 | .iter s pos => .iter s pos
theorem BR.ren_down {K : Code → CC → Prop} {ρ ρ' : Mp} {f : Nat → Nat} {q : Nat → Bool} (hq : ∀ i, q i = true → ρ'[i]? = ρ[f i]?) {w : World} {b o n : Nat} {B : AB} (hB : B.ok q = true) (h : BR K ρ w b o n (B.ren f)) : BR K ρ' w b o n B := by
 cases B with
 | dead => trivial
 | iter s pos => exact h
 | lp st pd fr ps asg bd =>
  obtain ⟨r, h1, h2, h3, h4, h5⟩ := h
  exact ⟨r, h1, h2, h3, ⟨by have := h4.1; rw [QZj] at this; exact this, fun j a c ha hc => VR.ren_down hq a (qGU.1 hB j a ha) c (h4.2 j (a.ren f) c (by rw [z6l, ha]; rfl) hc)⟩, h5⟩
 | blk fl m xs =>
  obtain ⟨cs, e, fz, h1, h2, h3, h4⟩ := h
  cases fl with
  | true => exact ⟨cs, e, fz, h1, h2, h3, h4⟩
  | false =>
   simp only [Bool.false_eq_true, if_false] at h3 h4
   rw [QZj] at h3
   exact ⟨cs, e, fz, h1, h2, h3, fun k a c ha hc => VR.ren_down hq a (qGU.1 hB k a ha) c (h4 k (a.ren f) c (by rw [z6l, ha]; rfl) hc)⟩
theorem BR.ren_up {K : Code → CC → Prop} {ρ ρ' : Mp} {f : Nat → Nat} (h : ∀ (i : Nat) x, ρ'[i]? = some x → ρ[f i]? = some x) {w : World} {b o n : Nat} {B : AB} (r : BR K ρ' w b o n B) : BR K ρ w b o n (B.ren f) := by
 cases B with
 | dead => trivial
 | iter s pos => exact r
 | lp st pd fr ps asg bd =>
  obtain ⟨l, h1, h2, h3, h4, h5⟩ := r
  refine ⟨l, h1, h2, h3, ⟨by rw [QZj]; exact h4.1, fun j a c ha hc => ?_⟩, h5⟩
  rw [z6l] at ha
  obtain ⟨b', hb', rfl⟩ := Option.map_eq_some_iff.1 ha
  exact (h4.2 j b' c hb' hc).ren_up h
 | blk fl m xs =>
  obtain ⟨cs, e, fz, h1, h2, h3, h4⟩ := r
  cases fl with
  | true => exact ⟨cs, e, fz, h1, h2, h3, h4⟩
  | false =>
   refine ⟨cs, e, fz, h1, h2, by simp only [Bool.false_eq_true, if_false, QZj]; exact h3, fun k a c ha hc => ?_⟩
   simp only [Bool.false_eq_true, if_false, z6l] at ha
   obtain ⟨b', hb', rfl⟩ := Option.map_eq_some_iff.1 ha
   exact (h4 k b' c hb' hc).ren_up h
section
variable {P : Program}
end
end Go.Proofs.YthhghdebjiiliaaDoor
end
section
namespace Go.Proofs.YthhghdebjiiliaaDoor
open Go.RowKit
section
variable {P : Program}
def Bt (P : Program) (p : Nat) (l : List AV) (h : List AB) (l' : List AV) (h' : List AB) : Prop :=
 ∀ ρ w cs, p ≤ h.length → Rel (KC P) ρ h w → VL ρ l cs → p ≤ h'.length ∧ ∃ ρ', VL ρ' l' cs ∧ Rel (KC P) ρ' h' w ∧ (∀ b, Own ρ' h' b → Own ρ h b) ∧ (∀ i b, At ρ' h' i b → ∃ j, At ρ h j b ∧ (i < p → j = i) ∧ (p ≤ i → p ≤ j)) ∧ ∀ i, i < p → ρ'[i]? = ρ[i]?
theorem Bt.trans {p : Nat} {l1 l2 l3 : List AV} {h1 h2 h3 : List AB} (a : Bt P p l1 h1 l2 h2) (c : Bt P p l2 h2 l3 h3) : Bt P p l1 h1 l3 h3 := by
 intro ρ w cs hp r v
 obtain ⟨p1, ρ1, v1, r1, o1, a1, f1⟩ := a ρ w cs hp r v
 obtain ⟨p2, ρ2, v2, r2, o2, a2, f2⟩ := c ρ1 w cs p1 r1 v1
 refine ⟨p2, ρ2, v2, r2, fun b h => o1 b (o2 b h), fun i b h => ?_, fun i hi => (f2 i hi).trans (f1 i hi)⟩
 obtain ⟨j, q1, q2, q3⟩ := a2 i b h
 obtain ⟨k, z1, z2, z3⟩ := a1 j b q1
 exact ⟨k, z1, fun hi => by have := q2 hi; subst this; exact z2 hi, fun hi => z3 (q3 hi)⟩
def Wk (a' a : AV) : Prop := ∀ ρ c, VR ρ a c → VR ρ a' c
def WkL : List AV → List AV → Prop
 | [], [] => True
 | a' :: l', a :: l => Wk a' a ∧ WkL l' l
 | _, _ => False
theorem WkL.vl : ∀ {l' l : List AV}, WkL l' l → ∀ {ρ : Mp} {cs : Array Value}, VL ρ l cs → VL ρ l' cs := by
 intro l' l h ρ cs v
 have key : ∀ (l' l : List AV), WkL l' l → l'.length = l.length ∧ ∀ (j : Nat) (a' : AV), l'[j]? = some a' → ∃ a, l[j]? = some a ∧ Wk a' a := by
  intro l'
  induction l' with
  | nil =>
   intro l h
   cases l with
   | nil => exact ⟨rfl, fun j a' h => by simp at h⟩
   | cons a l => exact h.elim
  | cons a' l' ih =>
   intro l h
   cases l with
   | nil => exact h.elim
   | cons a l =>
    obtain ⟨h1, h2⟩ := h
    obtain ⟨i1, i2⟩ := ih l h2
    refine ⟨by simp [i1], fun j b hb => ?_⟩
    cases j with
    | zero => cases hb; exact ⟨a, rfl, h1⟩
    | succ j => exact i2 j b hb
 obtain ⟨k1, k2⟩ := key l' l h
 refine ⟨k1.trans v.1, fun j a' c ha hc => ?_⟩
 obtain ⟨a, q1, q2⟩ := k2 j a' ha
 exact q2 ρ c (v.2 j a c q1 hc)
def selN (p : Nat) (sel : List Nat) (i : Nat) : Nat := if i < p then i else p + sel.getD (i - p) 0
theorem zj4 {p : Nat} {sel : List Nat} {i : Nat} (h : i < p) : selN p sel i = i := by simp [selN, h]
theorem JkB {p : Nat} {sel : List Nat} (k : Nat) : selN p sel (p + k) = p + sel.getD k 0 := by
 unfold selN
 rw [if_neg (by omega), Nat.add_sub_cancel_left]
theorem Wk.ren {p : Nat} {f : Nat → Nat} (hf : ∀ i, i < p → f i = i) {a : AV} (h : a.ok (fun i => decide (i < p)) = true) : Wk (a.ren f) a := by
 intro ρ c hv
 have h1 : VR (ρ.take p) a c := hv.agree (q := fun i => decide (i < p)) (fun i hi => by rw [List.getElem?_take, if_pos (by simpa using hi)]) h
 refine h1.ren_up fun i x hx => ?_
 rw [List.getElem?_take] at hx
 split at hx
 ·rename_i hi
  rw [hf i hi]
  exact hx
 ·cases hx
def BWk (q : Nat → Bool) (f : Nat → Nat) : AB → AB → Prop
 | .dead, _ => True
 | .blk true m' xs', .blk true m xs => (m' = true → m = true) ∧ xs' = xs
 | .blk false m' xs', .blk false m xs => (m' = true → m = true) ∧ okL q xs' = true ∧ WkL (renL f xs') xs
 | .iter t' p', .iter t p => t' = t ∧ p' = p
 | .lp st' pd' fr' ps' a' b', .lp st pd fr ps a b => (st' = st ∧ pd' = pd ∧ ps' = ps ∧ a' = a ∧ b' = b) ∧ okL q fr' = true ∧ WkL (renL f fr') fr
 | _, _ => False
theorem BWk.mut {q : Nat → Bool} {f : Nat → Nat} {B' B : AB} (h : BWk q f B' B) (hm : B'.mut = true) : B.mut = true := by
 cases B' with
 | dead => cases hm
 | blk fl' m' xs' => cases B <;> cases fl' <;> first | exact h.elim | (rename_i fl m xs; cases fl <;> first | exact h.elim | exact h.1 hm)
 | iter _ _ => cases B <;> first | rfl | (rename_i fl m xs; cases fl <;> exact h.elim) | exact h.elim
 | lp _ _ _ _ _ _ => cases B <;> first | rfl | (rename_i fl m xs; cases fl <;> exact h.elim) | exact h.elim
theorem BWk.live {q : Nat → Bool} {f : Nat → Nat} {B' B : AB} (h : BWk q f B' B) (hm : B'.live = true) : B.live = true := by
 cases B' with
 | dead => cases hm
 | blk fl' m' xs' => cases B <;> cases fl' <;> first | exact h.elim | rfl
 | iter _ _ => cases B <;> first | rfl | (rename_i fl m xs; cases fl <;> exact h.elim) | exact h.elim
 | lp _ _ _ _ _ _ => cases B <;> first | rfl | (rename_i fl m xs; cases fl <;> exact h.elim) | exact h.elim
theorem WkL.len : ∀ {a b : List AV}, WkL a b → a.length = b.length
 | [], [], _ => rfl
 | [], _ :: _, h => h.elim
 | _ :: _, [], h => h.elim
 | _ :: _, _ :: _, h => by simp [WkL.len h.2]
theorem BWk.br {ρ ρ' : Mp} {w : World} {b o n : Nat} {q : Nat → Bool} {f : Nat → Nat} (hq : ∀ i, q i = true → ρ'[i]? = ρ[f i]?) {B' B : AB} (h : BWk q f B' B) (r : BR (KC P) ρ w b o n B) : BR (KC P) ρ' w b o n B' := by
 cases B' with
 | dead => trivial
 | blk fl' m' xs' =>
  cases B with
  | blk fl m xs =>
   obtain ⟨cs, e, fz, h1, h2, h3, h4⟩ := r
   cases fl' <;> cases fl <;> first | exact h.elim | skip
   ·obtain ⟨g1, g2, g3⟩ := h
    have hl : xs'.length = xs.length := by
     have key : ∀ (a b : List AV), WkL a b → a.length = b.length := by
      intro a
      induction a with
      | nil => intro b h; cases b with
       | nil => rfl
       | cons _ _ => exact h.elim
      | cons x a ih => intro b h; cases b with
       | nil => exact h.elim
       | cons _ _ => simp [ih _ h.2]
     have := key _ _ g3
     rw [QZj] at this
     exact this
    refine ⟨cs, e, fz, h1, fun z => h2 (g1 z), by omega, fun k a c ha hc => ?_⟩
    have hk : k < xs.length := by have := (List.getElem?_eq_some_iff.1 ha).1; omega
    have hv : VL ρ xs ((cs.toList.drop o).take xs.length).toArray := by
     refine ⟨by simp; omega, fun j x c' hx hc' => h4 j x c' hx ?_⟩
     simp only [List.getElem?_toArray, List.getElem?_take, List.getElem?_drop, Array.getElem?_toList] at hc'
     split at hc'
     ·exact hc'
     ·cases hc'
    have hw := WkL.vl g3 hv
    refine VR.ren_down hq a (qGU.1 g2 k a ha) c (hw.2 k (a.ren f) c (by rw [z6l, ha]; rfl) ?_)
    simp only [List.getElem?_toArray, List.getElem?_take, List.getElem?_drop, Array.getElem?_toList, if_pos hk]
    exact hc
   ·obtain ⟨g1, rfl⟩ := h
    exact ⟨cs, e, fz, h1, fun z => h2 (g1 z), h3, h4⟩
  | dead => cases fl' <;> exact h.elim
  | iter _ _ => cases fl' <;> exact h.elim
  | lp _ _ _ _ _ _ => cases fl' <;> exact h.elim
 | iter _ _ =>
  cases B with
  | iter _ _ =>
   obtain ⟨rfl, rfl⟩ := h
   exact r
  | dead => exact h.elim
  | lp _ _ _ _ _ _ => exact h.elim
  | blk fl m xs => cases fl <;> exact h.elim
 | lp st' pd' fr' ps' a' b' =>
  cases B with
  | lp st pd fr ps a b =>
   obtain ⟨⟨rfl, rfl, rfl, rfl, rfl⟩, g2, g3⟩ := h
   obtain ⟨l, r1, r2, r3, r4, r5, r6, r7⟩ := r
   have hw := WkL.vl g3 r4
   have hlen := WkL.len g3
   rw [QZj] at hlen
   exact ⟨l, r1, r2, r3, ⟨hlen.trans r4.1, fun k x c hx hc => VR.ren_down hq x (qGU.1 g2 k x hx) c (hw.2 k (x.ren f) c (by rw [z6l, hx]; rfl) hc)⟩, r5, r6, r7⟩
  | dead => exact h.elim
  | iter _ _ => exact h.elim
  | blk fl m xs => cases fl <;> exact h.elim
def BlkSel (p : Nat) (sel : List Nat) (n : Nat) (l : List AB) : List Nat → List AB → Prop
 | [], [] => True
 | k :: ks, B' :: l' => (∃ B, l[k]? = some B ∧ BWk (fun i => decide (i < p + n)) (selN p sel) B' B) ∧ BlkSel p sel n l ks l'
 | _, _ => False
def FrSel (p : Nat) (sel : List Nat) (n : Nat) : List AV → List AV → Prop
 | [], [] => True
 | a :: l, a' :: l' => (a' = .top ∨ (a'.ok (fun i => decide (i < p + n)) = true ∧ Wk (a'.ren (selN p sel)) a)) ∧ FrSel p sel n l l'
 | _, _ => False
theorem BlkSel.get {p n : Nat} {sel : List Nat} {l : List AB} : ∀ {ks : List Nat} {l' : List AB}, BlkSel p sel n l ks l' → l'.length = ks.length ∧ ∀ (i : Nat) B', l'[i]? = some B' → ∃ k B, ks[i]? = some k ∧ l[k]? = some B ∧ BWk (fun i => decide (i < p + n)) (selN p sel) B' B
 | [], [], _ => ⟨rfl, fun i B' h => by simp at h⟩
 | [], _ :: _, h => h.elim
 | _ :: _, [], h => h.elim
 | k :: ks, B' :: l', h => by
  obtain ⟨⟨B, h1, h2⟩, h3⟩ := h
  obtain ⟨i1, i2⟩ := BlkSel.get h3
  refine ⟨by simp [i1], fun i C hC => ?_⟩
  cases i with
  | zero => cases hC; exact ⟨k, B, rfl, h1, h2⟩
  | succ i => simpa using i2 i C hC
theorem FrSel.get {p n : Nat} {sel : List Nat} : ∀ {l l' : List AV}, FrSel p sel n l l' → l'.length = l.length ∧ ∀ (i : Nat) a', l'[i]? = some a' → a' = .top ∨ (a'.ok (fun i => decide (i < p + n)) = true ∧ ∃ a, l[i]? = some a ∧ Wk (a'.ren (selN p sel)) a)
 | [], [], _ => ⟨rfl, fun i B' h => by simp at h⟩
 | [], _ :: _, h => h.elim
 | _ :: _, [], h => h.elim
 | a :: l, a' :: l', h => by
  obtain ⟨h1, h3⟩ := h
  obtain ⟨i1, i2⟩ := FrSel.get h3
  refine ⟨by simp [i1], fun i C hC => ?_⟩
  cases i with
  | zero => cases hC; exact h1.imp (fun z => z) (fun z => ⟨z.1, a, rfl, z.2⟩)
  | succ i => simpa using i2 i C hC
def HOk (h : List AB) : Prop := ∀ (i : Nat) B, h[i]? = some B → B.ok (fun i => decide (i < h.length)) = true
theorem Bt.selc {h l l' : List AB} {fr fr' : List AV} (n : Nat) (sel : List Nat) (hh : HOk h) (hc : ∀ i, i < n → sel[i]? = some i) (hup : ∀ (i k : Nat), n ≤ i → sel[i]? = some k → n ≤ k) (hn : n ≤ sel.length) (hnd : sel.Nodup) (hb : BlkSel h.length sel sel.length l sel l') (hfr : FrSel h.length sel sel.length fr fr') : Bt P (h.length + n) fr (h ++ l) fr' (h ++ l') := by
 intro ρ w cs hp r v
 obtain ⟨b1, b2⟩ := hb.get
 obtain ⟨f1, f2⟩ := hfr.get
 have hlt : ∀ (i k : Nat), sel[i]? = some k → k < l.length := fun i k hk => by
  have hi : i < l'.length := by rw [b1]; exact (List.getElem?_eq_some_iff.1 hk).1
  obtain ⟨k', B, q1, q2, _⟩ := b2 i l'[i] (List.getElem?_eq_getElem hi)
  rw [hk] at q1
  cases q1
  exact (List.getElem?_eq_some_iff.1 q2).1
 have hρ := r.len
 rw [List.length_append] at hρ
 let ρ' : Mp := ρ.take h.length ++ sel.map fun k => ρ.getD (h.length + k) (0, 0, 0)
 have old : ∀ i, i < h.length → ρ'[i]? = ρ[i]? := fun i hi => by
  simp only [ρ']
  rw [List.getElem?_append_left (by rw [List.length_take]; omega), List.getElem?_take, if_pos hi]
 have new : ∀ i k, sel[i]? = some k → ρ'[h.length + i]? = ρ[h.length + k]? := fun i k hk => by
  have := hlt i k hk
  simp only [ρ']
  rw [List.getElem?_append_right (by rw [List.length_take]; omega), List.length_take, show h.length + i - min h.length ρ.length = i by omega, List.getElem?_map, hk, Option.map_some, List.getD_eq_getElem?_getD, List.getElem?_eq_getElem (by omega : h.length + k < ρ.length)]
  rfl
 have hq : ∀ i, (fun i => decide (i < h.length + sel.length)) i = true → ρ'[i]? = ρ[selN h.length sel i]? := fun i hi => by
  by_cases h1 : i < h.length
  ·rw [zj4 h1, old i h1]
  ·obtain ⟨k, rfl⟩ : ∃ k, i = h.length + k := ⟨i - h.length, by omega⟩
   have hk : k < sel.length := by simp only [decide_eq_true_eq] at hi; omega
   rw [JkB, List.getD_eq_getElem?_getD, List.getElem?_eq_getElem hk]
   exact new k _ (List.getElem?_eq_getElem hk)
 have cls : ∀ i B', (h ++ l')[i]? = some B' → (i < h.length ∧ h[i]? = some B') ∨ (∃ j k B, i = h.length + j ∧ sel[j]? = some k ∧ (h ++ l)[h.length + k]? = some B ∧ BWk (fun i => decide (i < h.length + sel.length)) (selN h.length sel) B' B) := fun i B' hB => by
  rw [List.getElem?_append] at hB
  split at hB
  ·rename_i hlt'
   exact .inl ⟨hlt', hB⟩
  ·obtain ⟨k, B, q1, q2, q3⟩ := b2 _ B' hB
   refine .inr ⟨i - h.length, k, B, by omega, q1, ?_, q3⟩
   rw [List.getElem?_append_right (by omega), Nat.add_sub_cancel_left]
   exact q2
 have up : ∀ i B' x, (h ++ l')[i]? = some B' → ρ'[i]? = some x → ∃ j B, (h ++ l)[j]? = some B ∧ ρ[j]? = some x ∧ (B'.mut = true → B.mut = true) ∧ (B'.live = true → B.live = true) ∧ ((i < h.length ∧ j = i) ∨ (∃ i' k, i = h.length + i' ∧ sel[i']? = some k ∧ j = h.length + k)) := fun i B' x hB hx => by
  rcases cls i B' hB with ⟨hi, q⟩ | ⟨j, k, B, rfl, q1, q2, q3⟩
  ·exact ⟨i, B', by rw [List.getElem?_append_left hi]; exact q, by rw [← old i hi]; exact hx, id, id, .inl ⟨hi, rfl⟩⟩
  ·exact ⟨h.length + k, B, q2, by rw [← new j k q1]; exact hx, q3.mut, q3.live, .inr ⟨j, k, rfl, q1, rfl⟩⟩
 refine ⟨by rw [List.length_append, b1]; omega, ρ', ⟨f1.trans v.1, fun j a' c ha hc => ?_⟩, ⟨?_, fun i B' b o n hB hx => ?_, fun i j bi oi bj oj Bi Bj hne h1 h2 h3 h4 hm hl => ?_, r.gl.sub fun b ⟨i, B', o, h1, h2, h3⟩ => by
  obtain ⟨i', C, u1, u2, u3, _, _⟩ := up i B' _ h1 h3
  exact ⟨i', C, o, u1, u3 h2, u2⟩⟩, fun b ⟨i, B', o, h1, h2, h3⟩ => ?_, fun i b ⟨B', o, h1, h2, h3⟩ => ?_, fun i hi => ?_⟩
 ·rcases f2 j a' ha with rfl | ⟨q1, a, q2, q3⟩
  ·exact .top c
  ·exact VR.ren_down hq a' q1 c (q3 ρ c (v.2 j a c q2 hc))
 ·simp only [ρ', List.length_append, List.length_take, List.length_map, b1]
  omega
 ·rcases cls i B' hB with ⟨hi, q⟩ | ⟨j, k, B, rfl, q1, q2, q3⟩
  ·have := r.blk i B' b o n (by rw [List.getElem?_append_left hi]; exact q) (by rw [← old i hi]; exact hx)
   exact this.agree (q := fun i => decide (i < h.length)) (fun i hi => old i (by simpa using hi)) (hh i B' q) (fun _ => rfl)
  ·exact q3.br hq (r.blk _ B b o n q2 (by rw [← new j k q1]; exact hx))
 ·obtain ⟨i', Ci, u1, u2, u3, _, u5⟩ := up i Bi _ h1 h3
  obtain ⟨j', Cj, z1, z2, _, z4, z5⟩ := up j Bj _ h2 h4
  refine r.sep i' j' bi oi bj oj Ci Cj (fun e => hne ?_) u1 z1 u2 z2 (u3 hm) (z4 hl)
  subst e
  rcases u5 with ⟨x1, x2⟩ | ⟨s, k, x1, x2, x3⟩ <;> rcases z5 with ⟨y1, y2⟩ | ⟨t, m, y1, y2, y3⟩
  ·omega
  ·omega
  ·omega
  ·have : k = m := by omega
   subst this
   have := (List.getElem?_inj (List.getElem?_eq_some_iff.1 x2).1 hnd).1 (x2.trans y2.symm)
   omega
 ·obtain ⟨j, B, q1, q2, q3, _, _⟩ := up i B' _ h1 h3
  exact ⟨j, B, o, q1, q3 h2, q2⟩
 ·obtain ⟨j, B, q1, q2, _, q4, q5⟩ := up i B' _ h1 h3
  refine ⟨j, ⟨B, o, q1, q4 h2, q2⟩, fun hi => ?_, fun hi => ?_⟩
  ·rcases q5 with ⟨_, x⟩ | ⟨s, k, x, y, z⟩
   ·exact x
   ·have := hc s (by omega)
    rw [y] at this
    cases this
    omega
  ·rcases q5 with ⟨x, _⟩ | ⟨s, k, z, y, x⟩
   ·omega
   ·have := hup s k (by omega) y
    omega
 ·by_cases h1 : i < h.length
  ·exact old i h1
  ·obtain ⟨k, rfl⟩ : ∃ k, i = h.length + k := ⟨i - h.length, by omega⟩
   exact new k k (hc k (by omega))
theorem Bt.sel {h l l' : List AB} {fr fr' : List AV} (sel : List Nat) (hh : HOk h) (hnd : sel.Nodup) (hb : BlkSel h.length sel sel.length l sel l') (hfr : FrSel h.length sel sel.length fr fr') : Bt P h.length fr (h ++ l) fr' (h ++ l') :=
 Bt.selc 0 sel hh (fun i hi => by omega) (fun _ _ _ _ => Nat.zero_le _) (Nat.zero_le _) hnd hb hfr
end
end Go.Proofs.YthhghdebjiiliaaDoor
end
section
namespace Go.Proofs.YthhghdebjiiliaaDoor
open Go.RowKit
section
variable {P : Program}
variable {C : CO → List AV → List AB → AV → List AB → Prop}
structure Sm where
 C : CO → List AV → List AB → AV → List AB → Prop
 D : List DOp → (List AV → List AB → Prop) → List AV → List AB → Prop
variable {S : Sm}
end
end Go.Proofs.YthhghdebjiiliaaDoor
end
section
namespace Go.Proofs.YthhghdebjiiliaaDoor
open Go.RowKit
structure Con where
 n : Nat
 f : List AV → List AB → Option (AV × List AB)
 ws : List AV → List Nat := fun _ => []
abbrev Tab := List Con
def Tab.at : Tab → Nat → List AV → List AB → Option (AV × List AB)
 | [], _, _, _ => none
 | c :: l, g, a, h => if c.n = g then c.f a h else Tab.at l g a h
structure Env where
 fns : Tab
 rds : Tab
section
variable {P : Program}
end
inductive IT where
 | code (c : CC)
 | blk (id : Nat)
 | ops (l : List COper)
 | op (d : Option Nat) (r : Option (AV × List AB))
 | grd (v : AV) (t : Nat) (w : Bool) (d : Option Nat) (op : CO)
 | cnd (v : AV) (a b : CC)
 | drw (len0 k : Nat) (past : List Pt) (l : List DOp)
 | dgr (v : AV) (t : Nat) (w : Bool) (len0 k : Nat) (past : List Pt) (d : DOp) (l : List DOp)
 | dop (len0 k : Nat) (past : List Pt) (d : DOp) (l : List DOp)
 | dfr (r : Option (AV × List AB)) (len0 k anc : Nat) (past : List Pt) (d : Option Nat) (l : List DOp)
 | dld (r : Option (AV × List AB)) (x : AV) (len0 k anc : Nat) (past : List Pt) (d : Option Nat) (l : List DOp)
 | dmk (ws : List Nat) (vs : List AV) (r : Option (AV × List AB)) (len0 k anc : Nat) (past : List Pt) (d : Option Nat) (l : List DOp)
 | lpe (J : List AV → List AB → Prop)
structure Ctx where
 P : Program
 T : Env
 rb : Bool
 p : Nat
 K : XE → List AV → List AB → Prop
section
variable {c : Ctx} {k : List IT} {fr : List AV} {h : List AB}
variable {len0 n : Nat} {past : List Pt} {l : List DOp} {d : Option Nat} {anc us : Nat} {op : CO}
end
end Go.Proofs.YthhghdebjiiliaaDoor
end
section
namespace Go.Proofs.YthhghdebjiiliaaDoor
open Go.RowKit
section
variable {T : Env} {fr : List AV} {h : List AB}
def rdS (h : List AB) (sz : Nat) : AV → Option (Nat × List AV)
 | .ns | .se => some (0, [])
 | .sl id off len _ _ => if len = 0 then some (0, []) else (zz1 h id).bind fun xs => if off + len * sz ≤ xs.length then some (len, (xs.drop off).take (len * sz)) else none
 | _ => none
theorem Xvu {sz n : Nat} {s : AV} {cs : List AV} (e : rdS h sz s = some (n, cs)) : lenV s = some (n : Int) := by
 cases s with
 | sl id off len cap k =>
  simp only [rdS] at e
  split at e
  ·rename_i h0; subst h0; cases e; rfl
  ·obtain ⟨xs, _, e⟩ := Option.bind_eq_some_iff.1 e
   split at e
   ·cases e; rfl
   ·cases e
 | ns => cases e; rfl
 | se => cases e; rfl
 | _ => cases e
structure Row (α : Type) where
 f : α → List AV
 sz : Nat
 len : ∀ x, (f x).length = sz
 pos : 0 < sz
 d : α
 inj : ∀ x y, f x = f y → x = y
def Row.cells {α : Type} (r : Row α) (l : List α) : List AV := l.flatMap r.f
theorem Row.cells_inj {α : Type} (r : Row α) : ∀ (l l' : List α), l.length = l'.length → r.cells l = r.cells l' → l = l'
 | [], [], _, _ => rfl
 | [], _ :: _, h, _ => by simp at h
 | _ :: _, [], h, _ => by simp at h
 | a :: l, b :: l', h, e => by
  simp only [Row.cells, List.flatMap_cons] at e
  obtain ⟨e1, e2⟩ := List.append_inj e (by rw [r.len, r.len])
  rw [r.inj a b e1, Row.cells_inj r l l' (by simpa using h) e2]
def Rd {α : Type} (r : Row α) (h : List AB) (s : AV) (l : List α) : Prop := rdS h r.sz s = some (l.length, r.cells l) ∧ l.length ≤ maxLen
theorem Rd.len {α : Type} {r : Row α} {s : AV} {l : List α} (e : Rd r h s l) : lenV s = some (l.length : Int) := Xvu e.1
theorem Rd.inj {α : Type} {r : Row α} {s : AV} {l l' : List α} (e : Rd r h s l) (e' : Rd r h s l') : l = l' := by
 have := e.1.symm.trans e'.1
 simp only [Option.some.injEq, Prod.mk.injEq] at this
 exact r.cells_inj l l' this.1 this.2
open Classical in
noncomputable def getS {α : Type} (r : Row α) (h : List AB) (s : AV) : Option (List α) := if e : ∃ l, Rd r h s l then some e.choose else none
theorem Rd.get {α : Type} {r : Row α} {s : AV} {l : List α} (e : Rd r h s l) : getS r h s = some l := by
 unfold getS
 have hx : ∃ l, Rd r h s l := ⟨l, e⟩
 rw [dif_pos hx, hx.choose_spec.inj e]
theorem Rd.blk {α : Type} {r : Row α} {s : AV} {l : List α} (e : Rd r h s l) (n : Nat) (hn : n < l.length) : ∃ id off cap k xs, s = .sl id off l.length cap k ∧ zz1 h id = some xs ∧ off + l.length * r.sz ≤ xs.length ∧ (xs.drop off).take (l.length * r.sz) = r.cells l := by
 replace e := e.1
 have hl := Xvu e
 cases s with
 | sl id off len cap k =>
  simp only [lenV, Option.some.injEq, Int.natCast_inj] at hl
  subst hl
  simp only [rdS] at e
  rw [if_neg (by omega)] at e
  obtain ⟨xs, h1, e⟩ := Option.bind_eq_some_iff.1 e
  split at e
  ·rename_i h2
   simp only [Option.some.injEq, Prod.mk.injEq, true_and] at e
   exact ⟨id, off, cap, k, xs, rfl, h1, h2, e⟩
  ·cases e
 | ns => simp only [lenV, Option.some.injEq] at hl; omega
 | se => simp only [lenV, Option.some.injEq] at hl; omega
 | _ => cases e
theorem Rd.ok {α : Type} {r : Row α} {s : AV} {l : List α} (_ : Rd r h s l) {q q' : Nat → Bool} (ho : s.ok q = true) (hq : ∀ i, q i = true → q' i = true) : s.ok q' = true := AV.ok_mono hq s ho
end
end Go.Proofs.YthhghdebjiiliaaDoor
end
section
namespace Go.Proofs.YthhghdebjiiliaaDoor
open Go.RowKit
section
variable {T : Env} {fr : List AV} {h : List AB} {α : Type} {r : Row α}
theorem Bt.drop {P : Program} {h : List AB} {v a : AV} (L : List AB) (hh : HOk h) (e : v = a) (hok : v.ok (fun i => decide (i < h.length)) = true) : Bt P h.length [v] (h ++ L) [a] h := by
 subst e
 have := Bt.sel (P := P) (h := h) (l := L) (l' := []) (fr := [v]) (fr' := [v]) [] hh (by simp) trivial ⟨.inr ⟨hok, Wk.ren (fun i hi => zj4 hi) hok⟩, trivial⟩
 rw [List.append_nil] at this
 exact this
end
end Go.Proofs.YthhghdebjiiliaaDoor
end
section
namespace Go.Proofs.YthhghdebjiiliaaDoor
open Go.RowKit
structure Kept (S : Nat → Prop) (w w' : World) : Prop where
 os : w'.os = w.os
 tape : w'.tape = w.tape
 output : w'.output = w.output
 size : w.heap.size ≤ w'.heap.size
 block : ∀ k, k < w.heap.size → ¬ S k → w'.heap[k]? = w.heap[k]?
def NoS : Nat → Prop := fun _ => False
theorem Kept.trans {S : Nat → Prop} {a b c : World} (h : Kept S a b) (k : Kept S b c) : Kept S a c :=
 ⟨k.os.trans h.os, k.tape.trans h.tape, k.output.trans h.output, Nat.le_trans h.size k.size, fun i hi hn => (k.block i (Nat.lt_of_lt_of_le hi h.size) hn).trans (h.block i hi hn)⟩
theorem Kept.below {S : Nat → Prop} {B : Nat} {a b : World} (h : Kept S a b) (hB : B ≤ a.heap.size) (hs : ∀ k, k < a.heap.size → S k → B ≤ k) : Below B a b :=
 ⟨h.os, h.tape, h.output, h.size, fun k hk => h.block k (by omega) fun e => by have := hs k (by omega) e; omega⟩
def Blk (w : World) (b : Nat) (vs : Array Value) (e : TypeId) : Prop := w.heap[b]? = some (.cells vs e (0, 0))
theorem Blk.cell {w : World} {b : Nat} {vs : Array Value} {e : TypeId} (h : Blk w b vs e) (i : Nat) : w.cell? ⟨b, i, none⟩ = vs[i]? := by
 unfold Blk at h; simp [World.cell?, h]
theorem Blk.at {w : World} {b : Nat} {vs : Array Value} {e : TypeId} (h : Blk w b vs e) (i : Nat) {u : Value} (hu : vs[i]? = some u) : w.cell? ⟨b, i, none⟩ = some u := (h.cell i).trans hu
def Sl (w : World) (v : Value) (n : Nat) (cs : List Value) : Prop :=
 ((∃ a, v = .slice a 0 0) ∧ n = 0 ∧ cs = []) ∨
 ∃ b off cap, v = .slice (some ⟨b, off, none⟩) n cap ∧ n ≤ cap ∧ cap ≤ maxLen ∧ ∀ i u, cs[i]? = some u → w.cell? ⟨b, off + i, none⟩ = some u
theorem Sl.at {w : World} {v : Value} {n : Nat} {cs : List Value} (h : Sl w v n cs) : ∃ ao cap, v = .slice ao n cap ∧ n ≤ cap ∧ cap ≤ maxLen ∧ ∀ i u, cs[i]? = some u → ∃ b off, ao = some ⟨b, off, none⟩ ∧ w.cell? ⟨b, off + i, none⟩ = some u := by
 rcases h with ⟨⟨a, rfl⟩, rfl, rfl⟩ | ⟨b, off, cap, rfl, h1, h2, h3⟩
 ·exact ⟨a, 0, rfl, Nat.le_refl _, Nat.zero_le _, fun i u hu => by simp at hu⟩
 ·exact ⟨_, cap, rfl, h1, h2, fun i u hu => ⟨b, off, rfl, h3 i u hu⟩⟩
theorem Sl.get {w : World} {ao : Option Addr} {m cap n : Nat} {cs : List Value} (h : Sl w (.slice ao m cap) n cs) {i : Nat} {u : Value} (hu : cs[i]? = some u) : ∃ b off, ao = some ⟨b, off, none⟩ ∧ w.cell? ⟨b, off + i, none⟩ = some u := by
 obtain ⟨ao', cap', h1, _, _, h4⟩ := Sl.at h
 cases h1
 exact h4 i u hu
def RdI (w : World) (v : Value) (xs : List Int) : Prop := Sl w v xs.length (xs.map (Value.int .i64))
theorem RdI.at {w : World} {v : Value} {xs : List Int} (h : RdI w v xs) : ∃ ao cap, v = .slice ao xs.length cap ∧ xs.length ≤ cap ∧ cap ≤ maxLen ∧ ∀ i x, xs[i]? = some x → ∃ b off, ao = some ⟨b, off, none⟩ ∧ w.cell? ⟨b, off + i, none⟩ = some (.int .i64 x) := by
 obtain ⟨ao, cap, h1, h2, h3, h4⟩ := Sl.at h
 exact ⟨ao, cap, h1, h2, h3, fun i x hx => h4 i _ (by simp [hx])⟩
theorem RdI.get {w : World} {ao : Option Addr} {m cap : Nat} {xs : List Int} (h : RdI w (.slice ao m cap) xs) {i : Nat} {x : Int} (hx : xs[i]? = some x) : ∃ b off, ao = some ⟨b, off, none⟩ ∧ w.cell? ⟨b, off + i, none⟩ = some (.int .i64 x) :=
 Sl.get h (by simp [hx])
section
variable {P : Program} (w : World)
end
end Go.Proofs.YthhghdebjiiliaaDoor
end
section
namespace Go.Proofs.YthhghdebjiiliaaDoor
open Go.RowKit
structure In (K : Code → CC → Prop) (ρ : Mp) (h : List AB) (w : World) : Prop where
 rel : Rel K ρ h w
 frz : ∀ B ∈ h, B.mut = false
variable {K : Code → CC → Prop} {ρ : Mp} {h : List AB} {w : World}
theorem In.nil (w : World) (g0 : ∃ N, GG N w) : In K [] [] w := ⟨⟨rfl, fun i B b o n h => by simp at h, fun i j bi oi bj oj Bi Bj _ h => by simp at h, GL.nil g0⟩, fun B h => by simp at h⟩
theorem qTk {P : Program} {g : Nat} {az : List AV} {vals : Array Value} {h' : List AB} (i : In (KC P) ρ h w) (hv : VL ρ az vals) (e : FnC P g az h (.b true) h') : Calls P g vals w (fun e w' => e = .returned (.bool true) ∧ Kept NoS w w') := by
 refine (e.2 ρ w vals i.rel hv).mono ?_
 rintro e w' ⟨v', ρ', rfl, hva, _, heff⟩
 cases hva
 refine ⟨rfl, heff.os, heff.tape, heff.output.1, heff.size, fun b hb _ => heff.keep b hb fun ⟨j, B, o, h1, h2, _⟩ => ?_⟩
 rw [i.frz B (List.mem_of_getElem? h1)] at h2
 cases h2
end Go.Proofs.YthhghdebjiiliaaDoor
end
