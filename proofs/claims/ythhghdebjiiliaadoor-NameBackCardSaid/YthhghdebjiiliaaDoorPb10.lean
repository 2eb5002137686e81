/- Part 10 of what the laws' proofs rest on. No condition. -/
import Derived.Test.YthhghdebjiiliaaDoorPb9
set_option linter.all false
section
namespace Go.Proofs.YthhghdebjiiliaaDoor
open Go.RowKit
mutual
def AV.ren (f : Nat → Nat) : AV → AV
 | .p id off => .p (f id) off
 | .sl id off len cap k => .sl (f id) off len cap k
 | .f fn fst cap => .f fn (renL f fst) (renL f cap)
 | .ifc t v => .ifc t (v.ren f)
 | .ag l => .ag (renL f l)
 | .tu l => .tu (renL f l)
 | .y id => .y (f id)
 | .b x => .b x
 | .i k n => .i k n
 | .s l => .s l
 | .np => .np
 | .se => .se
 | .ns => .ns
 | .nf => .nf
 | .ni => .ni
 | .top => .top
def renL (f : Nat → Nat) : List AV → List AV
 | [] => []
 | a :: l => a.ren f :: renL f l
end
theorem Xf9 (f : Nat → Nat) : ∀ (l : List AV) (j : Nat), (renL f l)[j]? = (l[j]?).map (AV.ren f)
 | [], _ => by simp [renL]
 | a :: l, 0 => by simp [renL]
 | a :: l, j + 1 => by simp only [renL, List.getElem?_cons_succ]; exact Xf9 f l j
theorem YL8 (f : Nat → Nat) : ∀ l : List AV, (renL f l).length = l.length
 | [] => rfl
 | _ :: l => by simp [renL, YL8 f l]
theorem VR.ren_up {ρ ρ' : Mp} {f : Nat → Nat} (h : ∀ (i : Nat) x, ρ'[i]? = some x → ρ[f i]? = some x) {a : AV} {v : Value} (r : VR ρ' a v) : VR ρ (a.ren f) v := by
 have lst : ∀ {l : List AV} {cs : Array Value}, (∀ (j : Nat) a c, l[j]? = some a → cs[j]? = some c → VR ρ (a.ren f) c) → ∀ (j : Nat) a c, (renL f l)[j]? = some a → cs[j]? = some c → VR ρ a c := fun {l cs} ih j a c h1 h2 => by
  rw [Xf9] at h1
  obtain ⟨b, hb, rfl⟩ := Option.map_eq_some_iff.1 h1
  exact ih j b c hb h2
 induction r with
 | b x => exact .b x
 | i k n => exact .i k n
 | s l bs h => exact .s l bs h
 | p id off b o n hρ => exact .p _ off b o n (h _ _ hρ)
 | np => exact .np
 | sl id off len cap k b o n cap' hρ h1 h2 h3 h4 h5 => exact .sl _ off len cap k b o n cap' (h _ _ hρ) h1 h2 h3 h4 h5
 | sz id off a c hc hn => exact .sz _ off a c hc hn
 | se a c hc => exact .se a c hc
 | ns => exact .ns
 | f fn fst cap fst' cap' h0 hl _ _ ih0 ih => exact .f fn _ _ fst' cap' (by rw [YL8]; exact h0) (by rw [YL8]; exact hl) (lst ih0) (lst ih)
 | nf => exact .nf
 | ifc t v v' _ ih => exact .ifc t _ v' ih
 | ni => exact .ni
 | ag l cs hl _ ih => exact .ag _ cs (by rw [YL8]; exact hl) (lst ih)
 | tu l cs hl _ ih => exact .tu _ cs (by rw [YL8]; exact hl) (lst ih)
 | top v => exact .top v
 | y id b o n hρ => exact .y _ b o n (h _ _ hρ)
mutual
theorem VR.ren_down {ρ ρ' : Mp} {f : Nat → Nat} {q : Nat → Bool} (hq : ∀ i, q i = true → ρ'[i]? = ρ[f i]?) : ∀ (a : AV), a.ok q = true → ∀ v, VR ρ (a.ren f) v → VR ρ' a v
 | .p id off, hok, v, h => by
  cases h with
  | p _ _ b o n hρ => exact .p id off b o n (by rw [hq id hok]; exact hρ)
 | .sl id off len cap k, hok, v, h => by
  cases h with
  | sl _ _ _ _ _ b o n cap' hρ h1 h2 h3 h4 h5 =>
   rcases QTf hok with ⟨rfl, rfl, rfl⟩ | hk
   ·exact .sz id off _ _ h3 (fun e => nomatch e)
   ·exact .sl id off len cap k b o n cap' (by rw [hq id hk]; exact hρ) h1 h2 h3 h4 h5
  | sz _ _ a c hc hn => exact .sz id off a c hc hn
 | .f fn fst cap, hok, v, h => by
  simp only [AV.ok, Bool.and_eq_true] at hok
  cases h with
  | f _ _ _ fst' cap' h0 hl hv0 hv =>
   rw [YL8] at h0 hl
   exact .f fn fst cap fst' cap' h0 hl
    (fun j a c ha hc => XiV hq fst hok.1 j a c ha (hv0 j (a.ren f) c (by rw [Xf9, ha]; rfl) hc))
    (fun j a c ha hc => XiV hq cap hok.2 j a c ha (hv j (a.ren f) c (by rw [Xf9, ha]; rfl) hc))
 | .ifc t a, hok, v, h => by
  simp only [AV.ok] at hok
  cases h with
  | ifc _ _ v' h' => exact .ifc t a v' (VR.ren_down hq a hok v' h')
 | .ag l, hok, v, h => by
  simp only [AV.ok] at hok
  cases h with
  | ag _ cs hl hv =>
   rw [YL8] at hl
   exact .ag l cs hl (fun j a c ha hc => XiV hq l hok j a c ha (hv j (a.ren f) c (by rw [Xf9, ha]; rfl) hc))
 | .tu l, hok, v, h => by
  simp only [AV.ok] at hok
  cases h with
  | tu _ cs hl hv =>
   rw [YL8] at hl
   exact .tu l cs hl (fun j a c ha hc => XiV hq l hok j a c ha (hv j (a.ren f) c (by rw [Xf9, ha]; rfl) hc))
 | .y id, hok, v, h => by
  cases h with
  | y _ b o n hρ => exact .y id b o n (by rw [hq id hok]; exact hρ)
 | .b x, _, v, h => by cases h; exact .b x
 | .i k n, _, v, h => by cases h; exact .i k n
 | .s l, _, v, h => by cases h with | s _ bs h => exact .s l bs h
 | .np, _, v, h => by cases h; exact .np
 | .se, _, v, h => by cases h with | se a c hc => exact .se a c hc
 | .ns, _, v, h => by cases h; exact .ns
 | .nf, _, v, h => by cases h; exact .nf
 | .ni, _, v, h => by cases h; exact .ni
 | .top, _, v, _ => .top v
theorem XiV {ρ ρ' : Mp} {f : Nat → Nat} {q : Nat → Bool} (hq : ∀ i, q i = true → ρ'[i]? = ρ[f i]?) : ∀ (l : List AV), okL q l = true → ∀ (j : Nat) (a : AV) (c : Value), l[j]? = some a → VR ρ (a.ren f) c → VR ρ' a c
 | [], _, j, a, c, h, _ => by simp at h
 | x :: l, hok, 0, a, c, h, r => by
  simp only [okL, Bool.and_eq_true] at hok
  simp only [List.getElem?_cons_zero, Option.some.injEq] at h
  rw [← h] at r ⊢
  exact VR.ren_down hq x hok.1 c r
 | x :: l, hok, j + 1, a, c, h, r => by
  simp only [okL, Bool.and_eq_true] at hok
  exact XiV hq l hok.2 j a c (by simpa using h) r
end
def AB.ren (f : Nat → Nat) : AB → AB
 | .blk fl m xs => .blk fl m (if fl then xs else renL f xs)
 | .lp st pd fr ps a b => .lp st pd (renL f fr) ps a b
 | .dead => .dead
 | .iter s pos => .iter s pos
theorem BR.ren_down {K : Code → CC → Prop} {ρ ρ' : Mp} {f : Nat → Nat} {q : Nat → Bool} (hq : ∀ i, q i = true → ρ'[i]? = ρ[f i]?) {w : World} {b o n : Nat} {B : AB} (hB : B.ok q = true) (h : BR K ρ w b o n (B.ren f)) : BR K ρ' w b o n B := by
 cases B with
 | dead => trivial
 | iter s pos => exact h
 | lp st pd fr ps asg bd =>
  obtain ⟨r, h1, h2, h3, h4, h5⟩ := h
  exact ⟨r, h1, h2, h3, ⟨by have := h4.1; rw [YL8] at this; exact this, fun j a c ha hc => VR.ren_down hq a (K7j.1 hB j a ha) c (h4.2 j (a.ren f) c (by rw [Xf9, ha]; rfl) hc)⟩, h5⟩
 | blk fl m xs =>
  obtain ⟨cs, e, fz, h1, h2, h3, h4⟩ := h
  cases fl with
  | true => exact ⟨cs, e, fz, h1, h2, h3, h4⟩
  | false =>
   simp only [Bool.false_eq_true, if_false] at h3 h4
   rw [YL8] at h3
   exact ⟨cs, e, fz, h1, h2, h3, fun k a c ha hc => VR.ren_down hq a (K7j.1 hB k a ha) c (h4 k (a.ren f) c (by rw [Xf9, ha]; rfl) hc)⟩
section
variable {P : Program}
end
end Go.Proofs.YthhghdebjiiliaaDoor
end
section
namespace Go.Proofs.YthhghdebjiiliaaDoor
open Go.RowKit
section
variable {P : Program}
def Bt (P : Program) (p : Nat) (l : List AV) (h : List AB) (l' : List AV) (h' : List AB) : Prop :=
 ∀ ρ w cs, p ≤ h.length → Rel (KC P) ρ h w → VL ρ l cs → p ≤ h'.length ∧ ∃ ρ', VL ρ' l' cs ∧ Rel (KC P) ρ' h' w ∧ (∀ b, Own ρ' h' b → Own ρ h b) ∧ (∀ i b, At ρ' h' i b → ∃ j, At ρ h j b ∧ (i < p → j = i) ∧ (p ≤ i → p ≤ j)) ∧ ∀ i, i < p → ρ'[i]? = ρ[i]?
theorem AM.bt {p : Nat} {rd : Option Nat} {fn : FuncId} {todo : List CI} {fr fr' : List AV} {h h' : List AB} {R : AV → List AB → Prop} (hrd : ∀ id, rd = some id → id < p) (e : Bt P p fr h fr' h') (g : AM P p rd fn todo fr' h' R) : AM P p rd fn todo fr h R := by
 intro ρ w tmps items b cs rs hf hk hro hpl hi hv hr hmk
 obtain ⟨p1, ρ', v', r', ow, ac, fx⟩ := e ρ w tmps hpl hr hv
 have hro' : RdOk ρ' b rd := by
  cases rd with
  | none => exact hro
  | some id =>
   obtain ⟨l, on, h1, h2⟩ := hro
   exact ⟨l, on, by rw [fx id (hrd id rfl)]; exact h1, h2⟩
 have hmk' : Marks ρ' h' w rs := ⟨hmk.1, fun r hr' => ⟨(hmk.2 r hr').1, fun i ha => by
  obtain ⟨j, hj, _⟩ := ac i r ha
  exact (hmk.2 r hr').2 j hj⟩⟩
 refine (g ρ' w tmps items b cs rs hf hk hro' p1 hi v' r' hmk').mono fun v w' ⟨a, h'', ρ1, q1, q2, q3, q4⟩ => ⟨a, h'', ρ1, q1, q2, q3, q4.os, q4.tape, q4.output, q4.size, fun b hb hn hx => q4.keep b hb (fun ho => hn (ow b ho)) hx, fun b ho => (q4.own b ho).imp (ow b) (fun z => z), fun i b ha => ?_, fun i hi => (q4.fix i hi).trans (fx i hi)⟩
 rcases q4.acc i b ha with ⟨j, z, z1, z2⟩ | z | z
 ·obtain ⟨k, y, y1, y2⟩ := ac j b z
  exact .inl ⟨k, y, fun hip => by have := z1 hip; subst this; exact y1 hip, fun hip => y2 (z2 hip)⟩
 ·exact .inr (.inl (ow b z))
 ·exact .inr (.inr z)
theorem AM.post {p : Nat} {rd : Option Nat} {fn : FuncId} {todo : List CI} {fr : List AV} {h : List AB} {R R' : AV → List AB → Prop} (hR : ∀ a h1, R a h1 → ∃ a' h2, Bt P p [a] h1 [a'] h2 ∧ R' a' h2) (g : AM P p rd fn todo fr h R) : AM P p rd fn todo fr h R' := by
 intro ρ w tmps items b cs rs hf hk hro hpl hi hv hr hmk
 refine (g ρ w tmps items b cs rs hf hk hro hpl hi hv hr hmk).mono fun v w' ⟨a, h1, ρ1, q1, q2, q3, q4⟩ => ?_
 obtain ⟨a', h2, hb, hR'⟩ := hR a h1 q1
 have hp1 : p ≤ h1.length := by
  rw [← q3.len]
  rcases Nat.lt_or_ge ρ1.length p with hlt | hge
  ·have := q4.fix ρ1.length hlt
   rw [List.getElem?_eq_none (Nat.le_refl _)] at this
   have hh := hr.len
   rw [List.getElem?_eq_getElem (by omega)] at this
   cases this
  ·exact hge
 obtain ⟨_, ρ', v', r', ow, ac, fx⟩ := hb ρ1 w' #[v] hp1 q3 (VL.one q2)
 refine ⟨a', h2, ρ', hR', v'.2 0 a' v rfl rfl, r', q4.os, q4.tape, q4.output, q4.size, q4.keep, fun b ho => q4.own b (ow b ho), fun i b ha => ?_, fun i hi => (fx i hi).trans (q4.fix i hi)⟩
 obtain ⟨j, z, z1, z2⟩ := ac i b ha
 rcases q4.acc j b z with ⟨k, y, y1, y2⟩ | y | y
 ·exact .inl ⟨k, y, fun hip => by have := z1 hip; subst this; exact y1 hip, fun hip => y2 (z2 hip)⟩
 ·exact .inr (.inl y)
 ·exact .inr (.inr y)
def Wk (a' a : AV) : Prop := ∀ ρ c, VR ρ a c → VR ρ a' c
theorem Wk.refl (a : AV) : Wk a a := fun _ _ h => h
theorem Wk.top (a : AV) : Wk .top a := fun _ c _ => .top c
def WkL : List AV → List AV → Prop
 | [], [] => True
 | a' :: l', a :: l => Wk a' a ∧ WkL l' l
 | _, _ => False
theorem WkL.vl : ∀ {l' l : List AV}, WkL l' l → ∀ {ρ : Mp} {cs : Array Value}, VL ρ l cs → VL ρ l' cs := by
 intro l' l h ρ cs v
 have key : ∀ (l' l : List AV), WkL l' l → l'.length = l.length ∧ ∀ (j : Nat) (a' : AV), l'[j]? = some a' → ∃ a, l[j]? = some a ∧ Wk a' a := by
  intro l'
  induction l' with
  | nil =>
   intro l h
   cases l with
   | nil => exact ⟨rfl, fun j a' h => by simp at h⟩
   | cons a l => exact h.elim
  | cons a' l' ih =>
   intro l h
   cases l with
   | nil => exact h.elim
   | cons a l =>
    obtain ⟨h1, h2⟩ := h
    obtain ⟨i1, i2⟩ := ih l h2
    refine ⟨by simp [i1], fun j b hb => ?_⟩
    cases j with
    | zero => cases hb; exact ⟨a, rfl, h1⟩
    | succ j => exact i2 j b hb
 obtain ⟨k1, k2⟩ := key l' l h
 refine ⟨k1.trans v.1, fun j a' c ha hc => ?_⟩
 obtain ⟨a, q1, q2⟩ := k2 j a' ha
 exact q2 ρ c (v.2 j a c q1 hc)
theorem Bt.wk {p : Nat} {l l' : List AV} {h : List AB} (e : WkL l' l) : Bt P p l h l' h := fun ρ _ _ hp r v => ⟨hp, ρ, e.vl v, r, fun _ h => h, fun i b h => ⟨i, h, fun _ => rfl, fun q => q⟩, fun _ _ => rfl⟩
theorem Bt.wk1 {p : Nat} {a a' : AV} {h : List AB} (e : Wk a' a) : Bt P p [a] h [a'] h := Bt.wk ⟨e, trivial⟩
def selN (p : Nat) (sel : List Nat) (i : Nat) : Nat := if i < p then i else p + sel.getD (i - p) 0
theorem qvy {p : Nat} {sel : List Nat} {i : Nat} (h : i < p) : selN p sel i = i := by simp [selN, h]
theorem QT6 {p : Nat} {sel : List Nat} (k : Nat) : selN p sel (p + k) = p + sel.getD k 0 := by
 unfold selN
 rw [if_neg (by omega), Nat.add_sub_cancel_left]
theorem Wk.ren {p : Nat} {f : Nat → Nat} (hf : ∀ i, i < p → f i = i) {a : AV} (h : a.ok (fun i => decide (i < p)) = true) : Wk (a.ren f) a := by
 intro ρ c hv
 have h1 : VR (ρ.take p) a c := hv.agree (q := fun i => decide (i < p)) (fun i hi => by rw [List.getElem?_take, if_pos (by simpa using hi)]) h
 refine h1.ren_up fun i x hx => ?_
 rw [List.getElem?_take] at hx
 split at hx
 ·rename_i hi
  rw [hf i hi]
  exact hx
 ·cases hx
def BWk (q : Nat → Bool) (f : Nat → Nat) : AB → AB → Prop
 | .dead, _ => True
 | .blk true m' xs', .blk true m xs => (m' = true → m = true) ∧ xs' = xs
 | .blk false m' xs', .blk false m xs => (m' = true → m = true) ∧ okL q xs' = true ∧ WkL (renL f xs') xs
 | .iter t' p', .iter t p => t' = t ∧ p' = p
 | .lp st' pd' fr' ps' a' b', .lp st pd fr ps a b => (st' = st ∧ pd' = pd ∧ ps' = ps ∧ a' = a ∧ b' = b) ∧ okL q fr' = true ∧ WkL (renL f fr') fr
 | _, _ => False
theorem BWk.mut {q : Nat → Bool} {f : Nat → Nat} {B' B : AB} (h : BWk q f B' B) (hm : B'.mut = true) : B.mut = true := by
 cases B' with
 | dead => cases hm
 | blk fl' m' xs' => cases B <;> cases fl' <;> first | exact h.elim | (rename_i fl m xs; cases fl <;> first | exact h.elim | exact h.1 hm)
 | iter _ _ => cases B <;> first | rfl | (rename_i fl m xs; cases fl <;> exact h.elim) | exact h.elim
 | lp _ _ _ _ _ _ => cases B <;> first | rfl | (rename_i fl m xs; cases fl <;> exact h.elim) | exact h.elim
theorem BWk.live {q : Nat → Bool} {f : Nat → Nat} {B' B : AB} (h : BWk q f B' B) (hm : B'.live = true) : B.live = true := by
 cases B' with
 | dead => cases hm
 | blk fl' m' xs' => cases B <;> cases fl' <;> first | exact h.elim | rfl
 | iter _ _ => cases B <;> first | rfl | (rename_i fl m xs; cases fl <;> exact h.elim) | exact h.elim
 | lp _ _ _ _ _ _ => cases B <;> first | rfl | (rename_i fl m xs; cases fl <;> exact h.elim) | exact h.elim
theorem WkL.len : ∀ {a b : List AV}, WkL a b → a.length = b.length
 | [], [], _ => rfl
 | [], _ :: _, h => h.elim
 | _ :: _, [], h => h.elim
 | _ :: _, _ :: _, h => by simp [WkL.len h.2]
theorem BWk.br {ρ ρ' : Mp} {w : World} {b o n : Nat} {q : Nat → Bool} {f : Nat → Nat} (hq : ∀ i, q i = true → ρ'[i]? = ρ[f i]?) {B' B : AB} (h : BWk q f B' B) (r : BR (KC P) ρ w b o n B) : BR (KC P) ρ' w b o n B' := by
 cases B' with
 | dead => trivial
 | blk fl' m' xs' =>
  cases B with
  | blk fl m xs =>
   obtain ⟨cs, e, fz, h1, h2, h3, h4⟩ := r
   cases fl' <;> cases fl <;> first | exact h.elim | skip
   ·obtain ⟨g1, g2, g3⟩ := h
    have hl : xs'.length = xs.length := by
     have key : ∀ (a b : List AV), WkL a b → a.length = b.length := by
      intro a
      induction a with
      | nil => intro b h; cases b with
       | nil => rfl
       | cons _ _ => exact h.elim
      | cons x a ih => intro b h; cases b with
       | nil => exact h.elim
       | cons _ _ => simp [ih _ h.2]
     have := key _ _ g3
     rw [YL8] at this
     exact this
    refine ⟨cs, e, fz, h1, fun z => h2 (g1 z), by omega, fun k a c ha hc => ?_⟩
    have hk : k < xs.length := by have := (List.getElem?_eq_some_iff.1 ha).1; omega
    have hv : VL ρ xs ((cs.toList.drop o).take xs.length).toArray := by
     refine ⟨by simp; omega, fun j x c' hx hc' => h4 j x c' hx ?_⟩
     simp only [List.getElem?_toArray, List.getElem?_take, List.getElem?_drop, Array.getElem?_toList] at hc'
     split at hc'
     ·exact hc'
     ·cases hc'
    have hw := WkL.vl g3 hv
    refine VR.ren_down hq a (K7j.1 g2 k a ha) c (hw.2 k (a.ren f) c (by rw [Xf9, ha]; rfl) ?_)
    simp only [List.getElem?_toArray, List.getElem?_take, List.getElem?_drop, Array.getElem?_toList, if_pos hk]
    exact hc
   ·obtain ⟨g1, rfl⟩ := h
    exact ⟨cs, e, fz, h1, fun z => h2 (g1 z), h3, h4⟩
  | dead => cases fl' <;> exact h.elim
  | iter _ _ => cases fl' <;> exact h.elim
  | lp _ _ _ _ _ _ => cases fl' <;> exact h.elim
 | iter _ _ =>
  cases B with
  | iter _ _ =>
   obtain ⟨rfl, rfl⟩ := h
   exact r
  | dead => exact h.elim
  | lp _ _ _ _ _ _ => exact h.elim
  | blk fl m xs => cases fl <;> exact h.elim
 | lp st' pd' fr' ps' a' b' =>
  cases B with
  | lp st pd fr ps a b =>
   obtain ⟨⟨rfl, rfl, rfl, rfl, rfl⟩, g2, g3⟩ := h
   obtain ⟨l, r1, r2, r3, r4, r5, r6, r7⟩ := r
   have hw := WkL.vl g3 r4
   have hlen := WkL.len g3
   rw [YL8] at hlen
   exact ⟨l, r1, r2, r3, ⟨hlen.trans r4.1, fun k x c hx hc => VR.ren_down hq x (K7j.1 g2 k x hx) c (hw.2 k (x.ren f) c (by rw [Xf9, hx]; rfl) hc)⟩, r5, r6, r7⟩
  | dead => exact h.elim
  | iter _ _ => exact h.elim
  | blk fl m xs => cases fl <;> exact h.elim
def BlkSel (p : Nat) (sel : List Nat) (n : Nat) (l : List AB) : List Nat → List AB → Prop
 | [], [] => True
 | k :: ks, B' :: l' => (∃ B, l[k]? = some B ∧ BWk (fun i => decide (i < p + n)) (selN p sel) B' B) ∧ BlkSel p sel n l ks l'
 | _, _ => False
def FrSel (p : Nat) (sel : List Nat) (n : Nat) : List AV → List AV → Prop
 | [], [] => True
 | a :: l, a' :: l' => (a' = .top ∨ (a'.ok (fun i => decide (i < p + n)) = true ∧ Wk (a'.ren (selN p sel)) a)) ∧ FrSel p sel n l l'
 | _, _ => False
theorem BlkSel.get {p n : Nat} {sel : List Nat} {l : List AB} : ∀ {ks : List Nat} {l' : List AB}, BlkSel p sel n l ks l' → l'.length = ks.length ∧ ∀ (i : Nat) B', l'[i]? = some B' → ∃ k B, ks[i]? = some k ∧ l[k]? = some B ∧ BWk (fun i => decide (i < p + n)) (selN p sel) B' B
 | [], [], _ => ⟨rfl, fun i B' h => by simp at h⟩
 | [], _ :: _, h => h.elim
 | _ :: _, [], h => h.elim
 | k :: ks, B' :: l', h => by
  obtain ⟨⟨B, h1, h2⟩, h3⟩ := h
  obtain ⟨i1, i2⟩ := BlkSel.get h3
  refine ⟨by simp [i1], fun i C hC => ?_⟩
  cases i with
  | zero => cases hC; exact ⟨k, B, rfl, h1, h2⟩
  | succ i => simpa using i2 i C hC
theorem FrSel.get {p n : Nat} {sel : List Nat} : ∀ {l l' : List AV}, FrSel p sel n l l' → l'.length = l.length ∧ ∀ (i : Nat) a', l'[i]? = some a' → a' = .top ∨ (a'.ok (fun i => decide (i < p + n)) = true ∧ ∃ a, l[i]? = some a ∧ Wk (a'.ren (selN p sel)) a)
 | [], [], _ => ⟨rfl, fun i B' h => by simp at h⟩
 | [], _ :: _, h => h.elim
 | _ :: _, [], h => h.elim
 | a :: l, a' :: l', h => by
  obtain ⟨h1, h3⟩ := h
  obtain ⟨i1, i2⟩ := FrSel.get h3
  refine ⟨by simp [i1], fun i C hC => ?_⟩
  cases i with
  | zero => cases hC; exact h1.imp (fun z => z) (fun z => ⟨z.1, a, rfl, z.2⟩)
  | succ i => simpa using i2 i C hC
def HOk (h : List AB) : Prop := ∀ (i : Nat) B, h[i]? = some B → B.ok (fun i => decide (i < h.length)) = true
theorem Bt.selc {h l l' : List AB} {fr fr' : List AV} (n : Nat) (sel : List Nat) (hh : HOk h) (hc : ∀ i, i < n → sel[i]? = some i) (hup : ∀ (i k : Nat), n ≤ i → sel[i]? = some k → n ≤ k) (hn : n ≤ sel.length) (hnd : sel.Nodup) (hb : BlkSel h.length sel sel.length l sel l') (hfr : FrSel h.length sel sel.length fr fr') : Bt P (h.length + n) fr (h ++ l) fr' (h ++ l') := by
 intro ρ w cs hp r v
 obtain ⟨b1, b2⟩ := hb.get
 obtain ⟨f1, f2⟩ := hfr.get
 have hlt : ∀ (i k : Nat), sel[i]? = some k → k < l.length := fun i k hk => by
  have hi : i < l'.length := by rw [b1]; exact (List.getElem?_eq_some_iff.1 hk).1
  obtain ⟨k', B, q1, q2, _⟩ := b2 i l'[i] (List.getElem?_eq_getElem hi)
  rw [hk] at q1
  cases q1
  exact (List.getElem?_eq_some_iff.1 q2).1
 have hρ := r.len
 rw [List.length_append] at hρ
 let ρ' : Mp := ρ.take h.length ++ sel.map fun k => ρ.getD (h.length + k) (0, 0, 0)
 have old : ∀ i, i < h.length → ρ'[i]? = ρ[i]? := fun i hi => by
  simp only [ρ']
  rw [List.getElem?_append_left (by rw [List.length_take]; omega), List.getElem?_take, if_pos hi]
 have new : ∀ i k, sel[i]? = some k → ρ'[h.length + i]? = ρ[h.length + k]? := fun i k hk => by
  have := hlt i k hk
  simp only [ρ']
  rw [List.getElem?_append_right (by rw [List.length_take]; omega), List.length_take, show h.length + i - min h.length ρ.length = i by omega, List.getElem?_map, hk, Option.map_some, List.getD_eq_getElem?_getD, List.getElem?_eq_getElem (by omega : h.length + k < ρ.length)]
  rfl
 have hq : ∀ i, (fun i => decide (i < h.length + sel.length)) i = true → ρ'[i]? = ρ[selN h.length sel i]? := fun i hi => by
  by_cases h1 : i < h.length
  ·rw [qvy h1, old i h1]
  ·obtain ⟨k, rfl⟩ : ∃ k, i = h.length + k := ⟨i - h.length, by omega⟩
   have hk : k < sel.length := by simp only [decide_eq_true_eq] at hi; omega
   rw [QT6, List.getD_eq_getElem?_getD, List.getElem?_eq_getElem hk]
   exact new k _ (List.getElem?_eq_getElem hk)
 have cls : ∀ i B', (h ++ l')[i]? = some B' → (i < h.length ∧ h[i]? = some B') ∨ (∃ j k B, i = h.length + j ∧ sel[j]? = some k ∧ (h ++ l)[h.length + k]? = some B ∧ BWk (fun i => decide (i < h.length + sel.length)) (selN h.length sel) B' B) := fun i B' hB => by
  rw [List.getElem?_append] at hB
  split at hB
  ·rename_i hlt'
   exact .inl ⟨hlt', hB⟩
  ·obtain ⟨k, B, q1, q2, q3⟩ := b2 _ B' hB
   refine .inr ⟨i - h.length, k, B, by omega, q1, ?_, q3⟩
   rw [List.getElem?_append_right (by omega), Nat.add_sub_cancel_left]
   exact q2
 have up : ∀ i B' x, (h ++ l')[i]? = some B' → ρ'[i]? = some x → ∃ j B, (h ++ l)[j]? = some B ∧ ρ[j]? = some x ∧ (B'.mut = true → B.mut = true) ∧ (B'.live = true → B.live = true) ∧ ((i < h.length ∧ j = i) ∨ (∃ i' k, i = h.length + i' ∧ sel[i']? = some k ∧ j = h.length + k)) := fun i B' x hB hx => by
  rcases cls i B' hB with ⟨hi, q⟩ | ⟨j, k, B, rfl, q1, q2, q3⟩
  ·exact ⟨i, B', by rw [List.getElem?_append_left hi]; exact q, by rw [← old i hi]; exact hx, id, id, .inl ⟨hi, rfl⟩⟩
  ·exact ⟨h.length + k, B, q2, by rw [← new j k q1]; exact hx, q3.mut, q3.live, .inr ⟨j, k, rfl, q1, rfl⟩⟩
 refine ⟨by rw [List.length_append, b1]; omega, ρ', ⟨f1.trans v.1, fun j a' c ha hc => ?_⟩, ⟨?_, fun i B' b o n hB hx => ?_, fun i j bi oi bj oj Bi Bj hne h1 h2 h3 h4 hm hl => ?_, r.gl.sub fun b ⟨i, B', o, h1, h2, h3⟩ => by
  obtain ⟨i', C, u1, u2, u3, _, _⟩ := up i B' _ h1 h3
  exact ⟨i', C, o, u1, u3 h2, u2⟩⟩, fun b ⟨i, B', o, h1, h2, h3⟩ => ?_, fun i b ⟨B', o, h1, h2, h3⟩ => ?_, fun i hi => ?_⟩
 ·rcases f2 j a' ha with rfl | ⟨q1, a, q2, q3⟩
  ·exact .top c
  ·exact VR.ren_down hq a' q1 c (q3 ρ c (v.2 j a c q2 hc))
 ·simp only [ρ', List.length_append, List.length_take, List.length_map, b1]
  omega
 ·rcases cls i B' hB with ⟨hi, q⟩ | ⟨j, k, B, rfl, q1, q2, q3⟩
  ·have := r.blk i B' b o n (by rw [List.getElem?_append_left hi]; exact q) (by rw [← old i hi]; exact hx)
   exact this.agree (q := fun i => decide (i < h.length)) (fun i hi => old i (by simpa using hi)) (hh i B' q) (fun _ => rfl)
  ·exact q3.br hq (r.blk _ B b o n q2 (by rw [← new j k q1]; exact hx))
 ·obtain ⟨i', Ci, u1, u2, u3, _, u5⟩ := up i Bi _ h1 h3
  obtain ⟨j', Cj, z1, z2, _, z4, z5⟩ := up j Bj _ h2 h4
  refine r.sep i' j' bi oi bj oj Ci Cj (fun e => hne ?_) u1 z1 u2 z2 (u3 hm) (z4 hl)
  subst e
  rcases u5 with ⟨x1, x2⟩ | ⟨s, k, x1, x2, x3⟩ <;> rcases z5 with ⟨y1, y2⟩ | ⟨t, m, y1, y2, y3⟩
  ·omega
  ·omega
  ·omega
  ·have : k = m := by omega
   subst this
   have := (List.getElem?_inj (List.getElem?_eq_some_iff.1 x2).1 hnd).1 (x2.trans y2.symm)
   omega
 ·obtain ⟨j, B, q1, q2, q3, _, _⟩ := up i B' _ h1 h3
  exact ⟨j, B, o, q1, q3 h2, q2⟩
 ·obtain ⟨j, B, q1, q2, _, q4, q5⟩ := up i B' _ h1 h3
  refine ⟨j, ⟨B, o, q1, q4 h2, q2⟩, fun hi => ?_, fun hi => ?_⟩
  ·rcases q5 with ⟨_, x⟩ | ⟨s, k, x, y, z⟩
   ·exact x
   ·have := hc s (by omega)
    rw [y] at this
    cases this
    omega
  ·rcases q5 with ⟨x, _⟩ | ⟨s, k, z, y, x⟩
   ·omega
   ·have := hup s k (by omega) y
    omega
 ·by_cases h1 : i < h.length
  ·exact old i h1
  ·obtain ⟨k, rfl⟩ : ∃ k, i = h.length + k := ⟨i - h.length, by omega⟩
   exact new k k (hc k (by omega))
theorem Bt.sel {h l l' : List AB} {fr fr' : List AV} (sel : List Nat) (hh : HOk h) (hnd : sel.Nodup) (hb : BlkSel h.length sel sel.length l sel l') (hfr : FrSel h.length sel sel.length fr fr') : Bt P h.length fr (h ++ l) fr' (h ++ l') :=
 Bt.selc 0 sel hh (fun i hi => by omega) (fun _ _ _ _ => Nat.zero_le _) (Nat.zero_le _) hnd hb hfr
end
end Go.Proofs.YthhghdebjiiliaaDoor
end
section
namespace Go.Proofs.YthhghdebjiiliaaDoor
open Go.RowKit
section
variable {P : Program}
def Ex (P : Program) (rb : Bool) (p : Nat) (c : CC) (fr : List AV) (h : List AB) (x : XE) (fr' : List AV) (h' : List AB) : Prop :=
 ∀ (rd : Option Nat) (fn : FuncId) (k : List CI) (R : AV → List AB → Prop), (rd.isSome = rb ∧ ∀ id, rd = some id → id < p) → Left P p rd fn k R fr' h' x → AM P p rd fn (.code c :: k) fr h R
def ExO (P : Program) (l : List COper) (fr : List AV) (h : List AB) (fr' : List AV) (h' : List AB) : Prop :=
 ∀ (p : Nat) (rd : Option Nat) (fn : FuncId) (k : List CI) (R : AV → List AB → Prop), AM P p rd fn k fr' h' R → AM P p rd fn (.ops l :: k) fr h R
def FnAt (P : Program) (g : Nat) (args : List AV) (h : List AB) (a : AV) (h' : List AB) : Prop :=
 ∃ fn cf, P.funcs[g]? = some fn ∧ qXD P fn = some cf ∧ AM P h.length none g [.code cf.body] (args ++ List.replicate (cf.ntmps - args.length) (.tu [])) h (fun a' h'' => a' = a ∧ h'' = h')
def Q1m (P : Program) (id : Nat) (args : List AV) (h : List AB) (a : AV) (h' : List AB) : Prop :=
 ∃ st pd fr0 ps asg bd, h[id]? = some (.lp st pd fr0 ps asg bd) ∧ ps.length = args.length ∧ ∀ g, AM P h.length (some id) g [.code asg, .br, .code bd] (qHl ps args fr0) h (fun a' h'' => a' = a ∧ h'' = h')
theorem FnAt.c {g : Nat} {args : List AV} {h h' : List AB} {a : AV} (e : FnAt P g args h a h') : FnC P g args h a h' := by
 obtain ⟨fn, cf, hf, hcf, am⟩ := e
 obtain ⟨hname, body, hbody, hcb, hres, hnt⟩ := QYr hcf
 refine ⟨⟨fn, body, hf, by simpa using hname, hbody⟩, fun ρ w vals hr hv cs => ?_⟩
 let bf' : Frame := { (default : Frame) with fn := g, kind := .normal, roundOf := none }
 have henter : Frame.enter P g vals .normal = bf'.atR { tmps := vals ++ Array.replicate (fn.ntmps - vals.size) undef, defers := [] } [.code body] := by
  simp [Frame.enter, Frame.atR, hf, hbody, bf']
 obtain ⟨v', w', ⟨a0, h'', ρ', ⟨rfl, rfl⟩, hva, hrel, heff⟩, frm, hsteps, hfrm, hleave⟩ := am ρ w _ [.code body] bf' cs [] rfl rfl rfl (Nat.le_refl _) (.mcode hcb trivial) (hv.append (by rw [hv.1, hnt]; exact YFB ρ _)) hr ⟨List.nodup_nil, fun r h => by simp at h⟩
 exact ⟨.returned v', w', frm, ⟨v', ρ', rfl, hva, hrel, heff.p⟩, by rw [henter]; exact hsteps, hfrm, hleave⟩
def KGv (P : Program) (f : AV) (args : List AV) (h : List AB) (a : AV) (h' : List AB) : Prop :=
 match f with
 | .f (.func g) fst cap => FnC P g (fst ++ args ++ cap) h a h'
 | .y id => Q1m P id args h a h'
 | _ => False
def OpAt (P : Program) (op : CO) (fr : List AV) (h : List AB) (v : AV) (h' : List AB) : Prop :=
 match op.isCall with
 | some (f, args) => KGv P (f.ev fr) (args.map (Opd.ev fr)) h v h'
 | none => op.run (Opd.ev fr) h = some (v, h')
theorem XUu {ops : Array Oper} {i : Nat} {o : Oper} {c : COper} (ho : ops[i]? = some o) (hc : XyB P ops o = some c) {fr : List AV} {h h' : List AB} {v : AV} (hk : ZzY fr c.guard = true) (hwt : YVO fr c.guard = true) (e : OpAt P c.op fr h v h') : OpOk P ops i c.dst fr h v h' := by
 unfold OpAt at e
 split at e
 ·rename_i f args hcc
  have hop := Qs5 hcc
  unfold KGv at e
  split at e
  ·rename_i g fst cap hf
   exact YgV ho hc hk hwt hop hf e
  ·rename_i id hf
   obtain ⟨st, pd, fr0, ps, asg, bd, h1, h2, h3⟩ := e
   exact qcK ho hc hk hwt hop hf h1 (by simpa using h2) h3
  ·exact e.elim
 ·exact QYm ho hc hk hwt e
def Ql3 (C : CO → List AV → List AB → AV → List AB → Prop) : List COper → (List AV → List AB → Prop) → List AV → List AB → Prop
 | [], K, fr, h => K fr h
 | o :: l, K, fr, h => ZzY fr o.guard = true ∧ (YVO fr o.guard = true → ∃ v h', C o.op fr h v h' ∧ Ql3 C l K (put fr o.dst v) h') ∧ (YVO fr o.guard = false → Ql3 C l K (put fr o.dst (.tu [])) h)
def XBD (P : Program) (C : CO → List AV → List AB → AV → List AB → Prop) : Prop := ∀ {op : CO} {fr : List AV} {h : List AB} {v : AV} {h' : List AB}, C op fr h v h' → OpAt P op fr h v h'
variable {C : CO → List AV → List AB → AV → List AB → Prop}
theorem ZKa (hC : XBD P C) : ∀ (l : List COper) {K : List AV → List AB → Prop} {fr : List AV} {h : List AB}, Ql3 C l K fr h → ∃ fr' h', K fr' h' ∧ ExO P l fr h fr' h'
 | [], K, fr, h, e => ⟨fr, h, e, fun p rd fn k R g => AM.go rfl g⟩
 | o :: l, K, fr, h, e => by
  obtain ⟨hk, h1, h2⟩ := e
  cases hw : YVO fr o.guard with
  | true =>
   obtain ⟨v, h', e1, e2⟩ := h1 hw
   obtain ⟨fr2, h2', q1, q2⟩ := ZKa hC l e2
   exact ⟨fr2, h2', q1, fun p rd fn k R g => AM.op (fun ops i o' ho hc => XUu ho hc hk hw (hC e1)) (q2 p rd fn k R g)⟩
  | false =>
   obtain ⟨fr2, h2', q1, q2⟩ := ZKa hC l (h2 hw)
   exact ⟨fr2, h2', q1, fun p rd fn k R g => AM.op (fun ops i o' ho hc => ZY3 ho hc hk hw) (q2 p rd fn k R g)⟩
def DrwAt (P : Program) (ds : List DOp) (fr : List AV) (h : List AB) (fr' : List AV) (h' : List AB) : Prop :=
 ∀ (p : Nat) (rd : Option Nat) (fn : FuncId) (id : Nat) (k : List CI) (R : AV → List AB → Prop), AM P p rd fn k fr' h' R → AM P p rd fn (.code (.drw id ds) :: k) fr h R
structure Sm where
 C : CO → List AV → List AB → AV → List AB → Prop
 D : List DOp → (List AV → List AB → Prop) → List AV → List AB → Prop
structure Fits (P : Program) (S : Sm) : Prop where
 C : XBD P S.C
 D : ∀ {ds : List DOp} {K : List AV → List AB → Prop} {fr : List AV} {h : List AB}, S.D ds K fr h → ∃ fr' h', DrwAt P ds fr h fr' h' ∧ K fr' h'
variable {S : Sm}
def wpC (P : Program) (S : Sm) (rb : Bool) (p : Nat) : CC → (XE → List AV → List AB → Prop) → List AV → List AB → Prop
 | .skip, K, fr, h => K .n fr h
 | .reg _ ops, K, fr, h => Ql3 S.C ops (K .n) fr h
 | .drw _ ds, K, fr, h => S.D ds (K .n) fr h
 | .seq a b, K, fr, h => wpC P S rb p a (fun x fr h => match x with | .n => wpC P S rb p b K fr h | x => K x fr h) fr h
 | .cond q a b, K, fr, h => ∃ t, q.ev fr = .b t ∧ (t = true → wpC P S rb p a K fr h) ∧ (t = false → wpC P S rb p b K fr h)
 | .block id a, K, fr, h => wpC P S rb p a (fun x fr h => match x with | .n => K .n fr h | .x i => if i = id then K .n fr h else K (.x i) fr h | .r => K .r fr h) fr h
 | .loop a, K, fr, h => ∃ I : Nat → List AV → List AB → Prop, (∃ n fr' h', Bt P p fr h fr' h' ∧ I n fr' h') ∧ ∀ n fr h, I n fr h → wpC P S rb p a (fun x fr h => match x with | .n => ∃ m fr' h', m < n ∧ Bt P p fr h fr' h' ∧ I m fr' h' | x => K x fr h) fr h
 | .scope a, K, fr, h => wpC P S rb p a K fr h
 | .exit id, K, fr, h => K (.x id) fr h
 | .ret, K, fr, h => K .r fr h
 | .stop, _, _, _ => False
 | .rf q ps a b, K, fr, h => rb = false ∧ ∃ g fst cap v h2 st pd fr1 ps1 a1 b1, q.ev fr = .f (.func g) fst cap ∧ FnAt P g (fst ++ [AV.y h.length] ++ cap) (h ++ [AB.lp .ready .n fr ps a b]) v h2 ∧ h2[h.length]? = some (.lp st pd fr1 ps1 a1 b1) ∧ st ≠ .busy ∧ K pd fr (h2.set h.length .dead)
theorem YY8 (hS : Fits P S) {rb : Bool} {p : Nat} (c : CC) : ∀ {K : XE → List AV → List AB → Prop} {fr : List AV} {h : List AB}, wpC P S rb p c K fr h → ∃ x fr' h', K x fr' h' ∧ Ex P rb p c fr h x fr' h' := by
 induction c with
 | skip => exact fun {K fr h} e => ⟨.n, fr, h, e, fun rd fn k R _ g => AM.go rfl g⟩
 | reg id ops =>
  intro K fr h e
  obtain ⟨fr', h', q1, q2⟩ := ZKa hS.C ops e
  exact ⟨.n, fr', h', q1, fun rd fn k R _ g => AM.go rfl (q2 p rd fn k R g)⟩
 | drw id ds =>
  intro K fr h e
  obtain ⟨fr', h', q1, q2⟩ := hS.D e
  exact ⟨.n, fr', h', q2, fun rd fn k R _ g => q1 p rd fn id k R g⟩
 | seq a b iha ihb =>
  intro K fr h e
  obtain ⟨x, fr1, h1, q1, q2⟩ := iha e
  cases x with
  | n =>
   obtain ⟨y, fr2, h2, z1, z2⟩ := ihb q1
   exact ⟨y, fr2, h2, z1, fun rd fn k R hr g => AM.go rfl (q2 rd fn (.code b :: k) R hr (z2 rd fn k R hr g))⟩
  | x i => exact ⟨.x i, fr1, h1, q1, fun rd fn k R hr g => AM.go rfl (q2 rd fn (.code b :: k) R hr (g.pass (fun q => nomatch q) (fun _ _ => rfl)))⟩
  | r => exact ⟨.r, fr1, h1, q1, fun rd fn k R hr g => AM.go rfl (q2 rd fn (.code b :: k) R hr g)⟩
 | cond q a b iha ihb =>
  intro K fr h e
  obtain ⟨t, ht, e1, e2⟩ := e
  cases t with
  | true =>
   obtain ⟨x, fr1, h1, q1, q2⟩ := iha (e1 rfl)
   exact ⟨x, fr1, h1, q1, fun rd fn k R hr g => AM.go (by simp only [qUa, ht]) (q2 rd fn k R hr g)⟩
  | false =>
   obtain ⟨x, fr1, h1, q1, q2⟩ := ihb (e2 rfl)
   exact ⟨x, fr1, h1, q1, fun rd fn k R hr g => AM.go (by simp only [qUa, ht]) (q2 rd fn k R hr g)⟩
 | block id a iha =>
  intro K fr h e
  obtain ⟨x, fr1, h1, q1, q2⟩ := iha e
  cases x with
  | n => exact ⟨.n, fr1, h1, q1, fun rd fn k R hr g => AM.go rfl (q2 rd fn (.blk id :: k) R hr (AM.go rfl g))⟩
  | x i =>
   dsimp only at q1
   by_cases hi : i = id
   ·subst hi
    rw [if_pos rfl] at q1
    exact ⟨.n, fr1, h1, q1, fun rd fn k R hr g => AM.go rfl (q2 rd fn (.blk i :: k) R hr (.inl ⟨k, by simp [YrY], g⟩))⟩
   ·rw [if_neg hi] at q1
    exact ⟨.x i, fr1, h1, q1, fun rd fn k R hr g => AM.go rfl (q2 rd fn (.blk id :: k) R hr (g.pass (fun q => nomatch q) (fun j q => by cases q; simp [YrY, Ne.symm hi])))⟩
  | r => exact ⟨.r, fr1, h1, q1, fun rd fn k R hr g => AM.go rfl (q2 rd fn (.blk id :: k) R hr g)⟩
 | loop a iha =>
  intro K fr h e
  obtain ⟨I, ⟨n, fr0, h00, hg0, h0⟩, hI⟩ := e
  have main : ∀ n fr h, I n fr h → ∃ x fr' h', K x fr' h' ∧ ∀ (rd : Option Nat) (fn : FuncId) (k : List CI) (R : AV → List AB → Prop), (rd.isSome = rb ∧ ∀ id, rd = some id → id < p) → Left P p rd fn k R fr' h' x → AM P p rd fn (.code a :: .lp a :: k) fr h R := by
   intro n
   induction n using Nat.strongRecOn with
   | ind n ih =>
    intro fr h hin
    obtain ⟨x, fr1, h1, q1, q2⟩ := iha (hI n fr h hin)
    cases x with
    | n =>
     obtain ⟨m, fr1', h1', hm, hgc, him⟩ := q1
     obtain ⟨y, fr2, h2, z1, z2⟩ := ih m hm fr1' h1' him
     exact ⟨y, fr2, h2, z1, fun rd fn k R hr g => q2 rd fn (.lp a :: k) R hr (AM.lp (AM.bt hr.2 hgc (z2 rd fn k R hr g)))⟩
    | x i => exact ⟨.x i, fr1, h1, q1, fun rd fn k R hr g => q2 rd fn (.lp a :: k) R hr (g.pass (fun q => nomatch q) (fun _ _ => rfl))⟩
    | r => exact ⟨.r, fr1, h1, q1, fun rd fn k R hr g => q2 rd fn (.lp a :: k) R hr g⟩
  obtain ⟨x, fr', h', q1, q2⟩ := main n fr0 h00 h0
  exact ⟨x, fr', h', q1, fun rd fn k R hr g => AM.loop (AM.bt hr.2 hg0 (q2 rd fn k R hr g))⟩
 | scope a iha =>
  intro K fr h e
  obtain ⟨x, fr1, h1, q1, q2⟩ := iha e
  refine ⟨x, fr1, h1, q1, fun rd fn k R hr g => AM.go rfl (q2 rd fn (.sc :: k) R hr ?_)⟩
  cases x with
  | n => exact AM.go rfl g
  | x i => exact g.pass (fun q => nomatch q) (fun _ _ => rfl)
  | r => exact g
 | exit id => exact fun {K fr h} e => ⟨.x id, fr, h, e, fun rd fn k R _ g => g.jump⟩
 | ret => exact fun {K fr h} e => ⟨.r, fr, h, e, fun rd fn k R _ g => g k⟩
 | stop => exact fun {K fr h} e => e.elim
 | rf q ps a b _ _ =>
  intro K fr h e
  obtain ⟨hr, g, fst, cap, v, h2, st, pd, fr1, ps1, a1, b1, hq, hcall, hlp, hst, hK⟩ := e
  obtain ⟨f, cf, hf, hcf, am⟩ := hcall
  refine ⟨pd, fr, _, hK, fun rd fn k R hr' gg => ?_⟩
  cases rd with
  | some l => have := hr'.1; rw [hr] at this; cases this
  | none => exact AM.rf hq hf hcf am hlp hst gg.jump
theorem FnAt.of (hS : Fits P S) {g : Nat} {fn : Func} {cf : CF} (hf : P.funcs[g]? = some fn) (hc : qXD P fn = some cf) {args : List AV} {h : List AB} {Q : AV → List AB → Prop}
  (w : wpC P S false h.length cf.body (fun x fr h => match x with | .x _ => False | _ => ∃ v, resV fr h cf.res = some v ∧ Q v h) (args ++ List.replicate (cf.ntmps - args.length) (.tu [])) h) : ∃ a h', FnAt P g args h a h' ∧ Q a h' := by
 obtain ⟨_, body, hb, hcb, hres, _⟩ := QYr hc
 obtain ⟨x, fr1, h1, q1, q2⟩ := YY8 hS cf.body w
 cases x with
 | n =>
  obtain ⟨v, hv, hQ⟩ := q1
  exact ⟨v, h1, ⟨fn, cf, hf, hc, q2 none g [] _ ⟨rfl, fun _ z => nomatch z⟩ (AM.fin hf hres hv ⟨rfl, rfl⟩)⟩, hQ⟩
 | x i => exact q1.elim
 | r =>
  obtain ⟨v, hv, hQ⟩ := q1
  exact ⟨v, h1, ⟨fn, cf, hf, hc, q2 none g [] _ ⟨rfl, fun _ z => nomatch z⟩ fun k' => AM.ret hf hres hv ⟨rfl, rfl⟩⟩, hQ⟩
def Fin (P : Program) (p : Nat) (res : List RC) (a : AV) (h' : List AB) : XE → List AV → List AB → Prop
 | .x _, _, _ => False
 | _, fr, h => ∃ v, resV fr h res = some v ∧ Bt P p [v] h [a] h'
theorem FnAt.fin (hS : Fits P S) {g : Nat} {fn : Func} {cf : CF} (hf : P.funcs[g]? = some fn) (hc : qXD P fn = some cf) {args : List AV} {h : List AB} {a : AV} {h' : List AB}
  (w : okL (fun i => decide (i < h.length)) args = true → HOk h → wpC P S false h.length cf.body (Fin P h.length cf.res a h') (args ++ List.replicate (cf.ntmps - args.length) (.tu [])) h) : FnAt P g args h a h' := by
 refine ⟨fn, cf, hf, hc, ?_⟩
 intro ρ wo tmps items b cs rs hfn hk hro hpl hi hv hr hmk
 have hargs : okL (fun i => decide (i < h.length)) args = true := K7j.2 fun j x hx => by
  have hj := (List.getElem?_eq_some_iff.1 hx).1
  obtain ⟨c, _, hc⟩ := hv.get (j := j) (a := x) (by rw [List.getElem?_append_left hj]; exact hx)
  exact hc.okLe (by rw [hr.len]; exact Nat.le_refl _)
 have hh : HOk h := fun i B hB => by
  have := hr.okLen hB
  rw [hr.len] at this
  exact this
 obtain ⟨_, body, hb, hcb, hres, _⟩ := QYr hc
 obtain ⟨x, fr1, h1, q1, q2⟩ := YY8 hS cf.body (w hargs hh)
 have am : AM P h.length none g [.code cf.body] (args ++ List.replicate (cf.ntmps - args.length) (.tu [])) h (fun a' h'' => a' = a ∧ h'' = h') := by
  cases x with
  | n =>
   obtain ⟨v, hv, hQ⟩ := q1
   exact AM.post (R := fun a' h'' => a' = v ∧ h'' = h1) (fun a' h'' ⟨e1, e2⟩ => ⟨a, h', by rw [e1, e2]; exact hQ, rfl, rfl⟩) (q2 none g [] _ ⟨rfl, fun _ z => nomatch z⟩ (AM.fin hf hres hv ⟨rfl, rfl⟩))
  | x i => exact q1.elim
  | r =>
   obtain ⟨v, hv, hQ⟩ := q1
   exact AM.post (R := fun a' h'' => a' = v ∧ h'' = h1) (fun a' h'' ⟨e1, e2⟩ => ⟨a, h', by rw [e1, e2]; exact hQ, rfl, rfl⟩) (q2 none g [] _ ⟨rfl, fun _ z => nomatch z⟩ fun k' => AM.ret hf hres hv ⟨rfl, rfl⟩)
 exact am ρ wo tmps items b cs rs hfn hk hro hpl hi hv hr hmk
end
end Go.Proofs.YthhghdebjiiliaaDoor
end
