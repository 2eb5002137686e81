/- Part of an abstract heap: an operation that is run under a mask is run under the whole. -/
import Derived.Test.YtbcpcjofkfgjoaaEvQ
namespace Go.Proofs.Ytbcpcjofkfgjoaa
open Go.RowKit
section
variable {P : Program}

mutual
/-- All blocks that a value names stand in q. -/
def AV.ok (q : Nat → Bool) : AV → Bool
  | .p id _ => q id
  | .y id => q id
  | .sl id _ len cap k => (Nat.beq len 0 && Nat.beq cap 0 && (match k with | some z => Nat.beq z 0 | none => false)) || q id
  | .f _ fst cap => okL q fst && okL q cap
  | .ifc _ v => v.ok q
  | .ag l => okL q l
  | .tu l => okL q l
  | .top | .b _ | .i _ _ | .s _ | .np | .se | .ns | .nf | .ni => true
def okL (q : Nat → Bool) : List AV → Bool
  | [] => true
  | a :: l => a.ok q && okL q l
end
theorem okL_iff {q : Nat → Bool} : ∀ {l : List AV}, okL q l = true ↔ ∀ (j : Nat) (a : AV), l[j]? = some a → a.ok q = true
  | [] => by simp [okL]
  | x :: l => by
    simp only [okL, Bool.and_eq_true]
    constructor
    · rintro ⟨h1, h2⟩ j a hj
      cases j with
      | zero => cases hj; exact h1
      | succ j => exact okL_iff.1 h2 j a hj
    · intro h
      exact ⟨h 0 x rfl, okL_iff.2 fun j a hj => h (j + 1) a hj⟩
theorem sl_ok {q : Nat → Bool} {id off len cap : Nat} {k : Option Nat} (h : (AV.sl id off len cap k).ok q = true) : (len = 0 ∧ cap = 0 ∧ k = some 0) ∨ q id = true := by
  simp only [AV.ok, Bool.or_eq_true, Bool.and_eq_true] at h
  rcases h with ⟨⟨h1, h2⟩, h3⟩ | h
  · cases k with
    | none => cases h3
    | some z =>
      have : z = 0 := Nat.eq_of_beq_eq_true h3
      exact .inl ⟨Nat.eq_of_beq_eq_true h1, Nat.eq_of_beq_eq_true h2, by rw [this]⟩
  · exact .inr h
/-- A map that agrees where the value looks is as good. -/
theorem VR.agree {ρ ρ' : Mp} {q : Nat → Bool} (hq : ∀ i, q i = true → ρ'[i]? = ρ[i]?) {a : AV} {v : Value} (h : VR ρ a v) : a.ok q = true → VR ρ' a v := by
  induction h with
  | b x => exact fun _ => .b x
  | i k n => exact fun _ => .i k n
  | s l bs h => exact fun _ => .s l bs h
  | p id off b o n h => exact fun g => .p id off b o n (by rw [hq id g]; exact h)
  | np => exact fun _ => .np
  | y id b o n h => exact fun g => .y id b o n (by rw [hq id g]; exact h)
  | sl id off len cap k b o n cap' h h1 h2 h3 h4 h5 =>
    intro g
    rcases sl_ok g with ⟨rfl, rfl, rfl⟩ | g
    · exact .sz id off _ _ h3 (fun e => nomatch e)
    · exact .sl id off len cap k b o n cap' (by rw [hq id g]; exact h) h1 h2 h3 h4 h5
  | sz id off a c h hn => exact fun _ => .sz id off a c h hn
  | se a c h => exact fun _ => .se a c h
  | ns => exact fun _ => .ns
  | f fn fst cap fst' cap' h0 h _ _ ih0 ih =>
    intro g
    simp only [AV.ok, Bool.and_eq_true] at g
    exact .f fn fst cap fst' cap' h0 h (fun j a c h1 h2 => ih0 j a c h1 h2 (okL_iff.1 g.1 j a h1)) (fun j a c h1 h2 => ih j a c h1 h2 (okL_iff.1 g.2 j a h1))
  | nf => exact fun _ => .nf
  | ifc t v v' _ ih => exact fun g => .ifc t v v' (ih g)
  | ni => exact fun _ => .ni
  | ag l cs h _ ih => exact fun g => .ag l cs h (fun j a c h1 h2 => ih j a c h1 h2 (okL_iff.1 g j a h1))
  | tu l cs h _ ih => exact fun g => .tu l cs h (fun j a c h1 h2 => ih j a c h1 h2 (okL_iff.1 g j a h1))
  | top v => exact fun _ => .top v
/-- A cell of which nothing is known. -/
def AV.tops : AV → Bool
  | .top => true
  | _ => false
theorem VL.agree {ρ ρ' : Mp} {q : Nat → Bool} (hq : ∀ i, q i = true → ρ'[i]? = ρ[i]?) {l : List AV} {cs : Array Value} (h : VL ρ l cs) (g : ∀ (j : Nat) a, l[j]? = some a → a = .top ∨ a.ok q = true) : VL ρ' l cs :=
  ⟨h.1, fun j a c h1 h2 => by
    rcases g j a h1 with rfl | g
    · exact .top c
    · exact (h.2 j a c h1 h2).agree hq g⟩
/-- No address in what is flat. -/
def AB.ok (q : Nat → Bool) : AB → Bool
  | .blk false _ xs => okL q xs
  | .lp _ _ fr _ _ _ => okL q fr
  | _ => true
theorem BR.agree {ρ ρ' : Mp} {q : Nat → Bool} (hq : ∀ i, q i = true → ρ'[i]? = ρ[i]?) {w w' : World} {b o n : Nat} {B : AB} (h : BR (KC P) ρ w b o n B) (hB : B.ok q = true) (hw : B.live = true → w'.heap[b]? = w.heap[b]?) : BR (KC P) ρ' w' b o n B := by
  cases B with
  | dead => trivial
  | blk fl m xs =>
    obtain ⟨cs, e, fz, h1, h2, h3, h4⟩ := h
    refine ⟨cs, e, fz, (hw rfl).trans h1, h2, h3, fun k a c ha hc => ?_⟩
    cases fl with
    | true => exact h4 k a c ha hc
    | false => exact (h4 k a c ha hc).agree hq (okL_iff.1 hB k a ha)
  | iter s pos => exact ⟨h.1, (hw rfl).trans h.2⟩
  | lp st pd fr ps asg bd =>
    obtain ⟨r, h1, h2, h3, h4, h5⟩ := h
    exact ⟨r, (hw rfl).trans h1, h2, h3, ⟨h4.1, fun k a c ha hc => (h4.2 k a c ha hc).agree hq (okL_iff.1 hB k a ha)⟩, h5⟩
def AB.freeze : AB → AB
  | .blk fl _ xs => .blk fl false xs
  | .iter _ _ => .dead
  | .lp _ _ _ _ _ _ => .dead
  | .dead => .dead
/-- B' says less than B. -/
def AB.le (B' B : AB) : Prop := B' = .dead ∨ B' = B.freeze ∨ B' = B
theorem AB.le.live {B' B : AB} (h : B'.le B) (hl : B'.live = true) : B.live = true := by
  rcases h with rfl | rfl | rfl
  · cases hl
  · cases B <;> first | rfl | cases hl
  · exact hl
theorem AB.le.mut {B' B : AB} (h : B'.le B) (hl : B'.mut = true) : B.mut = true := by
  rcases h with rfl | rfl | rfl
  · cases hl
  · cases B <;> cases hl
  · exact hl
theorem BR.le {ρ : Mp} {w : World} {b o n : Nat} {B B' : AB} (h : BR (KC P) ρ w b o n B) (hl : B'.le B) : BR (KC P) ρ w b o n B' := by
  rcases hl with rfl | rfl | rfl
  · trivial
  · cases B with
    | dead => trivial
    | blk fl m xs =>
      obtain ⟨cs, e, fz, h1, _, h3, h4⟩ := h
      exact ⟨cs, e, fz, h1, (fun e => nomatch e), h3, h4⟩
    | iter s pos => trivial
    | lp _ _ _ _ _ _ => trivial
  · exact h
/-- Part of a heap: fewer blocks, and some of them dead or not owned. -/
theorem Rel.part {ρ : Mp} {H M : List AB} {w : World} (r : Rel (KC P) ρ H w) {lo : Nat} (hM : M.length = lo) (hlo : lo ≤ H.length) (hle : ∀ (i : Nat) B' B, M[i]? = some B' → H[i]? = some B → B'.le B)
    (hok : ∀ (i : Nat) B, M[i]? = some B → B.ok (fun i => decide (i < lo)) = true) : Rel (KC P) (ρ.take lo) M w := by
  have tk : ∀ (i : Nat) x, (ρ.take lo)[i]? = some x → i < lo ∧ ρ[i]? = some x := fun i x h => by
    rw [List.getElem?_take] at h
    split at h
    · exact ⟨by assumption, h⟩
    · cases h
  have old : ∀ (i : Nat) B', M[i]? = some B' → ∃ B, H[i]? = some B ∧ B'.le B := fun i B' h => by
    have hi : i < H.length := by have := (List.getElem?_eq_some_iff.1 h).1; omega
    exact ⟨H[i], List.getElem?_eq_getElem hi, hle i B' _ h (List.getElem?_eq_getElem hi)⟩
  refine ⟨by rw [List.length_take, r.len, hM]; omega, fun i B b o n h1 h2 => ?_, fun i j bi oi bj oj Bi Bj hne h1 h2 h3 h4 hm hl => ?_⟩
  · obtain ⟨C, hC, hle'⟩ := old i B h1
    have hb := (r.blk i C b o n hC (tk i _ h2).2).le hle'
    refine hb.agree (q := fun i => decide (i < lo)) (fun i hi => ?_) (hok i B h1) (fun _ => rfl)
    rw [List.getElem?_take, if_pos (by simpa using hi)]
  · obtain ⟨Ci, hCi, hi⟩ := old i Bi h1
    obtain ⟨Cj, hCj, hj⟩ := old j Bj h2
    exact r.sep i j bi oi bj oj Ci Cj hne hCi hCj (tk i _ h3).2 (tk j _ h4).2 (hi.mut hm) (hj.live hl)

/-- The map with the numbers of one's own new blocks. -/
def splice (ρ ρ1 : Mp) (lo hi : Nat) : Mp := ρ.take lo ++ (ρ1.drop lo).take (hi - lo) ++ ρ.drop hi
theorem splice_get {ρ ρ1 : Mp} {lo hi : Nat} (h1 : lo ≤ hi) (h2 : ρ1.length = hi) (h3 : hi ≤ ρ.length) (i : Nat) : (splice ρ ρ1 lo hi)[i]? = if lo ≤ i ∧ i < hi then ρ1[i]? else ρ[i]? := by
  unfold splice
  by_cases hi1 : i < lo
  · rw [List.append_assoc, List.getElem?_append_left (by rw [List.length_take]; omega), List.getElem?_take, if_pos hi1, if_neg (by omega)]
  · by_cases hi2 : i < hi
    · rw [if_pos ⟨by omega, hi2⟩, List.getElem?_append_left (by simp; omega), List.getElem?_append_right (by rw [List.length_take]; omega), List.length_take, List.getElem?_take, if_pos (by omega), List.getElem?_drop]
      congr 1
      omega
    · rw [if_neg (by omega), List.getElem?_append_right (by simp; omega), List.getElem?_drop]
      congr 1
      simp
      omega
theorem splice_len {ρ ρ1 : Mp} {lo hi : Nat} (h1 : lo ≤ hi) (h2 : ρ1.length = hi) (h3 : hi ≤ ρ.length) : (splice ρ ρ1 lo hi).length = ρ.length := by
  unfold splice
  simp
  omega

/-- An operation was run under a mask: what holds of the whole. -/
theorem Rel.whole {p : Nat} {ρ ρ1 : Mp} {H M G H' : List AB} {w w1 : World} {lo hi : Nat} {T : Nat → Bool} {q : Nat → Bool} (r : Rel (KC P) ρ H w) (hM : M.length = lo) (hG : G.length = hi) (h12 : lo ≤ hi) (h2 : hi ≤ H.length) (hH' : H'.length = H.length) (hp : p ≤ lo)
    (hle : ∀ (i : Nat) B' B, M[i]? = some B' → H[i]? = some B → B'.le B)
    (hT : ∀ i, T i = true → i < hi) (hT1 : ∀ (i : Nat), T i = false → ¬ (lo ≤ i ∧ i < hi)) (hT2 : ∀ (i : Nat) B, T i = false → M[i]? = some B → B.mut = false)
    (hin : ∀ i, T i = true → H'[i]? = G[i]?) (hout : ∀ i, T i = false → H'[i]? = H[i]?)
    (hq : ∀ i, q i = true → ¬ (lo ≤ i ∧ i < hi)) (hqH : ∀ (i : Nat) B, H[i]? = some B → B.ok q = true)
    (r1 : Rel (KC P) ρ1 G w1) (e : EffP lo (ρ.take lo) M w ρ1 G w1) :
    Rel (KC P) (splice ρ ρ1 lo hi) H' w1 ∧ EffP p ρ H w (splice ρ ρ1 lo hi) H' w1 ∧ (∀ i, q i = true → (splice ρ ρ1 lo hi)[i]? = ρ[i]?) ∧ Ext ρ1 (splice ρ ρ1 lo hi) := by
  have hl1 : ρ1.length = hi := by rw [r1.len, hG]
  have hlρ : hi ≤ ρ.length := by rw [r.len]; exact h2
  have sg := splice_get h12 hl1 hlρ
  have tk : ∀ (i : Nat) x, (ρ.take lo)[i]? = some x → i < lo ∧ ρ[i]? = some x := fun i x h => by
    rw [List.getElem?_take] at h
    split at h
    · exact ⟨by assumption, h⟩
    · cases h
  have old : ∀ (i : Nat) B', M[i]? = some B' → ∃ B, H[i]? = some B ∧ B'.le B := fun i B' h => by
    have hi : i < H.length := by have := (List.getElem?_eq_some_iff.1 h).1; omega
    exact ⟨H[i], List.getElem?_eq_getElem hi, hle i B' _ h (List.getElem?_eq_getElem hi)⟩
  have ext1 : Ext ρ1 (splice ρ ρ1 lo hi) := fun i x hx => by
    rw [sg i]
    split
    · exact hx
    · rename_i hn
      have hi' : i < lo := by have := (List.getElem?_eq_some_iff.1 hx).1; omega
      have := e.fix i hi'
      rw [hx] at this
      rw [List.getElem?_take, if_pos hi'] at this
      exact this.symm
  have back1 : ∀ (i : Nat) x, i < hi → (splice ρ ρ1 lo hi)[i]? = some x → ρ1[i]? = some x := fun i x hi' h => by
    have := ext1 i _ (List.getElem?_eq_getElem (by omega : i < ρ1.length))
    rw [h] at this
    rw [List.getElem?_eq_getElem (by omega : i < ρ1.length)]
    exact this.symm
  have agq : ∀ i, q i = true → (splice ρ ρ1 lo hi)[i]? = ρ[i]? := fun i hi' => by
    rw [sg i, if_neg (hq i hi')]
  have sameF : ∀ i, T i = false → (splice ρ ρ1 lo hi)[i]? = ρ[i]? := fun i hi' => by
    rw [sg i, if_neg (hT1 i hi')]
  -- an owned block of the mask is an owned block of the whole, with a number that is touched
  have ownM : ∀ b, Own (ρ.take lo) M b → ∃ (i : Nat) (B : AB) (o : Nat × Nat), T i = true ∧ H[i]? = some B ∧ B.mut = true ∧ ρ[i]? = some (b, o) := fun b ⟨i, B', o, h1, hm, h3⟩ => by
    obtain ⟨B, hB, hle'⟩ := old i B' h1
    refine ⟨i, B, o, ?_, hB, hle'.mut hm, (tk i _ h3).2⟩
    cases ht : T i with
    | true => rfl
    | false => rw [hT2 i B' ht h1] at hm; cases hm
  have atM : ∀ (i b : Nat), At (ρ.take lo) M i b → At ρ H i b := fun i b ⟨B', o, h1, hl, h3⟩ => by
    obtain ⟨B, hB, hle'⟩ := old i B' h1
    exact ⟨B, o, hB, hle'.live hl, (tk i _ h3).2⟩
  have inG : ∀ (i : Nat) B, T i = true → H'[i]? = some B → G[i]? = some B := fun i B ht h => by rw [← hin i ht]; exact h
  have inH : ∀ (i : Nat) B, T i = false → H'[i]? = some B → H[i]? = some B := fun i B ht h => by rw [← hout i ht]; exact h
  refine ⟨⟨by rw [splice_len h12 hl1 hlρ, r.len, hH'], fun i B b o n k1 k2 => ?_, fun i j bi oi bj oj Bi Bj hne k1 k2 k3 k4 hm hl => ?_⟩, ⟨e.os, e.tape, e.output, e.size, fun b hb hn => e.keep b hb fun ho => ?_, fun b ho => ?_, fun i b ha => ?_, fun i hi' => ?_⟩, agq, ext1⟩
  · cases ht : T i with
    | true => exact (r1.blk i B b o n (inG i B ht k1) (back1 i _ (hT i ht) k2)).same ext1 (fun _ => rfl)
    | false =>
      have hH := inH i B ht k1
      rw [sameF i ht] at k2
      refine (r.blk i B b o n hH k2).agree agq (hqH i B hH) fun hl => e.keep b ((r.blk i B b o n hH k2).lt hl) fun ho => ?_
      obtain ⟨i', B', o', t', g1, g2, g3⟩ := ownM b ho
      exact r.sep i' i b o' b (o, n) B' B (fun e => by rw [e, ht] at t'; cases t') g1 hH g3 k2 g2 hl rfl
  · cases hti : T i with
    | true =>
      have gi := inG i Bi hti k1
      have ri := back1 i _ (hT i hti) k3
      cases htj : T j with
      | true => exact r1.sep i j bi oi bj oj Bi Bj hne gi (inG j Bj htj k2) ri (back1 j _ (hT j htj) k4) hm hl
      | false =>
        have hH := inH j Bj htj k2
        rw [sameF j htj] at k4
        rcases e.own bi ⟨i, Bi, oi, gi, hm, ri⟩ with ho | ho
        · obtain ⟨i', B', o', t', g1, g2, g3⟩ := ownM bi ho
          exact r.sep i' j bi o' bj oj B' Bj (fun e => by rw [e, htj] at t'; cases t') g1 hH g3 k4 g2 hl
        · have := (r.blk j Bj bj oj.1 oj.2 hH k4).lt hl
          omega
    | false =>
      have hHi := inH i Bi hti k1
      rw [sameF i hti] at k3
      cases htj : T j with
      | true =>
        have gj := inG j Bj htj k2
        have rj := back1 j _ (hT j htj) k4
        rcases e.acc j bj ⟨Bj, oj, gj, hl, rj⟩ with ⟨j', ha, h3, h4⟩ | ho | ho
        · have hj' : j' < lo := by
            obtain ⟨B', o', g1, _, _⟩ := ha
            have := (List.getElem?_eq_some_iff.1 g1).1
            omega
          have hj : j < lo := by
            rcases Nat.lt_or_ge j lo with q | q
            · exact q
            · have := h4 q; omega
          have := h3 hj
          subst this
          obtain ⟨B', o', g1, g2, g3⟩ := atM _ _ ha
          exact r.sep i j' bi oi bj o' Bi B' hne hHi g1 k3 g3 hm g2
        · obtain ⟨i', B', o', t', g1, g2, g3⟩ := ownM bj ho
          exact r.sep i i' bi oi bj o' Bi B' (fun e => by rw [← e, hti] at t'; cases t') hHi g1 k3 g3 hm (AB.live_of_mut g2)
        · have := (r.blk i Bi bi oi.1 oi.2 hHi k3).lt (AB.live_of_mut hm)
          omega
      | false =>
        rw [sameF j htj] at k4
        exact r.sep i j bi oi bj oj Bi Bj hne hHi (inH j Bj htj k2) k3 k4 hm hl
  · obtain ⟨i', B', o', _, g1, g2, g3⟩ := ownM b ho
    exact hn ⟨i', B', o', g1, g2, g3⟩
  · obtain ⟨i, B, o, g1, g2, g3⟩ := ho
    cases ht : T i with
    | true =>
      rcases e.own b ⟨i, B, o, inG i B ht g1, g2, back1 i _ (hT i ht) g3⟩ with ho | ho
      · obtain ⟨i', B', o', _, k1, k2, k3⟩ := ownM b ho
        exact .inl ⟨i', B', o', k1, k2, k3⟩
      · exact .inr ho
    | false => exact .inl ⟨i, B, o, inH i B ht g1, g2, by rw [← sameF i ht]; exact g3⟩
  · obtain ⟨B, o, g1, g2, g3⟩ := ha
    cases ht : T i with
    | true =>
      rcases e.acc i b ⟨B, o, inG i B ht g1, g2, back1 i _ (hT i ht) g3⟩ with ⟨j, ha, h3, h4⟩ | ho | ho
      · have hj' : j < lo := by
          obtain ⟨B', o', g1, _, _⟩ := ha
          have := (List.getElem?_eq_some_iff.1 g1).1
          omega
        have hj : i < lo := by
          rcases Nat.lt_or_ge i lo with q | q
          · exact q
          · have := h4 q; omega
        have := h3 hj
        subst this
        exact .inl ⟨j, atM _ _ ha, fun _ => rfl, fun q => q⟩
      · obtain ⟨i', B', o', _, k1, k2, k3⟩ := ownM b ho
        exact .inr (.inl ⟨i', B', o', k1, k2, k3⟩)
      · exact .inr (.inr ho)
    | false => exact .inl ⟨i, ⟨B, o, inH i B ht g1, g2, by rw [← sameF i ht]; exact g3⟩, fun _ => rfl, fun q => q⟩
  · rw [sg i, if_neg (by omega)]
end
end Go.Proofs.Ytbcpcjofkfgjoaa
