/- Comparisons of structs and arrays cell by cell, comparisons with nil, assertions, lengths. -/
import Derived.Test.YtbcpcjofkfgjoaaEvD
import Derived.ChangeKeysEq
namespace Go.Proofs.Ytbcpcjofkfgjoaa
open Go.RowKit

def win (X : List AV) (off n : Nat) : List AV := (X.drop off).take n
section
variable {P : Program}

def ckFields (P : Program) (rec : TypeId → Option (List CK)) : List Field → Nat → Option (List CK)
  | [], _ => some []
  | f :: fs, off => if f.name = "_" ∨ f.offset ≠ off then none else (rec f.type).bind fun ks => (ckFields P rec fs (off + ks.length)).map (ks ++ ·)
/-- The cells that are compared where two values of a type are. -/
def ckOf (P : Program) : Nat → TypeId → Option (List CK)
  | 0, _ => none
  | d + 1, t =>
    Option.bind (α := List CK) (match P.underlying t with
      | some .bool => some [.b]
      | some (.int _) => some [.i]
      | some .string => some [.s]
      | some (.struct fs) => if P.stoodInHeld t then none else ckFields P (ckOf P d) fs.toList 0
      | some (.array n e) => (ckOf P d e).map fun ks => (List.replicate n ks).flatten
      | _ => none) fun ks => if (P.info? t).map (·.size) = some ks.length then some ks else none

theorem eqCells_len : ∀ (ks : List CK) (xs ys : List AV) (r : Bool), eqCells ks xs ys = some r → xs.length = ks.length ∧ ys.length = ks.length
  | [], [], [], _, _ => ⟨rfl, rfl⟩
  | [], [], _ :: _, r, h => by simp [eqCells] at h
  | [], _ :: _, _, r, h => by simp [eqCells] at h
  | k :: ks, [], _, r, h => by simp [eqCells] at h
  | k :: ks, _ :: _, [], r, h => by simp [eqCells] at h
  | k :: ks, x :: xs, y :: ys, r, h => by
    simp only [eqCells] at h
    obtain ⟨a, _, h⟩ := Option.bind_eq_some_iff.1 h
    obtain ⟨b, hb, _⟩ := Option.map_eq_some_iff.1 h
    have := eqCells_len ks xs ys b hb
    simp [this.1, this.2]
theorem eqCells_append : ∀ (ks ls : List CK) (xs ys : List AV) (r : Bool), eqCells (ks ++ ls) xs ys = some r → ∃ r1 r2, eqCells ks (xs.take ks.length) (ys.take ks.length) = some r1 ∧ eqCells ls (xs.drop ks.length) (ys.drop ks.length) = some r2 ∧ r = (r1 && r2)
  | [], ls, xs, ys, r, h => ⟨true, r, by simp [eqCells], by simpa using h, by simp⟩
  | k :: ks, ls, [], ys, r, h => by simp [eqCells] at h
  | k :: ks, ls, x :: xs, [], r, h => by simp [eqCells] at h
  | k :: ks, ls, x :: xs, y :: ys, r, h => by
    simp only [List.cons_append, eqCells] at h
    obtain ⟨a, ha, h⟩ := Option.bind_eq_some_iff.1 h
    obtain ⟨b, hb, rfl⟩ := Option.map_eq_some_iff.1 h
    obtain ⟨r1, r2, h1, h2, rfl⟩ := eqCells_append ks ls xs ys b hb
    refine ⟨a && r1, r2, ?_, by simpa using h2, by rw [Bool.and_assoc]⟩
    simp [eqCells, ha, h1]

def EqOk (P : Program) (d : Nat) (t : TypeId) (ks : List CK) : Prop :=
  (P.info? t).map (·.size) = some ks.length ∧ ∀ (k : Nat) (ρ : Mp) (X Y : List AV) (C D : Array Value) (off : Nat) (r : Bool), VL ρ X C → VL ρ Y D → eqCells ks (win X off ks.length) (win Y off ks.length) = some r →
    ∀ w, ∃ a b, (part t C off).run P w = .ok a w ∧ (part t D off).run P w = .ok b w ∧ (Op.equalIn (d + k) t a b).run P w = .ok r w

theorem win_one {X : List AV} {off : Nat} {x : AV} {l : List AV} (h : win X off 1 = x :: l) : X[off]? = some x := by
  unfold win at h
  have : ((X.drop off).take 1)[0]? = some x := by rw [h]; rfl
  simpa [List.getElem?_take, List.getElem?_drop] using this
theorem win_win (X : List AV) (a n b m : Nat) (h : b + m ≤ n) : win (win X a n) b m = win X (a + b) m := by
  unfold win
  rw [List.drop_take, List.take_take, List.drop_drop, Nat.min_eq_left (by omega)]
theorem win_take (X : List AV) (a n m : Nat) (h : m ≤ n) : (win X a n).take m = win X a m := by
  unfold win
  rw [List.take_take, Nat.min_eq_left h]
theorem win_drop (X : List AV) (a n m : Nat) : (win X a n).drop m = win X (a + m) (n - m) := by
  unfold win
  rw [List.drop_take, List.drop_drop]

theorem eqFields_ok {d k : Nat} {rec : TypeId → Option (List CK)} (hrec : ∀ t ks, rec t = some ks → EqOk P d t ks) {ρ : Mp} {X Y : List AV} {C D : Array Value} (hX : VL ρ X C) (hY : VL ρ Y D) (w : World) :
    ∀ (fs : List Field) (off : Nat) (ks : List CK) (r : Bool), ckFields P rec fs off = some ks → eqCells ks (win X off ks.length) (win Y off ks.length) = some r → (Op.eqFields (d + k) C D fs).run P w = .ok r w
  | [], off, ks, r, h, e => by
    cases h
    simp [win, eqCells] at e
    subst e
    rfl
  | f :: fs, off, ks, r, h, e => by
    simp only [ckFields] at h
    split at h
    · cases h
    · rename_i hn
      obtain ⟨k1, hk1, h⟩ := Option.bind_eq_some_iff.1 h
      obtain ⟨k2, hk2, rfl⟩ := Option.map_eq_some_iff.1 h
      have hname : f.name ≠ "_" := fun q => hn (.inl q)
      have hoff : f.offset = off := Decidable.byContradiction fun q => hn (.inr q)
      obtain ⟨r1, r2, e1, e2, rfl⟩ := eqCells_append k1 k2 _ _ r e
      rw [List.length_append, win_take _ _ _ _ (by omega), win_take _ _ _ _ (by omega)] at e1
      rw [List.length_append, win_drop, win_drop, Nat.add_sub_cancel_left] at e2
      obtain ⟨a, b, p1, p2, p3⟩ := (hrec _ _ hk1).2 k ρ X Y C D off r1 hX hY e1 w
      have ih := eqFields_ok hrec hX hY w fs (off + k1.length) k2 r2 hk2 e2 (k := k)
      simp only [Op.eqFields, hname, ne_eq, not_false_eq_true, if_true, Sem.run_bind, hoff, p1, p2, p3, Result.andThen_ok]
      cases r1 <;> simp [ih]
theorem eqItems_ok {d k : Nat} {e : TypeId} {ks : List CK} (he : EqOk P d e ks) {ρ : Mp} {X Y : List AV} {C D : Array Value} (hX : VL ρ X C) (hY : VL ρ Y D) (w : World) :
    ∀ (n s : Nat) (r : Bool), eqCells ((List.replicate n ks).flatten) (win X (s * ks.length) (n * ks.length)) (win Y (s * ks.length) (n * ks.length)) = some r → (Op.eqItems (d + k) e ks.length C D (List.range' s n)).run P w = .ok r w
  | 0, s, r, e => by
    simp [win, eqCells] at e
    subst e
    rfl
  | n + 1, s, r, e => by
    rw [List.replicate_succ, List.flatten_cons] at e
    obtain ⟨r1, r2, e1, e2, rfl⟩ := eqCells_append _ _ _ _ r e
    rw [win_take _ _ _ _ (by rw [Nat.add_mul]; omega), win_take _ _ _ _ (by rw [Nat.add_mul]; omega)] at e1
    rw [win_drop, win_drop, Nat.add_mul, Nat.one_mul, Nat.add_sub_cancel, show s * ks.length + ks.length = (s + 1) * ks.length by rw [Nat.add_mul, Nat.one_mul]] at e2
    obtain ⟨a, b, p1, p2, p3⟩ := he.2 k ρ X Y C D _ r1 hX hY e1 w
    have ih := eqItems_ok he hX hY w n (s + 1) r2 e2 (k := k)
    rw [List.range'_succ]
    simp only [Op.eqItems, Sem.run_bind, p1, p2, p3, Result.andThen_ok]
    cases r1 <;> simp [ih]
theorem info_size {t : TypeId} {n : Nat} (h : (P.info? t).map (·.size) = some n) : ∃ i, P.info? t = some i ∧ i.size = n := by
  cases hq : P.info? t with
  | none => simp [hq] at h
  | some i => exact ⟨i, rfl, by simpa [hq] using h⟩
theorem part_agg {t : TypeId} {d : TypeDesc} (hd : P.underlying t = some d) (ha : isAg d = true) {n : Nat} (hs : (P.info? t).map (·.size) = some n) (C : Array Value) (off : Nat) (w : World) : (part t C off).run P w = .ok (.agg (C.extract off (off + n))) w := by
  obtain ⟨i, hi, rfl⟩ := info_size hs
  unfold part
  simp [run_isAgg hd, ha, sizeOf, typeInfo, hi]
theorem part_one {t : TypeId} {d : TypeDesc} (hd : P.underlying t = some d) (ha : isAg d = false) {C : Array Value} {off : Nat} {c : Value} (hc : C[off]? = some c) (w : World) : (part t C off).run P w = .ok c w := by
  unfold part
  simp [run_isAgg hd, ha, hc]
theorem win_two {X : List AV} {off : Nat} {l : List AV} (h : win X off 1 = l) (hl : l.length = 1) : ∃ x, l = [x] ∧ X[off]? = some x := by
  match l, hl with
  | [x], _ => exact ⟨x, rfl, win_one h⟩
theorem ck_ok : ∀ (d : Nat) (t : TypeId) (ks : List CK), ckOf P d t = some ks → EqOk P d t ks
  | 0, t, ks, h => by cases h
  | d + 1, t, ks, h => by
    simp only [ckOf] at h
    obtain ⟨k1, h1, h⟩ := Option.bind_eq_some_iff.1 h
    split at h
    case isFalse => cases h
    rename_i hs
    cases h
    refine ⟨hs, fun k ρ X Y C D off r hX hY e w => ?_⟩
    have hl := eqCells_len _ _ _ _ e
    split at h1
    · rename_i hu
      cases h1
      obtain ⟨x, hx, hx1⟩ := win_two (X := X) (off := off) rfl hl.1
      obtain ⟨y, hy, hy1⟩ := win_two (X := Y) (off := off) rfl hl.2
      simp only [List.length_singleton] at e
      rw [hx, hy] at e
      obtain ⟨c, hc, vc⟩ := hX.get hx1
      obtain ⟨c', hc', vc'⟩ := hY.get hy1
      refine ⟨c, c', part_one hu rfl hc w, part_one hu rfl hc' w, ?_⟩
      cases vc <;> cases vc' <;> simp [eqCells, eqCell] at e
      subst e
      rw [show d + 1 + k = (d + k) + 1 by omega, run_equalIn_bool' w (d + k) t _ _ hu]
    · rename_i kk hu
      cases h1
      obtain ⟨x, hx, hx1⟩ := win_two (X := X) (off := off) rfl hl.1
      obtain ⟨y, hy, hy1⟩ := win_two (X := Y) (off := off) rfl hl.2
      simp only [List.length_singleton] at e
      rw [hx, hy] at e
      obtain ⟨c, hc, vc⟩ := hX.get hx1
      obtain ⟨c', hc', vc'⟩ := hY.get hy1
      refine ⟨c, c', part_one hu rfl hc w, part_one hu rfl hc' w, ?_⟩
      cases vc with
      | i q1 n1 =>
        cases vc' with
        | i q2 n2 =>
          simp [eqCells, eqCell] at e
          obtain ⟨rfl, rfl⟩ := e
          rw [show d + 1 + k = (d + k) + 1 by omega, run_equalIn_int w (d + k) t q1 kk _ _ hu]
        | _ => simp [eqCells, eqCell] at e
      | _ => simp [eqCells, eqCell] at e
    · rename_i hu
      cases h1
      obtain ⟨x, hx, hx1⟩ := win_two (X := X) (off := off) rfl hl.1
      obtain ⟨y, hy, hy1⟩ := win_two (X := Y) (off := off) rfl hl.2
      simp only [List.length_singleton] at e
      rw [hx, hy] at e
      obtain ⟨c, hc, vc⟩ := hX.get hx1
      obtain ⟨c', hc', vc'⟩ := hY.get hy1
      refine ⟨c, c', part_one hu rfl hc w, part_one hu rfl hc' w, ?_⟩
      cases vc with
      | s l1 b1 g1 =>
        cases vc' with
        | s l2 b2 g2 =>
          simp [eqCells, eqCell] at e
          subst e
          rw [show d + 1 + k = (d + k) + 1 by omega, run_equalIn_string w (d + k) t _ _ hu, bytes_list, bytes_list, g1, g2]
        | _ => simp [eqCells, eqCell] at e
      | _ => simp [eqCells, eqCell] at e
    · rename_i fs hu
      split at h1
      · cases h1
      · rename_i hp
        have hp' : P.stoodInHeld t = false := by simpa using hp
        refine ⟨_, _, part_agg hu rfl hs C off w, part_agg hu rfl hs D off w, ?_⟩
        have hf : P.fieldsOf t = fs := by unfold Program.fieldsOf; rw [hu]
        rw [show d + 1 + k = (d + k) + 1 by omega, run_equalIn_struct w (d + k) t _ _ (by rw [hf]; exact hu) hp', hf]
        refine eqFields_ok (rec := ckOf P d) (fun t ks h => ck_ok d t ks h) (hX.extract off ks.length) (hY.extract off ks.length) w fs.toList 0 ks r h1 ?_
        have e1 : win ((X.drop off).take ks.length) 0 ks.length = win X off ks.length := by have := win_win X off ks.length 0 ks.length (by omega); simpa [win] using this
        have e2 : win ((Y.drop off).take ks.length) 0 ks.length = win Y off ks.length := by have := win_win Y off ks.length 0 ks.length (by omega); simpa [win] using this
        rw [e1, e2]
        exact e
    · rename_i n e' hu
      obtain ⟨k2, hk2, rfl⟩ := Option.map_eq_some_iff.1 h1
      have ih := ck_ok d e' k2 hk2
      obtain ⟨i, hi, his⟩ := info_size ih.1
      refine ⟨_, _, part_agg hu rfl hs C off w, part_agg hu rfl hs D off w, ?_⟩
      have hc : P.cellsOf e' = k2.length := by unfold Program.cellsOf; rw [hi]; simpa using his
      rw [show d + 1 + k = (d + k) + 1 by omega, run_equalIn_array w (d + k) _ _ hu hi, hc, List.range_eq_range']
      have hln : ((List.replicate n k2).flatten).length = n * k2.length := by simp
      refine eqItems_ok ih (hX.extract off _) (hY.extract off _) w n 0 r ?_
      rw [Nat.zero_mul, ← hln]
      have e1 : win ((X.drop off).take ((List.replicate n k2).flatten).length) 0 ((List.replicate n k2).flatten).length = win X off ((List.replicate n k2).flatten).length := by have := win_win X off ((List.replicate n k2).flatten).length 0 ((List.replicate n k2).flatten).length (by omega); simpa [win] using this
      have e2 : win ((Y.drop off).take ((List.replicate n k2).flatten).length) 0 ((List.replicate n k2).flatten).length = win Y off ((List.replicate n k2).flatten).length := by have := win_win Y off ((List.replicate n k2).flatten).length 0 ((List.replicate n k2).flatten).length (by omega); simpa [win] using this
      rw [e1, e2]
      exact e
    · cases h1
theorem ans_eqc {ρ : Mp} (neg : Bool) (d : Nat) (t : TypeId) {ks : List CK} (hk : ckOf P d t = some ks) (hd : d ≤ 10000) (ha : (P.underlying t).map isAg = some true) (hg : P.eqGuardType P.depth t = false) (X Y : Operand) {l l' : List AV} {vx vy : Value} (hx : VR ρ (.ag l) vx) (hy : VR ρ (.ag l') vy) {r : Bool} (e : eqCells ks l l' = some r) :
    Ans P ρ (do eqGuard (if neg then .neq else .eql) t X Y vx vy; binOp (if neg then .neq else .eql) t vx vy) (.b (r ^^ neg)) := by
  obtain ⟨C, rfl, hC⟩ := agg_vl hx
  obtain ⟨D, rfl, hD⟩ := agg_vl hy
  obtain ⟨dd, hdd, hag⟩ := Option.map_eq_some_iff.1 ha
  have hl := eqCells_len _ _ _ _ e
  refine Ans.mk (fun w => ?_) (.b _)
  have hok := ck_ok d t ks hk
  obtain ⟨a, b, p1, p2, p3⟩ := hok.2 (10000 - d) ρ l l' C D 0 r hC hD (by
    have e1 : win l 0 ks.length = l := by simp [win, ← hl.1]
    have e2 : win l' 0 ks.length = l' := by simp [win, ← hl.2]
    rw [e1, e2]
    exact e) w
  have q1 := part_agg hdd hag hok.1 C 0 w
  have q2 := part_agg hdd hag hok.1 D 0 w
  have hCs : C.extract 0 (0 + ks.length) = C := by rw [Nat.zero_add, ← hl.1, hC.1]; simp
  have hDs : D.extract 0 (0 + ks.length) = D := by rw [Nat.zero_add, ← hl.2, hD.1]; simp
  rw [hCs, p1] at q1
  rw [hDs, p2] at q2
  cases q1
  cases q2
  rw [show d + (10000 - d) = 10000 by omega] at p3
  cases neg
  · simp only [Bool.false_eq_true, if_false, Sem.run_bind, run_eqGuard_agg w .eql t X Y C D hg, Result.andThen_ok, run_eql_struct, p3, Bool.xor_false]
  · simp only [if_true, Sem.run_bind, run_eqGuard_agg w .neq t X Y C D hg, Result.andThen_ok, run_neq_struct, p3, Bool.xor_true]
end
end Go.Proofs.Ytbcpcjofkfgjoaa
