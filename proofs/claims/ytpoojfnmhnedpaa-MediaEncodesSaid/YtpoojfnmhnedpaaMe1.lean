/- Part 1 of what the laws' proofs rest on. No condition. -/
import Derived.ChangeKeysEq
import Derived.Test.YtpoojfnmhnedpaaMe0
set_option linter.all false
section
namespace Go.Proofs.Ytpoojfnmhnedpaa
open Go.RowKit
def win (X : List AV) (off n : Nat) : List AV := (X.drop off).take n
section
variable {P : Program}
def qNP (P : Program) (rec : TypeId → Option (List CK)) : List Field → Nat → Option (List CK)
 | [], _ => some []
 | f :: fs, off => if f.name = "_" ∨ f.offset ≠ off then none else (rec f.type).bind fun ks => (qNP P rec fs (off + ks.length)).map (ks ++ ·)
def ckOf (P : Program) : Nat → TypeId → Option (List CK)
 | 0, _ => none
 | d + 1, t =>
  Option.bind (α := List CK) (match P.underlying t with
   | some .bool => some [.b]
   | some (.int _) => some [.i]
   | some .string => some [.s]
   | some (.struct fs) => if P.stoodInHeld t then none else qNP P (ckOf P d) fs.toList 0
   | some (.array n e) => (ckOf P d e).map fun ks => (List.replicate n ks).flatten
   | _ => none) fun ks => if (P.info? t).map (·.size) = some ks.length then some ks else none
theorem YyE : ∀ (ks : List CK) (xs ys : List AV) (r : Bool), K1E ks xs ys = some r → xs.length = ks.length ∧ ys.length = ks.length
 | [], [], [], _, _ => ⟨rfl, rfl⟩
 | [], [], _ :: _, r, h => by simp [K1E] at h
 | [], _ :: _, _, r, h => by simp [K1E] at h
 | k :: ks, [], _, r, h => by simp [K1E] at h
 | k :: ks, _ :: _, [], r, h => by simp [K1E] at h
 | k :: ks, x :: xs, y :: ys, r, h => by
  simp only [K1E] at h
  obtain ⟨a, _, h⟩ := Option.bind_eq_some_iff.1 h
  obtain ⟨b, hb, _⟩ := Option.map_eq_some_iff.1 h
  have := YyE ks xs ys b hb
  simp [this.1, this.2]
theorem JRQ : ∀ (ks ls : List CK) (xs ys : List AV) (r : Bool), K1E (ks ++ ls) xs ys = some r → ∃ r1 r2, K1E ks (xs.take ks.length) (ys.take ks.length) = some r1 ∧ K1E ls (xs.drop ks.length) (ys.drop ks.length) = some r2 ∧ r = (r1 && r2)
 | [], ls, xs, ys, r, h => ⟨true, r, by simp [K1E], by simpa using h, by simp⟩
 | k :: ks, ls, [], ys, r, h => by simp [K1E] at h
 | k :: ks, ls, x :: xs, [], r, h => by simp [K1E] at h
 | k :: ks, ls, x :: xs, y :: ys, r, h => by
  simp only [List.cons_append, K1E] at h
  obtain ⟨a, ha, h⟩ := Option.bind_eq_some_iff.1 h
  obtain ⟨b, hb, rfl⟩ := Option.map_eq_some_iff.1 h
  obtain ⟨r1, r2, h1, h2, rfl⟩ := JRQ ks ls xs ys b hb
  refine ⟨a && r1, r2, ?_, by simpa using h2, by rw [Bool.and_assoc]⟩
  simp [K1E, ha, h1]
def EqOk (P : Program) (d : Nat) (t : TypeId) (ks : List CK) : Prop :=
 (P.info? t).map (·.size) = some ks.length ∧ ∀ (k : Nat) (ρ : Mp) (X Y : List AV) (C D : Array Value) (off : Nat) (r : Bool), VL ρ X C → VL ρ Y D → K1E ks (win X off ks.length) (win Y off ks.length) = some r →
  ∀ w, ∃ a b, (part t C off).run P w = .ok a w ∧ (part t D off).run P w = .ok b w ∧ (Op.equalIn (d + k) t a b).run P w = .ok r w
theorem YXo {X : List AV} {off : Nat} {x : AV} {l : List AV} (h : win X off 1 = x :: l) : X[off]? = some x := by
 unfold win at h
 have : ((X.drop off).take 1)[0]? = some x := by rw [h]; rfl
 simpa [List.getElem?_take, List.getElem?_drop] using this
theorem YJE (X : List AV) (a n b m : Nat) (h : b + m ≤ n) : win (win X a n) b m = win X (a + b) m := by
 unfold win
 rw [List.drop_take, List.take_take, List.drop_drop, Nat.min_eq_left (by omega)]
theorem QVW (X : List AV) (a n m : Nat) (h : m ≤ n) : (win X a n).take m = win X a m := by
 unfold win
 rw [List.take_take, Nat.min_eq_left h]
theorem XOj (X : List AV) (a n m : Nat) : (win X a n).drop m = win X (a + m) (n - m) := by
 unfold win
 rw [List.drop_take, List.drop_drop]
theorem Ks6 {d k : Nat} {rec : TypeId → Option (List CK)} (hrec : ∀ t ks, rec t = some ks → EqOk P d t ks) {ρ : Mp} {X Y : List AV} {C D : Array Value} (hX : VL ρ X C) (hY : VL ρ Y D) (w : World) :
  ∀ (fs : List Field) (off : Nat) (ks : List CK) (r : Bool), qNP P rec fs off = some ks → K1E ks (win X off ks.length) (win Y off ks.length) = some r → (Op.eqFields (d + k) C D fs).run P w = .ok r w
 | [], off, ks, r, h, e => by
  cases h
  simp [win, K1E] at e
  subst e
  rfl
 | f :: fs, off, ks, r, h, e => by
  simp only [qNP] at h
  split at h
  ·cases h
  ·rename_i hn
   obtain ⟨k1, hk1, h⟩ := Option.bind_eq_some_iff.1 h
   obtain ⟨k2, hk2, rfl⟩ := Option.map_eq_some_iff.1 h
   have hname : f.name ≠ "_" := fun q => hn (.inl q)
   have hoff : f.offset = off := Decidable.byContradiction fun q => hn (.inr q)
   obtain ⟨r1, r2, e1, e2, rfl⟩ := JRQ k1 k2 _ _ r e
   rw [List.length_append, QVW _ _ _ _ (by omega), QVW _ _ _ _ (by omega)] at e1
   rw [List.length_append, XOj, XOj, Nat.add_sub_cancel_left] at e2
   obtain ⟨a, b, p1, p2, p3⟩ := (hrec _ _ hk1).2 k ρ X Y C D off r1 hX hY e1 w
   have ih := Ks6 hrec hX hY w fs (off + k1.length) k2 r2 hk2 e2 (k := k)
   simp only [Op.eqFields, hname, ne_eq, not_false_eq_true, if_true, Sem.run_bind, hoff, p1, p2, p3, Result.andThen_ok]
   cases r1 <;> simp [ih]
theorem zeI {d k : Nat} {e : TypeId} {ks : List CK} (he : EqOk P d e ks) {ρ : Mp} {X Y : List AV} {C D : Array Value} (hX : VL ρ X C) (hY : VL ρ Y D) (w : World) :
  ∀ (n s : Nat) (r : Bool), K1E ((List.replicate n ks).flatten) (win X (s * ks.length) (n * ks.length)) (win Y (s * ks.length) (n * ks.length)) = some r → (Op.eqItems (d + k) e ks.length C D (List.range' s n)).run P w = .ok r w
 | 0, s, r, e => by
  simp [win, K1E] at e
  subst e
  rfl
 | n + 1, s, r, e => by
  rw [List.replicate_succ, List.flatten_cons] at e
  obtain ⟨r1, r2, e1, e2, rfl⟩ := JRQ _ _ _ _ r e
  rw [QVW _ _ _ _ (by rw [Nat.add_mul]; omega), QVW _ _ _ _ (by rw [Nat.add_mul]; omega)] at e1
  rw [XOj, XOj, Nat.add_mul, Nat.one_mul, Nat.add_sub_cancel, show s * ks.length + ks.length = (s + 1) * ks.length by rw [Nat.add_mul, Nat.one_mul]] at e2
  obtain ⟨a, b, p1, p2, p3⟩ := he.2 k ρ X Y C D _ r1 hX hY e1 w
  have ih := zeI he hX hY w n (s + 1) r2 e2 (k := k)
  rw [List.range'_succ]
  simp only [Op.eqItems, Sem.run_bind, p1, p2, p3, Result.andThen_ok]
  cases r1 <;> simp [ih]
theorem za6 {t : TypeId} {n : Nat} (h : (P.info? t).map (·.size) = some n) : ∃ i, P.info? t = some i ∧ i.size = n := by
 cases hq : P.info? t with
 | none => simp [hq] at h
 | some i => exact ⟨i, rfl, by simpa [hq] using h⟩
theorem KP3 {t : TypeId} {d : TypeDesc} (hd : P.underlying t = some d) (ha : isAg d = true) {n : Nat} (hs : (P.info? t).map (·.size) = some n) (C : Array Value) (off : Nat) (w : World) : (part t C off).run P w = .ok (.agg (C.extract off (off + n))) w := by
 obtain ⟨i, hi, rfl⟩ := za6 hs
 unfold part
 simp [JVQ hd, ha, sizeOf, typeInfo, hi]
theorem QFg {t : TypeId} {d : TypeDesc} (hd : P.underlying t = some d) (ha : isAg d = false) {C : Array Value} {off : Nat} {c : Value} (hc : C[off]? = some c) (w : World) : (part t C off).run P w = .ok c w := by
 unfold part
 simp [JVQ hd, ha, hc]
theorem K3M {X : List AV} {off : Nat} {l : List AV} (h : win X off 1 = l) (hl : l.length = 1) : ∃ x, l = [x] ∧ X[off]? = some x := by
 match l, hl with
 | [x], _ => exact ⟨x, rfl, YXo h⟩
theorem zri : ∀ (d : Nat) (t : TypeId) (ks : List CK), ckOf P d t = some ks → EqOk P d t ks
 | 0, t, ks, h => by cases h
 | d + 1, t, ks, h => by
  simp only [ckOf] at h
  obtain ⟨k1, h1, h⟩ := Option.bind_eq_some_iff.1 h
  split at h
  case isFalse => cases h
  rename_i hs
  cases h
  refine ⟨hs, fun k ρ X Y C D off r hX hY e w => ?_⟩
  have hl := YyE _ _ _ _ e
  split at h1
  ·rename_i hu
   cases h1
   obtain ⟨x, hx, hx1⟩ := K3M (X := X) (off := off) rfl hl.1
   obtain ⟨y, hy, hy1⟩ := K3M (X := Y) (off := off) rfl hl.2
   simp only [List.length_singleton] at e
   rw [hx, hy] at e
   obtain ⟨c, hc, vc⟩ := hX.get hx1
   obtain ⟨c', hc', vc'⟩ := hY.get hy1
   refine ⟨c, c', QFg hu rfl hc w, QFg hu rfl hc' w, ?_⟩
   cases vc <;> cases vc' <;> simp [K1E, JCq] at e
   subst e
   rw [show d + 1 + k = (d + k) + 1 by omega, run_equalIn_bool' w (d + k) t _ _ hu]
  ·rename_i kk hu
   cases h1
   obtain ⟨x, hx, hx1⟩ := K3M (X := X) (off := off) rfl hl.1
   obtain ⟨y, hy, hy1⟩ := K3M (X := Y) (off := off) rfl hl.2
   simp only [List.length_singleton] at e
   rw [hx, hy] at e
   obtain ⟨c, hc, vc⟩ := hX.get hx1
   obtain ⟨c', hc', vc'⟩ := hY.get hy1
   refine ⟨c, c', QFg hu rfl hc w, QFg hu rfl hc' w, ?_⟩
   cases vc with
   | i q1 n1 =>
    cases vc' with
    | i q2 n2 =>
     simp [K1E, JCq] at e
     obtain ⟨rfl, rfl⟩ := e
     rw [show d + 1 + k = (d + k) + 1 by omega, run_equalIn_int w (d + k) t q1 kk _ _ hu]
    | _ => simp [K1E, JCq] at e
   | _ => simp [K1E, JCq] at e
  ·rename_i hu
   cases h1
   obtain ⟨x, hx, hx1⟩ := K3M (X := X) (off := off) rfl hl.1
   obtain ⟨y, hy, hy1⟩ := K3M (X := Y) (off := off) rfl hl.2
   simp only [List.length_singleton] at e
   rw [hx, hy] at e
   obtain ⟨c, hc, vc⟩ := hX.get hx1
   obtain ⟨c', hc', vc'⟩ := hY.get hy1
   refine ⟨c, c', QFg hu rfl hc w, QFg hu rfl hc' w, ?_⟩
   cases vc with
   | s l1 b1 g1 =>
    cases vc' with
    | s l2 b2 g2 =>
     simp [K1E, JCq] at e
     subst e
     rw [show d + 1 + k = (d + k) + 1 by omega, run_equalIn_string w (d + k) t _ _ hu, JrA, JrA, g1, g2]
    | _ => simp [K1E, JCq] at e
   | _ => simp [K1E, JCq] at e
  ·rename_i fs hu
   split at h1
   ·cases h1
   ·rename_i hp
    have hp' : P.stoodInHeld t = false := by simpa using hp
    refine ⟨_, _, KP3 hu rfl hs C off w, KP3 hu rfl hs D off w, ?_⟩
    have hf : P.fieldsOf t = fs := by unfold Program.fieldsOf; rw [hu]
    rw [show d + 1 + k = (d + k) + 1 by omega, run_equalIn_struct w (d + k) t _ _ (by rw [hf]; exact hu) hp', hf]
    refine Ks6 (rec := ckOf P d) (fun t ks h => zri d t ks h) (hX.extract off ks.length) (hY.extract off ks.length) w fs.toList 0 ks r h1 ?_
    have e1 : win ((X.drop off).take ks.length) 0 ks.length = win X off ks.length := by have := YJE X off ks.length 0 ks.length (by omega); simpa [win] using this
    have e2 : win ((Y.drop off).take ks.length) 0 ks.length = win Y off ks.length := by have := YJE Y off ks.length 0 ks.length (by omega); simpa [win] using this
    rw [e1, e2]
    exact e
  ·rename_i n e' hu
   obtain ⟨k2, hk2, rfl⟩ := Option.map_eq_some_iff.1 h1
   have ih := zri d e' k2 hk2
   obtain ⟨i, hi, his⟩ := za6 ih.1
   refine ⟨_, _, KP3 hu rfl hs C off w, KP3 hu rfl hs D off w, ?_⟩
   have hc : P.cellsOf e' = k2.length := by unfold Program.cellsOf; rw [hi]; simpa using his
   rw [show d + 1 + k = (d + k) + 1 by omega, run_equalIn_array w (d + k) _ _ hu hi, hc, List.range_eq_range']
   have hln : ((List.replicate n k2).flatten).length = n * k2.length := by simp
   refine zeI ih (hX.extract off _) (hY.extract off _) w n 0 r ?_
   rw [Nat.zero_mul, ← hln]
   have e1 : win ((X.drop off).take ((List.replicate n k2).flatten).length) 0 ((List.replicate n k2).flatten).length = win X off ((List.replicate n k2).flatten).length := by have := YJE X off ((List.replicate n k2).flatten).length 0 ((List.replicate n k2).flatten).length (by omega); simpa [win] using this
   have e2 : win ((Y.drop off).take ((List.replicate n k2).flatten).length) 0 ((List.replicate n k2).flatten).length = win Y off ((List.replicate n k2).flatten).length := by have := YJE Y off ((List.replicate n k2).flatten).length 0 ((List.replicate n k2).flatten).length (by omega); simpa [win] using this
   rw [e1, e2]
   exact e
  ·cases h1
theorem Z0b {ρ : Mp} (neg : Bool) (d : Nat) (t : TypeId) {ks : List CK} (hk : ckOf P d t = some ks) (hd : d ≤ 10000) (ha : (P.underlying t).map isAg = some true) (hg : P.eqGuardType P.depth t = false) (X Y : Operand) {l l' : List AV} {vx vy : Value} (hx : VR ρ (.ag l) vx) (hy : VR ρ (.ag l') vy) {r : Bool} (e : K1E ks l l' = some r) :
  Ans P ρ (do eqGuard (if neg then .neq else .eql) t X Y vx vy; binOp (if neg then .neq else .eql) t vx vy) (.b (r ^^ neg)) := by
 obtain ⟨C, rfl, hC⟩ := qAw hx
 obtain ⟨D, rfl, hD⟩ := qAw hy
 obtain ⟨dd, hdd, hag⟩ := Option.map_eq_some_iff.1 ha
 have hl := YyE _ _ _ _ e
 refine Ans.mk (fun w => ?_) (.b _)
 have hok := zri d t ks hk
 obtain ⟨a, b, p1, p2, p3⟩ := hok.2 (10000 - d) ρ l l' C D 0 r hC hD (by
  have e1 : win l 0 ks.length = l := by simp [win, ← hl.1]
  have e2 : win l' 0 ks.length = l' := by simp [win, ← hl.2]
  rw [e1, e2]
  exact e) w
 have q1 := KP3 hdd hag hok.1 C 0 w
 have q2 := KP3 hdd hag hok.1 D 0 w
 have hCs : C.extract 0 (0 + ks.length) = C := by rw [Nat.zero_add, ← hl.1, hC.1]; simp
 have hDs : D.extract 0 (0 + ks.length) = D := by rw [Nat.zero_add, ← hl.2, hD.1]; simp
 rw [hCs, p1] at q1
 rw [hDs, p2] at q2
 cases q1
 cases q2
 rw [show d + (10000 - d) = 10000 by omega] at p3
 cases neg
 ·simp only [Bool.false_eq_true, if_false, Sem.run_bind, run_eqGuard_agg w .eql t X Y C D hg, Result.andThen_ok, run_eql_struct, p3, Bool.xor_false]
 ·simp only [if_true, Sem.run_bind, run_eqGuard_agg w .neq t X Y C D hg, Result.andThen_ok, run_neq_struct, p3, Bool.xor_true]
end
end Go.Proofs.Ytpoojfnmhnedpaa
end
section
namespace Go.Proofs.Ytpoojfnmhnedpaa
open Go.RowKit
section
variable {P : Program}
theorem ZAy {ρ : Mp} (t : TypeId) {d : TypeDesc} (hd : P.underlying t = some d) (hn : ∀ ms, d ≠ .interface ms) {x : AV} {vx : Value} (hx : VR ρ x vx) : Ans P ρ (Instr.makeInterface t vx) (.ifc t x) :=
 Ans.mk (fun w => by cases d <;> simp_all [Instr.makeInterface, run_underlying hd]) (.ifc t x vx hx)
theorem zjk {ρ : Mp} {l : List AV} {vx : Value} (hx : VR ρ (.tu l) vx) (i : Nat) {r : AV} (e : l[i]? = some r) : Ans P ρ (Instr.extract vx i) r := by
 obtain ⟨cs, rfl, hl⟩ := zS4 hx
 obtain ⟨c, hc, hv⟩ := hl.get e
 exact Ans.mk (fun w => by simp [Instr.extract, hc]) hv
theorem KNw {ρ : Mp} (t ty : TypeId) {d : TypeDesc} (ht : P.underlying t = some d) (hd : d = .string ∨ ∃ e, d = .slice e) {x : AV} {vx : Value} (hx : VR ρ x vx) {n : Int} (e : lenV x = some n) (hk : (d = .string) = (∃ l, x = .s l)) : Ans P ρ (Builtin.len_ #[t] ty #[vx]) (.i .i64 n) := by
 cases hx with
 | s l bs h =>
  cases e
  subst h
  have hs : d = .string := by rw [hk]; exact ⟨_, rfl⟩
  subst hs
  refine Ans.mk (fun w => ?_) (.i _ _)
  simp [Builtin.len_, run_underlying ht, goInt]
 | sl id off k cap kc b o m cap' h h1 h2 h3 h4 h5 =>
  cases e
  rcases hd with rfl | ⟨e', rfl⟩
  ·exact absurd (hk.mp rfl) (by simp)
  ·exact Ans.mk (fun w => by simp [Builtin.len_, run_underlying ht, goInt]) (.i _ _)
 | sz id off a c h hn =>
  cases e
  rcases hd with rfl | ⟨e', rfl⟩
  ·exact absurd (hk.mp rfl) (by simp)
  ·exact Ans.mk (fun w => by simp [Builtin.len_, run_underlying ht, goInt]) (.i _ _)
 | ns =>
  cases e
  rcases hd with rfl | ⟨e', rfl⟩
  ·exact absurd (hk.mp rfl) (by simp)
  ·exact Ans.mk (fun w => by simp [Builtin.len_, run_underlying ht, goInt]) (.i _ _)
 | se a c h =>
  cases e
  rcases hd with rfl | ⟨e', rfl⟩
  ·exact absurd (hk.mp rfl) (by simp)
  ·exact Ans.mk (fun w => by simp [Builtin.len_, run_underlying ht, goInt]) (.i _ _)
 | _ => simp [lenV] at e
theorem QEC {ρ : Mp} (mx : Bool) (ts : Array TypeId) (ty : TypeId) {x y r : AV} {vx vy : Value} (hx : VR ρ x vx) (hy : VR ρ y vy) (e : mmV mx x y = some r) : Ans P ρ (if mx then Builtin.max_ ts ty #[vx, vy] else Builtin.min_ ts ty #[vx, vy]) r := by
 cases hx with
 | i k a =>
  cases hy with
  | i k' b =>
   cases e
   cases mx
   ·exact Ans.mk (fun w => by simp [Builtin.min_, Builtin.min2]) (.i _ _)
   ·exact Ans.mk (fun w => by simp [Builtin.max_, Builtin.max2]) (.i _ _)
  | _ => simp [mmV] at e
 | _ => simp [mmV] at e
def tasV (t : TypeId) (ok : Bool) (z : AV) : AV → Option AV
 | .ifc t' v => if t' = t then some (if ok then .tu [v, .b true] else v) else if ok then some (.tu [z, .b false]) else none
 | .ni => if ok then some (.tu [z, .b false]) else none
 | _ => none
theorem ZPP {ρ : Mp} {a b : AV} {v u : Value} (ha : VR ρ a v) (hb : VR ρ b u) : VR ρ (.tu [a, b]) (.tuple #[v, u]) :=
 let h := VL.cons ha (VL.cons hb (VL.nil ρ))
 .tu _ _ h.1 h.2
theorem zED {ρ : Mp} (tx t : TypeId) (ok : Bool) {d : TypeDesc} {i : TypeInfo} {zv : Value} {z : AV} (hd : P.underlying t = some d) (hn : ∀ ms, d ≠ .interface ms) (hi : P.info? t = some i) (hz : i.zero = some zv) (hzr : VR ρ z zv) {x r : AV} {vx : Value} (hx : VR ρ x vx) (e : tasV t ok z x = some r) : Ans P ρ (Instr.typeAssert vx tx t ok) r := by
 have hzero : ∀ w, (zeroValue t).run P w = .ok zv w := fun w => by simp [zeroValue, typeInfo, hi, hz]
 cases hx with
 | ifc t' v v' h =>
  simp only [tasV] at e
  split at e
  ·rename_i he
   subst he
   cases e
   cases ok
   ·exact Ans.mk (fun w => by cases d <;> simp_all [Instr.typeAssert, run_underlying hd]) h
   ·exact Ans.mk (v := .tuple #[v', .bool true]) (fun w => by cases d <;> simp_all [Instr.typeAssert, run_underlying hd]) (ZPP h (.b _))
  ·rename_i he
   split at e
   ·rename_i hok
    subst hok
    cases e
    exact Ans.mk (v := .tuple #[zv, .bool false]) (fun w => by cases d <;> simp_all [Instr.typeAssert, run_underlying hd]) (ZPP hzr (.b _))
   ·cases e
 | ni =>
  simp only [tasV] at e
  split at e
  ·rename_i hok
   subst hok
   cases e
   exact Ans.mk (v := .tuple #[zv, .bool false]) (fun w => by cases d <;> simp_all [Instr.typeAssert, run_underlying hd]) (ZPP hzr (.b _))
  ·cases e
 | _ => simp [tasV] at e
def nilT : TypeDesc → Bool
 | .slice _ | .pointer _ | .func .. | .interface _ => true
 | _ => false
def JeN : TypeDesc → AV → Prop
 | .slice _, x => x = .ns
 | .pointer _, x => x = .np
 | .func .., x => x = .nf
 | .interface _, x => x = .ni
 | _, _ => False
theorem Yer {ρ : Mp} (t : TypeId) {d : TypeDesc} (hd : P.underlying t = some d) {x y : AV} {vx vy : Value} (hx : VR ρ x vx) (hy : VR ρ y vy) {r : Bool} (e : K2G x y = some r)
  (hs : JeN d x ∨ JeN d y) (k : Nat) (w : World) : (Op.equalIn (k + 1) t vx vy).run P w = .ok r w := by
 cases d <;> simp only [JeN, or_self] at hs
 all_goals (rcases hs with rfl | rfl)
 all_goals (first | cases hx | cases hy)
 all_goals (cases hy <;> simp [K2G] at e <;> (first | subst e | obtain ⟨_, rfl⟩ := e) <;> simp [Op.equalIn, run_underlying hd] <;> done)
theorem YsE {ρ : Mp} (op : BinOp) (t : TypeId) (X Y : Operand) (hc : (∃ v, X = .const v) ∨ ∃ v, Y = .const v) {x y : AV} {vx vy : Value} (hx : VR ρ x vx) (hy : VR ρ y vy) {r : Bool} (e : K2G x y = some r) (w : World) : (eqGuard op t X Y vx vy).run P w = .ok () w := by
 rcases hc with ⟨v, rfl⟩ | ⟨v, rfl⟩ <;> cases hx <;> cases hy <;> simp [K2G] at e <;> cases op <;> simp [eqGuard]
theorem Y1t {ρ : Mp} (neg : Bool) (t : TypeId) {d : TypeDesc} (hd : P.underlying t = some d) (X Y : Operand) (hc : (∃ v, X = .const v) ∨ ∃ v, Y = .const v) {x y : AV} {vx vy : Value} (hx : VR ρ x vx) (hy : VR ρ y vy) {r : Bool} (e : K2G x y = some r)
  (hs : JeN d x ∨ JeN d y) :
  Ans P ρ (do eqGuard (if neg then .neq else .eql) t X Y vx vy; binOp (if neg then .neq else .eql) t vx vy) (.b (r ^^ neg)) := by
 refine Ans.mk (fun w => ?_) (.b _)
 have h1 := Yer (P := P) t hd hx hy e hs 9999 w
 have h2 := fun op => YsE (P := P) op t X Y hc hx hy e w
 have hb : ∀ op, (op = .eql ∨ op = .neq) → binOp op t vx vy = (do let q ← Op.equal t vx vy; pure (.bool (if op = .eql then q else !q))) := by
  intro op ho
  rcases ho with rfl | rfl <;> cases hx <;> cases hy <;> simp [K2G] at e <;> simp [binOp]
 cases neg
 ·simp only [Bool.false_eq_true, if_false, Sem.run_bind, h2, Result.andThen_ok, hb .eql (.inl rfl), Op.equal, Op.maxDepth, h1]
  simp
 ·simp only [if_true, Sem.run_bind, h2, Result.andThen_ok, hb .neq (.inr rfl), Op.equal, Op.maxDepth, h1]
  simp
end
end Go.Proofs.Ytpoojfnmhnedpaa
end
section
namespace Go.Proofs.Ytpoojfnmhnedpaa
open Go.RowKit
section
variable {P : Program} {K : Code → CC → Prop}
def Good (K : Code → CC → Prop) (P : Program) (ρ : Mp) (h : List AB) (w : World) (s : Sem Value) (r : AV × List AB) : Prop :=
 ∃ v' w' ρ', s.run P w = .ok v' w' ∧ Ext ρ ρ' ∧ Rel K ρ' r.2 w' ∧ VR ρ' r.1 v' ∧ Eff ρ h w ρ' r.2 w'
theorem Ans.good {ρ : Mp} {h : List AB} {w : World} {s : Sem Value} {a : AV} (ha : Ans P ρ s a) (hr : Rel K ρ h w) : Good K P ρ h w s (a, h) :=
 let ⟨v, e, hv⟩ := ha w
 ⟨v, w, ρ, e, Ext.refl _, hr, hv, Eff.refl _ _ _⟩
theorem qbS {h : List AB} {id : Nat} {xs : List AV} (e : qhl h id = some xs) : ∃ fl m, h[id]? = some (.blk fl m xs) := by
 unfold qhl at e
 split at e
 ·rename_i fl m ys hq
  cases e
  exact ⟨fl, m, hq⟩
 ·cases e
theorem Rel.row {ρ : Mp} {h : List AB} {w : World} (r : Rel K ρ h w) {id : Nat} {xs : List AV} (e : qhl h id = some xs) {b o n : Nat} (hρ : ρ[id]? = some (b, o, n)) :
  ∃ cs ty fz, w.heap[b]? = some (.cells cs ty fz) ∧ o + xs.length ≤ cs.size ∧ ∀ (k : Nat) a, xs[k]? = some a → ∃ c, cs[o + k]? = some c ∧ VR ρ a c := by
 obtain ⟨fl, m, hb⟩ := qbS e
 obtain ⟨cs, ty, fz, h1, _, h3, h4⟩ := r.blk id _ b o n hb hρ
 refine ⟨cs, ty, fz, h1, h3, fun k a ha => ?_⟩
 have hk : o + k < cs.size := by have := (List.getElem?_eq_some_iff.1 ha).1; omega
 exact ⟨cs[o + k], Array.getElem?_eq_getElem hk, (h4 k a _ ha (Array.getElem?_eq_getElem hk)).ext (qwc fl ρ)⟩
theorem Rel.winF {ρ : Mp} {h : List AB} {w : World} (r : Rel K ρ h w) {id : Nat} {fl mu : Bool} {xs : List AV} (hb : h[id]? = some (.blk fl mu xs)) {b o n : Nat} (hρ : ρ[id]? = some (b, o, n)) (off m : Nat) (hm : off + m ≤ xs.length) :
  ∃ vs : List Value, vs.length = m ∧ (∀ (j : Nat) u, vs[j]? = some u → w.cell? ((⟨b, o + off, none⟩ : Addr).add j) = some u) ∧ VL (flm fl ρ) ((xs.drop off).take m) vs.toArray := by
 obtain ⟨cs, ty, fz, h1, _, h3, h4⟩ := r.blk id _ b o n hb hρ
 refine ⟨(cs.extract (o + off) (o + off + m)).toList, by simp; omega, fun j u hu => ?_, ⟨by simp; omega, fun j a c ha hc => ?_⟩⟩
 ·have hj : (⟨b, o + off, none⟩ : Addr).add j = ⟨b, o + off + j, none⟩ := by unfold Addr.add; split <;> simp_all
  rw [hj]
  simp only [Array.getElem?_toList, Array.getElem?_extract] at hu
  split at hu
  ·simp [World.cell?, h1, hu]
  ·cases hu
 ·rw [List.getElem?_take] at ha
  split at ha
  ·rw [List.getElem?_drop] at ha
   simp only [Array.toArray_toList, Array.getElem?_extract] at hc
   split at hc
   ·rw [Nat.add_assoc] at hc
    exact h4 _ a c ha hc
   ·cases hc
  ·cases ha
theorem Rel.win {ρ : Mp} {h : List AB} {w : World} (r : Rel K ρ h w) {id : Nat} {xs : List AV} (e : qhl h id = some xs) {b o n : Nat} (hρ : ρ[id]? = some (b, o, n)) (off m : Nat) (hm : off + m ≤ xs.length) :
  ∃ vs : List Value, vs.length = m ∧ (∀ (j : Nat) u, vs[j]? = some u → w.cell? ((⟨b, o + off, none⟩ : Addr).add j) = some u) ∧ VL ρ ((xs.drop off).take m) vs.toArray := by
 obtain ⟨fl, mu, hb⟩ := qbS e
 obtain ⟨vs, h1, h2, h3⟩ := r.winF hb hρ off m hm
 exact ⟨vs, h1, h2, h3.ext (qwc fl ρ)⟩
theorem QJW {ρ : Mp} {h : List AB} {w : World} (hr : Rel K ρ h w) (t : TypeId) {d : TypeDesc} {i : TypeInfo} (hd : P.underlying t = some d) (hi : P.info? t = some i) {x a : AV} {vx : Value} (hx : VR ρ x vx) (e : ldV h (if isAg d then some i.size else none) x = some a) : Good K P ρ h w (Instr.loadAt t vx) (a, h) := by
 cases hx with
 | p id off b o n hρ =>
  by_cases ha : isAg d = true
  ·rw [if_pos ha] at e
   simp only [ldV] at e
   obtain ⟨xs, hxs, e⟩ := Option.bind_eq_some_iff.1 e
   split at e
   ·rename_i hle
    cases e
    obtain ⟨vs, hl, hc, hv⟩ := hr.win hxs hρ off i.size hle
    refine ⟨.agg vs.toArray, w, ρ, ?_, Ext.refl _, hr, YLl hv, Eff.refl _ _ _⟩
    have hload := run_loadCells_list (P := P) w ⟨b, o + off, none⟩ vs hc
    rw [hl] at hload
    simp [Instr.loadAt, Instr.sureAddr, loadVar, JVQ hd, ha, sizeOf, typeInfo, hi, hload]
   ·cases e
  ·rw [if_neg ha] at e
   simp only [ldV] at e
   obtain ⟨xs, hxs, e⟩ := Option.bind_eq_some_iff.1 e
   obtain ⟨cs, ty, fz, h1, h3, h4⟩ := hr.row hxs hρ
   obtain ⟨c, hc, hv⟩ := h4 off a e
   refine ⟨c, w, ρ, ?_, Ext.refl _, hr, hv, Eff.refl _ _ _⟩
   simp [Instr.loadAt, Instr.sureAddr, loadVar, JVQ hd, ha, World.cell?, h1, hc]
 | _ => by_cases ha : isAg d = true <;> simp [ha, ldV] at e
theorem J4m {fl : Bool} {a : AV} (h : wrOk fl a = true) : a.one = true := by
 unfold wrOk at h
 split at h
 ·cases a <;> simp_all [AV.flat, AV.one]
 ·exact h
theorem VR.oneCell {ρ : Mp} {a : AV} {v : Value} (h : VR ρ a v) (ha : a.one = true) : v.oneCell' = true := by
 cases h <;> simp_all [AV.one, Value.oneCell']
theorem VR.flat {ρ ρ' : Mp} {a : AV} {v : Value} (h : VR ρ a v) (ha : a.flat = true) : VR ρ' a v := by
 cases h with
 | b x => exact .b x
 | i k n => exact .i k n
 | s l bs h => exact .s l bs h
 | np => exact .np
 | ns => exact .ns
 | nf => exact .nf
 | ni => exact .ni
 | _ => simp [AV.flat] at ha
theorem VR.wr {ρ : Mp} {fl : Bool} {a : AV} {v : Value} (h : VR ρ a v) (ha : wrOk fl a = true) : VR (flm fl ρ) a v := by
 unfold wrOk at ha
 unfold flm
 split
 ·rename_i hf
  rw [if_pos hf] at ha
  exact h.flat ha
 ·exact h
theorem YmU (xs l : List AV) (off : Nat) (h : off + l.length ≤ xs.length) (k : Nat) : (over xs off l)[k]? = if k < off then xs[k]? else if k < off + l.length then l[k - off]? else xs[k]? := by
 unfold over
 by_cases h1 : k < off
 ·rw [if_pos h1, List.append_assoc, List.getElem?_append_left (by simp; omega), List.getElem?_take, if_pos h1]
 ·rw [if_neg h1]
  by_cases h2 : k < off + l.length
  ·rw [if_pos h2, List.getElem?_append_left (by simp; omega), List.getElem?_append_right (by simp; omega)]
   congr 1
   simp
   omega
  ·rw [if_neg h2, List.getElem?_append_right (by simp; omega), List.getElem?_drop]
   congr 1
   simp
   omega
theorem J4d (xs l : List AV) (off : Nat) (h : off + l.length ≤ xs.length) : (over xs off l).length = xs.length := by
 unfold over
 simp
 omega
theorem Z7Z (xs l : List Value) (off : Nat) (h : off + l.length ≤ xs.length) (k : Nat) : ((xs.take off ++ l ++ xs.drop (off + l.length)).toArray)[k]? = if k < off then xs[k]? else if k < off + l.length then l[k - off]? else xs[k]? := by
 rw [List.getElem?_toArray]
 by_cases h1 : k < off
 ·rw [if_pos h1, List.append_assoc, List.getElem?_append_left (by simp; omega), List.getElem?_take, if_pos h1]
 ·rw [if_neg h1]
  by_cases h2 : k < off + l.length
  ·rw [if_pos h2, List.getElem?_append_left (by simp; omega), List.getElem?_append_right (by simp; omega)]
   congr 1
   simp
   omega
  ·rw [if_neg h2, List.getElem?_append_right (by simp; omega), List.getElem?_drop]
   congr 1
   simp
   omega
theorem qRI {ρ : Mp} {h : List AB} {w : World} (hr : Rel K ρ h w) {id : Nat} {fl : Bool} {xs : List AV} (hb : h[id]? = some (.blk fl true xs)) {b o n : Nat} (hρ : ρ[id]? = some (b, o, n)) (off : Nat) {l : List AV} {vs : List Value}
  (hv : VL ρ l vs.toArray) (hok : l.all (wrOk fl) = true) (hle : off + l.length ≤ xs.length) :
  ∃ w', (storeCells ⟨b, o + off, none⟩ vs 0).run P w = .ok () w' ∧ Rel K ρ (h.set id (.blk fl true (over xs off l))) w' ∧ Eff ρ h w ρ (h.set id (.blk fl true (over xs off l))) w' := by
 obtain ⟨cs, ty, fz, h1, h2, h3, h4⟩ := hr.blk id _ b o n hb hρ
 obtain ⟨rfl, hn⟩ := h2 rfl
 have hlen : l.length = vs.length := by have := hv.1; simpa using this
 have hall : ∀ (j : Nat) a, l[j]? = some a → wrOk fl a = true := fun j a ha => List.all_eq_true.1 hok a (List.mem_of_getElem? ha)
 have hone : ∀ v ∈ vs, v.oneCell' = true := fun v hvm => by
  obtain ⟨j, hj⟩ := List.getElem?_of_mem hvm
  have hjl : j < l.length := by rw [hlen]; exact (List.getElem?_eq_some_iff.1 hj).1
  exact (hv.2 j _ v (List.getElem?_eq_getElem hjl) (by simpa using hj)).oneCell (J4m (hall j _ (List.getElem?_eq_getElem hjl)))
 have hst := run_storeCells_at (P := P) b (o + off) ty vs 0 cs w h1 (by omega) hone
 rw [Nat.add_zero] at hst
 refine ⟨_, hst, hr.put hb rfl hρ ?_ rfl rfl ⟨rfl, Nat.le_refl _⟩ (by simp) (fun k hk => setRow_other w b k _ hk) (fun _ => rfl)⟩
 refine ⟨_, ty, (0, 0), setRow_heap w b cs _ ty _ h1, fun _ => ⟨rfl, ?_⟩, ?_, fun k a c ha hc => ?_⟩
 ·simp
  omega
 ·rw [J4d _ _ _ hle]
  simp
  omega
 ·rw [YmU _ _ _ hle] at ha
  rw [Z7Z _ _ _ (by simp; omega)] at hc
  simp only [Array.getElem?_toList] at hc
  by_cases q1 : k < off
  ·rw [if_pos q1] at ha
   rw [if_pos (by omega)] at hc
   exact h4 k a c ha hc
  ·rw [if_neg q1] at ha
   rw [if_neg (by omega)] at hc
   by_cases q2 : k < off + l.length
   ·rw [if_pos q2] at ha
    rw [if_pos (by omega)] at hc
    have hidx : o + k - (o + off) = k - off := by omega
    rw [hidx] at hc
    exact (hv.2 _ a c ha (by simpa using hc)).wr (hall _ a ha)
   ·rw [if_neg q2] at ha
    rw [if_neg (by omega)] at hc
    exact h4 k a c ha hc
theorem ZyJ {h h' : List AB} {id off : Nat} {l : List AV} (e : stB h id off l = some h') : ∃ fl xs, h[id]? = some (.blk fl true xs) ∧ off + l.length ≤ xs.length ∧ l.all (wrOk fl) = true ∧ h' = h.set id (.blk fl true (over xs off l)) := by
 unfold stB at e
 split at e
 ·rename_i fl xs hq
  split at e
  ·rename_i hc
   cases e
   exact ⟨fl, xs, hq, hc.1, hc.2, rfl⟩
  ·cases e
 ·cases e
theorem zZ5 {ρ : Mp} {h h' : List AB} {w : World} (hr : Rel K ρ h w) {id off : Nat} {l : List AV} (e : stB h id off l = some h') {b o n : Nat} (hρ : ρ[id]? = some (b, o, n)) {vs : List Value} (hv : VL ρ l vs.toArray) :
  ∃ w', (storeCells ⟨b, o + off, none⟩ vs 0).run P w = .ok () w' ∧ Rel K ρ h' w' ∧ Eff ρ h w ρ h' w' := by
 obtain ⟨fl, xs, h1, h2, h3, rfl⟩ := ZyJ e
 exact qRI hr h1 hρ off hv h3 h2
theorem VR.cells1 {ρ : Mp} {a : AV} {v : Value} (h : VR ρ a v) (ha : a.one = true) : v.cells = #[v] := by
 cases h <;> simp_all [AV.one, Value.cells]
theorem K2O {ρ : Mp} {h h' : List AB} {w : World} (hr : Rel K ρ h w) (t : TypeId) {ag : Bool} {i : TypeInfo} (hi : P.info? t = some i) (h1 : ag = false → i.size = 1) {x y : AV} {vx vy : Value} (hx : VR ρ x vx) (hy : VR ρ y vy) (e : stV h (if ag then some i.size else none) x y = some h') :
  ∃ w', (Instr.storeAt t vx vy).run P w = .ok () w' ∧ Rel K ρ h' w' ∧ Eff ρ h w ρ h' w' := by
 cases hx with
 | p id off b o n hρ =>
  cases ag with
  | true =>
   simp only [if_true] at e
   cases y with
   | ag l =>
    obtain ⟨cs, rfl, hl⟩ := qAw hy
    simp only [stV] at e
    split at e
    ·rename_i hlen
     obtain ⟨w', hw', q1, q2⟩ := zZ5 (P := P) hr e hρ (vs := cs.toList) (by simpa using hl)
     refine ⟨w', ?_, q1, q2⟩
     have hs : cs.size = i.size := by rw [← hl.1, hlen]
     simp [Instr.storeAt, Instr.sureAddr, storeVar, Value.cells, sizeOf, typeInfo, hi, hs, hw']
    ·cases e
   | _ => simp [stV] at e
  | false =>
   simp only [Bool.false_eq_true, if_false, stV] at e
   split at e
   ·rename_i hone
    obtain ⟨w', hw', q1, q2⟩ := zZ5 (P := P) hr e hρ (vs := [vy]) (VL.one hy)
    refine ⟨w', ?_, q1, q2⟩
    simp [Instr.storeAt, Instr.sureAddr, storeVar, hy.cells1 hone, sizeOf, typeInfo, hi, h1 rfl, hw']
   ·cases e
 | _ => cases ag <;> cases y <;> simp [stV] at e
theorem VL.wr {ρ : Mp} {fl : Bool} {l : List AV} {cs : Array Value} (h : VL ρ l cs) (hok : l.all (wrOk fl) = true) : VL (flm fl ρ) l cs :=
 ⟨h.1, fun j a c h1 h2 => (h.2 j a c h1 h2).wr (List.all_eq_true.1 hok a (List.mem_of_getElem? h1))⟩
theorem K0H {ρ : Mp} {h : List AB} {w : World} (hr : Rel K ρ h w) (ty : TypeId) (fl : Bool) {l : List AV} {cs rest : Array Value} (hv : VL (flm fl ρ) l cs) :
  Rel K (ρ ++ [(w.heap.size, 0, (cs ++ rest).size)]) (h ++ [.blk fl true l]) (w.alloc (.cells (cs ++ rest) ty)) ∧ Eff ρ h w (ρ ++ [(w.heap.size, 0, (cs ++ rest).size)]) (h ++ [.blk fl true l]) (w.alloc (.cells (cs ++ rest) ty)) := by
 refine hr.new _ _ _ ⟨cs ++ rest, ty, (0, 0), heap_alloc_new w _, fun _ => ⟨rfl, Nat.le_refl _⟩, by simp [hv.1], fun k a c ha hc => ?_⟩
 have hk : k < l.length := (List.getElem?_eq_some_iff.1 ha).1
 rw [Nat.zero_add, Array.getElem?_append_left (by rw [← hv.1]; exact hk)] at hc
 exact (hv.2 k a c ha hc).ext (qX5 fl (Ext.push _ _))
theorem Qpf (ρ : Mp) (h : List AB) (x : Nat × Nat × Nat) (hl : ρ.length = h.length) : (ρ ++ [x])[h.length]? = some x := by
 rw [← hl]
 simp
theorem XIx {h : List AB} {fl : Bool} {cs : List AV} {f : Nat → AV} {r : AV × List AB} (e : newB h fl cs f = some r) : cs.all (wrOk fl) = true ∧ r = (f h.length, h ++ [.blk fl true cs]) := by
 unfold newB at e
 split at e
 ·rename_i hc
  cases e
  exact ⟨hc, rfl⟩
 ·cases e
theorem YAI {ρ : Mp} {h : List AB} {w : World} (hr : Rel K ρ h w) (t : TypeId) (fl : Bool) {l : List AV} {v : Value} (hv : VL ρ l v.cells) {r : AV × List AB} (e : newB h fl l (fun n => .p n 0) = some r) :
  Good K P ρ h w (do pure (.pointer (some (← newVar t v)))) r := by
 obtain ⟨hok, rfl⟩ := XIx e
 have := K0H hr t fl (rest := #[]) (hv.wr hok)
 simp only [Array.append_empty] at this
 refine ⟨.pointer (some ⟨w.heap.size, 0, none⟩), _, _, ?_, Ext.push _ _, this.1, ?_, this.2⟩
 ·simp [newVar, newRow]
 ·have := VR.p (ρ := ρ ++ [(w.heap.size, 0, v.cells.size)]) h.length 0 w.heap.size 0 v.cells.size (Qpf ρ h _ hr.len)
  simpa using this
theorem K7w {ρ : Mp} {h : List AB} {w : World} (hr : Rel K ρ h w) (t : TypeId) (fl : Bool) {l : List AV} {cs : Array Value} (hv : VL ρ l cs) (len cap : Nat) (hlc : len ≤ cap) (hm : cap ≤ maxLen) {r : AV × List AB} (e : newB h fl l (fun n => .sl n 0 len cap none) = some r) :
  Good K P ρ h w (do pure (.slice (some (← newRow t cs)) len cap)) r := by
 obtain ⟨hok, rfl⟩ := XIx e
 have := K0H hr t fl (rest := #[]) (hv.wr hok)
 simp only [Array.append_empty] at this
 refine ⟨.slice (some ⟨w.heap.size, 0, none⟩) len cap, _, _, ?_, Ext.push _ _, this.1, ?_, this.2⟩
 ·simp [newRow]
 ·have := VR.sl (ρ := ρ ++ [(w.heap.size, 0, cs.size)]) h.length 0 len cap none w.heap.size 0 cs.size cap (Qpf ρ h _ hr.len) hlc (Nat.le_refl _) hm (fun _ => rfl) (fun z hz => by cases hz)
  simpa using this
end
end Go.Proofs.Ytpoojfnmhnedpaa
end
section
namespace Go.Proofs.Ytpoojfnmhnedpaa
open Go.RowKit
section
variable {P : Program} {K : Code → CC → Prop}
theorem Rel.kill {ρ : Mp} {h : List AB} {w : World} (r : Rel K ρ h w) (id : Nat) : Rel K ρ (h.set id .dead) w ∧ Eff ρ h w ρ (h.set id .dead) w := by
 have here : ∀ (j : Nat) (C : AB), (h.set id .dead)[j]? = some C → C = .dead ∨ h[j]? = some C := fun j C hj => by
  rw [List.getElem?_set] at hj
  by_cases hij : id = j
  ·subst hij
   rw [if_pos rfl] at hj
   split at hj
   ·cases hj
    exact .inl rfl
   ·cases hj
  ·rw [if_neg hij] at hj
   exact .inr hj
 refine ⟨⟨by simp [r.len], fun i B b o n h1 h2 => ?_, fun i j bi oi bj oj Bi Bj hne h1 h2 h3 h4 hm hl => ?_⟩, ⟨rfl, rfl, ⟨rfl, Nat.le_refl _⟩, Nat.le_refl _, fun _ _ _ => rfl, fun b hb => ?_, fun i b hb => ?_⟩⟩
 ·rcases here i B h1 with rfl | h1
  ·trivial
  ·exact r.blk i B b o n h1 h2
 ·rcases here i Bi h1 with rfl | h1
  ·cases hm
  ·rcases here j Bj h2 with rfl | h2
   ·cases hl
   ·exact r.sep i j bi oi bj oj Bi Bj hne h1 h2 h3 h4 hm hl
 ·obtain ⟨i, B, o, h1, hm, h2⟩ := hb
  rcases here i B h1 with rfl | h1
  ·cases hm
  ·exact .inl ⟨i, B, o, h1, hm, h2⟩
 ·obtain ⟨B, o, h1, hm, h2⟩ := hb
  rcases here i B h1 with rfl | h1
  ·cases hm
  ·exact .inl ⟨B, o, h1, hm, h2⟩
theorem Rel.cut {ρ : Mp} {h : List AB} {w : World} (r : Rel K ρ h w) {id : Nat} {fl mu : Bool} {xs : List AV} (hb : h[id]? = some (.blk fl mu xs)) (q : Nat) : Rel K ρ (h.set id (.blk fl mu (xs.take q))) w ∧ Eff ρ h w ρ (h.set id (.blk fl mu (xs.take q))) w := by
 have hlt := (List.getElem?_eq_some_iff.1 hb).1
 have cls : ∀ (j : Nat) C, (h.set id (.blk fl mu (xs.take q)))[j]? = some C → ∃ C0, h[j]? = some C0 ∧ (C.mut = true → C0.mut = true) ∧ (C.live = true → C0.live = true) ∧ ∀ ρ w b o n, BR K ρ w b o n C0 → BR K ρ w b o n C := fun j C hC => by
  by_cases hij : id = j
  ·subst hij
   rw [List.getElem?_set_self hlt] at hC
   cases hC
   refine ⟨_, hb, fun z => z, fun z => z, fun ρ w b o n hB => ?_⟩
   obtain ⟨cs, e, fz, h1, h2, h3, h4⟩ := hB
   refine ⟨cs, e, fz, h1, h2, by rw [List.length_take]; omega, fun k a c ha hcs => ?_⟩
   rw [List.getElem?_take] at ha
   split at ha
   ·exact h4 k a c ha hcs
   ·cases ha
  ·rw [List.getElem?_set_ne hij] at hC
   exact ⟨C, hC, fun z => z, fun z => z, fun _ _ _ _ _ z => z⟩
 refine ⟨⟨by rw [List.length_set]; exact r.len, fun j C b o n h1 h2 => ?_, fun j k bj oj bk ok Bj Bk hne h1 h2 h3 h4 g1 g2 => ?_⟩, ⟨rfl, rfl, ⟨rfl, Nat.le_refl _⟩, Nat.le_refl _, fun _ _ _ => rfl, fun b hb => ?_, fun i b hb => ?_⟩⟩
 ·obtain ⟨C0, q1, _, _, q4⟩ := cls j C h1
  exact q4 _ _ _ _ _ (r.blk j C0 b o n q1 h2)
 ·obtain ⟨C0, q1, q2, _, _⟩ := cls j Bj h1
  obtain ⟨C1, z1, _, z3, _⟩ := cls k Bk h2
  exact r.sep j k bj oj bk ok C0 C1 hne q1 z1 h3 h4 (q2 g1) (z3 g2)
 ·obtain ⟨i, B, o, h1, hm, h2⟩ := hb
  obtain ⟨C0, q1, q2, _, _⟩ := cls i B h1
  exact .inl ⟨i, C0, o, q1, q2 hm, h2⟩
 ·obtain ⟨B, o, h1, hm, h2⟩ := hb
  obtain ⟨C0, q1, _, q3, _⟩ := cls i B h1
  exact .inl ⟨C0, o, q1, q3 hm, h2⟩
theorem Rel.move {ρ : Mp} {h : List AB} {w : World} (r : Rel K ρ h w) {id : Nat} {fl : Bool} {xs : List AV} (hb : h[id]? = some (.blk fl true xs)) {b o n : Nat} (hρ : ρ[id]? = some (b, o, n)) (off : Nat) (hoff : off ≤ xs.length) :
  Rel K (ρ ++ [(b, o + off, n)]) (h.set id .dead ++ [.blk fl true (xs.drop off)]) w ∧ Eff ρ h w (ρ ++ [(b, o + off, n)]) (h.set id .dead ++ [.blk fl true (xs.drop off)]) w := by
 have hlen : (h.set id .dead).length = h.length := by simp
 have cases' : ∀ (i : Nat) (C : AB) (x : Nat × Nat × Nat), (h.set id .dead ++ [.blk fl true (xs.drop off)])[i]? = some C → (ρ ++ [(b, o + off, n)])[i]? = some x →
   (C = .dead) ∨ (i ≠ id ∧ i < h.length ∧ h[i]? = some C ∧ ρ[i]? = some x) ∨ (i = h.length ∧ C = .blk fl true (xs.drop off) ∧ x = (b, o + off, n)) := fun i C x h1 h2 => by
  by_cases hi : i < h.length
  ·rw [List.getElem?_append_left (by simpa using hi), List.getElem?_set] at h1
   rw [List.getElem?_append_left (by rw [r.len]; exact hi)] at h2
   by_cases hid : id = i
   ·rw [if_pos hid] at h1
    split at h1
    ·cases h1
     exact .inl rfl
    ·cases h1
   ·rw [if_neg hid] at h1
    exact .inr (.inl ⟨fun e => hid e.symm, hi, h1, h2⟩)
  ·rw [List.getElem?_append_right (by simp; omega)] at h1
   rw [List.getElem?_append_right (by rw [r.len]; omega)] at h2
   rw [hlen] at h1
   rw [r.len] at h2
   cases hq : i - h.length with
   | zero =>
    rw [hq] at h1 h2
    simp at h1 h2
    exact .inr (.inr ⟨by omega, h1.symm, h2.symm⟩)
   | succ k => rw [hq] at h1; simp at h1
 have hB := r.blk id _ b o n hb hρ
 refine ⟨⟨by simp [r.len], fun i B b' o' n' h1 h2 => ?_, fun i j bi oi bj oj Bi Bj hne h1 h2 h3 h4 hm hl => ?_⟩, ⟨rfl, rfl, ⟨rfl, Nat.le_refl _⟩, Nat.le_refl _, fun _ _ _ => rfl, fun b' hb' => ?_, fun i b' hb' => ?_⟩⟩
 ·rcases cases' i B _ h1 h2 with rfl | ⟨_, _, h1, h2⟩ | ⟨_, rfl, h2⟩
  ·trivial
  ·exact (r.blk i B b' o' n' h1 h2).same (Ext.push _ _) fun _ => rfl
  ·cases h2
   obtain ⟨cs, ty, fz, q1, q2, q3, q4⟩ := hB
   refine ⟨cs, ty, fz, q1, q2, by simp; omega, fun k a c ha hc => ?_⟩
   rw [List.getElem?_drop] at ha
   rw [Nat.add_assoc] at hc
   exact (q4 _ a c ha hc).ext (qX5 fl (Ext.push _ _))
 ·rcases cases' i Bi _ h1 h3 with rfl | ⟨hi, _, h1, h3⟩ | ⟨rfl, rfl, h3⟩
  ·cases hm
  ·rcases cases' j Bj _ h2 h4 with rfl | ⟨hj, _, h2, h4⟩ | ⟨rfl, rfl, h4⟩
   ·cases hl
   ·exact r.sep i j bi oi bj oj Bi Bj hne h1 h2 h3 h4 hm hl
   ·cases h4
    exact r.sep i id bi oi b (o, n) Bi _ hi h1 hb h3 hρ hm rfl
  ·cases h3
   rcases cases' j Bj _ h2 h4 with rfl | ⟨hj, _, h2, h4⟩ | ⟨rfl, rfl, h4⟩
   ·cases hl
   ·exact r.sep id j b (o, n) bj oj _ Bj (fun e => hj e.symm) hb h2 hρ h4 rfl hl
   ·exact absurd rfl hne
 ·obtain ⟨i, B, o', h1, hm, h2⟩ := hb'
  rcases cases' i B _ h1 h2 with rfl | ⟨hi, _, h1, h2⟩ | ⟨_, rfl, h2⟩
  ·cases hm
  ·exact .inl ⟨i, B, o', h1, hm, h2⟩
  ·cases h2
   exact .inl ⟨id, _, (o, n), hb, rfl, hρ⟩
 ·obtain ⟨B, o', h1, hm, h2⟩ := hb'
  rcases cases' i B _ h1 h2 with rfl | ⟨hi, _, h1, h2⟩ | ⟨_, rfl, h2⟩
  ·cases hm
  ·exact .inl ⟨B, o', h1, hm, h2⟩
  ·cases h2
   exact .inr (.inl ⟨id, _, (o, n), hb, rfl, hρ⟩)
theorem ZQx (ρ : Mp) (bs : ByteArray) : VL ρ (bs.data.toList.map fun b => AV.i .u8 b.toNat) (byteCells bs).toArray := by
 refine ⟨by simp [byteCells], fun j a c ha hc => ?_⟩
 simp only [byteCells, List.getElem?_toArray, List.getElem?_map] at ha hc
 obtain ⟨u, hu, rfl⟩ := Option.map_eq_some_iff.1 ha
 rw [hu] at hc
 cases hc
 exact .i _ _
theorem zpJ {ρ : Mp} {h : List AB} {w : World} (hr : Rel K ρ h w) {sz : Nat} {x : AV} {m : Nat} {ys : List AV} (e : srcV h sz x = some (m, ys)) {vx : Value} (hx : VR ρ x vx) (tx : TypeId) {d : TypeDesc} (hd : P.underlying tx = some d)
  (ht : (∃ l, x = .s l) ∧ d = .string ∨ (∀ l, x ≠ .s l) ∧ ∃ e', d = .slice e') (hok : ys.all AV.one = true) :
  ∃ news : List Value, Src P sz tx vx m news w ∧ VL ρ ys news.toArray := by
 have one : ∀ {ys : List AV} {news : List Value}, ys.all AV.one = true → VL ρ ys news.toArray → ∀ u ∈ news, u.oneCell' = true := fun hok hv u hu => by
  obtain ⟨j, hj⟩ := List.getElem?_of_mem hu
  have hlen := hv.1
  simp at hlen
  have hjl := (List.getElem?_eq_some_iff.1 hj).1
  rw [← hlen] at hjl
  exact (hv.2 j _ u (List.getElem?_eq_getElem hjl) (by simpa using hj)).oneCell (List.all_eq_true.1 hok _ (List.getElem_mem hjl))
 cases hx with
 | ns =>
  cases e
  rcases ht with ⟨⟨l, hl⟩, _⟩ | ⟨_, e', rfl⟩
  ·cases hl
  ·exact ⟨[], Src.ofNil w hd 0, VL.nil ρ⟩
 | se a c hc =>
  cases e
  rcases ht with ⟨⟨l, hl⟩, _⟩ | ⟨_, e', rfl⟩
  ·cases hl
  ·exact ⟨[], Src.ofSlice w hd a 0 c [] (by simp) (fun j u hu => by simp at hu) (fun u hu => by simp at hu), VL.nil ρ⟩
 | s l bs hl =>
  subst hl
  simp only [srcV] at e
  split at e
  ·rename_i hs
   subst hs
   cases e
   rcases ht with ⟨_, rfl⟩ | ⟨hn, _⟩
   ·refine ⟨byteCells bs, ?_, ZQx ρ bs⟩
    have := Src.ofString (P := P) w hd bs
    rw [Ymr] at this
    exact this
   ·exact absurd rfl (hn _)
  ·cases e
 | sz id off a c hc hn =>
  simp only [srcV, if_true] at e
  cases e
  rcases ht with ⟨⟨l, hl⟩, _⟩ | ⟨_, e', rfl⟩
  ·cases hl
  ·refine ⟨[], ?_, by simpa using VL.nil ρ⟩
   cases a with
   | none => exact Src.ofNil w hd c
   | some a => exact Src.ofSlice w hd a 0 c [] (by simp) (fun j u hu => by simp at hu) (fun u hu => by simp at hu)
 | sl id off len cap k b o n cap' hρ h1 h2 h3 h4 h5 =>
  simp only [srcV] at e
  split at e
  ·rename_i h0
   subst h0
   cases e
   rcases ht with ⟨⟨l, hl⟩, _⟩ | ⟨_, e', rfl⟩
   ·cases hl
   ·exact ⟨[], Src.ofSlice w hd _ 0 cap' [] (by simp) (fun j u hu => by simp at hu) (fun u hu => by simp at hu), VL.nil ρ⟩
  obtain ⟨xs, hxs, e⟩ := Option.bind_eq_some_iff.1 e
  split at e
  ·rename_i hle
   cases e
   rcases ht with ⟨⟨l, hl⟩, _⟩ | ⟨_, e', rfl⟩
   ·cases hl
   ·obtain ⟨vs, hl, hc, hv⟩ := hr.win hxs hρ off (m * sz) hle
    exact ⟨vs, Src.ofSlice w hd _ m cap' vs hl hc (one hok hv), hv⟩
  ·cases e
 | _ => simp [srcV] at e
theorem Jpg {fl : Bool} {ys : List AV} (h : ys.all (wrOk fl) = true) : ys.all AV.one = true :=
 List.all_eq_true.2 fun a ha => J4m (List.all_eq_true.1 h a ha)
theorem YZf {h : List AB} {sz : Nat} {x : AV} {m : Nat} {ys : List AV} (e : srcV h sz x = some (m, ys)) : ys.length = m * sz := by
 cases x with
 | ns => cases e; simp
 | se => cases e; simp
 | s l =>
  simp only [srcV] at e
  split at e
  ·rename_i hs
   cases e
   simp [hs]
  ·cases e
 | sl id off len cap k =>
  simp only [srcV] at e
  split at e
  ·cases e; simp
  obtain ⟨xs, _, e⟩ := Option.bind_eq_some_iff.1 e
  split at e
  ·cases e
   simp
   omega
  ·cases e
 | _ => simp [srcV] at e
theorem YtO {ρ : Mp} {h : List AB} {w : World} (hr : Rel K ρ h w) {id : Nat} {fl : Bool} {xs : List AV} (hb : h[id]? = some (.blk fl true xs)) {b o n : Nat} (hρ : ρ[id]? = some (b, o, n)) {l : List AV} {vs : List Value}
  (hv : VL ρ l vs.toArray) (hok : l.all (wrOk fl) = true) (hle : o + xs.length + l.length ≤ n) :
  (storeCells ⟨b, o + xs.length, none⟩ vs 0).run P w = .ok () (w.setRow b ((match w.heap[b]? with | some (.cells cs _ _) => cs.toList.take (o + xs.length) ++ vs ++ cs.toList.drop (o + xs.length + vs.length) | _ => []).toArray)) ∧
  Rel K ρ (h.set id (.blk fl true (xs ++ l))) (w.setRow b ((match w.heap[b]? with | some (.cells cs _ _) => cs.toList.take (o + xs.length) ++ vs ++ cs.toList.drop (o + xs.length + vs.length) | _ => []).toArray)) ∧
  Eff ρ h w ρ (h.set id (.blk fl true (xs ++ l))) (w.setRow b ((match w.heap[b]? with | some (.cells cs _ _) => cs.toList.take (o + xs.length) ++ vs ++ cs.toList.drop (o + xs.length + vs.length) | _ => []).toArray)) := by
 obtain ⟨cs, ty, fz, h1, h2, h3, h4⟩ := hr.blk id _ b o n hb hρ
 obtain ⟨rfl, hn⟩ := h2 rfl
 have hlen : l.length = vs.length := by have := hv.1; simpa using this
 have hall : ∀ (j : Nat) a, l[j]? = some a → wrOk fl a = true := fun j a ha => List.all_eq_true.1 hok a (List.mem_of_getElem? ha)
 have hone : ∀ v ∈ vs, v.oneCell' = true := fun v hvm => by
  obtain ⟨j, hj⟩ := List.getElem?_of_mem hvm
  have hjl : j < l.length := by rw [hlen]; exact (List.getElem?_eq_some_iff.1 hj).1
  exact (hv.2 j _ v (List.getElem?_eq_getElem hjl) (by simpa using hj)).oneCell (J4m (hall j _ (List.getElem?_eq_getElem hjl)))
 have hst := run_storeCells_at (P := P) b (o + xs.length) ty vs 0 cs w h1 (by omega) hone
 rw [Nat.add_zero] at hst
 simp only [h1]
 refine ⟨hst, hr.put hb rfl hρ ?_ rfl rfl ⟨rfl, Nat.le_refl _⟩ (by simp) (fun k hk => setRow_other w b k _ hk) (fun _ => rfl)⟩
 refine ⟨_, ty, (0, 0), setRow_heap w b cs _ ty _ h1, fun _ => ⟨rfl, ?_⟩, ?_, fun k a c ha hc => ?_⟩
 ·simp
  omega
 ·simp
  omega
 ·rw [Z7Z _ _ _ (by simp; omega)] at hc
  simp only [Array.getElem?_toList] at hc
  by_cases q1 : k < xs.length
  ·rw [List.getElem?_append_left q1] at ha
   rw [if_pos (by omega)] at hc
   exact h4 k a c ha hc
  ·rw [List.getElem?_append_right (by omega)] at ha
   have q2 := (List.getElem?_eq_some_iff.1 ha).1
   rw [if_neg (by omega), if_pos (by omega)] at hc
   have hidx : o + k - (o + xs.length) = k - xs.length := by omega
   rw [hidx] at hc
   exact (hv.2 _ a c ha (by simpa using hc)).wr (hall _ a ha)
theorem KX8 {w w' : World} (t tx ty e : TypeId) {i : TypeInfo} (ht : P.underlying t = some (.slice e)) (hi : P.info? e = some i) (b off sLen sCap : Nat) (x : Value) (n : Nat) (news : List Value) (hs : Src P i.size tx x n news w)
  (hroom : sLen + n ≤ sCap) (hst : (storeCells ⟨b, off + sLen * i.size, none⟩ news 0).run P w = .ok () w') :
  (Builtin.append_ #[t, tx] ty #[.slice (some ⟨b, off, none⟩) sLen sCap, x]).run P w = .ok (.slice (some ⟨b, off, none⟩) (sLen + n) sCap) w' := by
 have hadd : (⟨b, off, none⟩ : Addr).add (sLen * i.size) = ⟨b, off + sLen * i.size, none⟩ := by unfold Addr.add; split <;> simp_all
 rcases hs.kind with ⟨e', hk⟩ | hk <;> simp [Builtin.append_, run_underlying ht, run_underlying hk, sizeOf, typeInfo, hi, hs.len, hroom, hs.cells, hadd, hst]
theorem Zg0 {ρ : Mp} {h h0 : List AB} {w : World} (hr : Rel K ρ h0 w) (he : Eff ρ h w ρ h0 w) (t tx ty e : TypeId) {i : TypeInfo} {z : Value} (ht : P.underlying t = some (.slice e)) (hi : P.info? e = some i) (hz : i.zero = some z) (hzs : z.cells.size = i.size) (fl : Bool)
  (base : Option Addr) (sLen sCap : Nat) {olds news : List Value} (hold : (Builtin.firstCells i.size sLen (.slice base sLen sCap)).run P w.drew = .ok olds.toArray w.drew) (holdl : olds.length = sLen * i.size) {xo ys : List AV} (hvo : VL (flm fl ρ) xo olds.toArray)
  {x : Value} {m : Nat} (hs : Src P i.size tx x m news w) (hvn : VL ρ ys news.toArray) (hokn : ys.all (wrOk fl) = true) (hg : sCap < sLen + m) (hby : (sLen + m) * i.bytes ≤ 140737488355328) (hmx : sLen + m ≤ maxLen) :
  Good K P ρ h w (Builtin.append_ #[t, tx] ty #[.slice base sLen sCap, x]) (.sl h0.length 0 (sLen + m) (sLen + m) (some i.size), h0 ++ [.blk fl true (xo ++ ys)]) := by
 have hrun := run_append_grow_src (P := P) w t tx ty e i z ht hi hz base sLen sCap olds hold x m news hs hg (by unfold maxLen at hmx; omega) (growslice_fits hg hby)
 have hv : VL (flm fl ρ) (xo ++ ys) (olds ++ news).toArray := by
  have := hvo.append (hvn.wr hokn)
  simpa using this
 have hge := grownCap_ge w (sLen + m) sCap e
 have hle := grownCap_le_maxLen w (sLen + m) sCap e hmx
 have hnew := K0H hr.drew e fl (rest := Builtin.zeroCells z.cells (grownCap w (sLen + m) sCap e - (sLen + m))) hv
 refine ⟨_, _, _, hrun, Ext.push _ _, hnew.1, ?_, (he.trans (Eff.drew ρ h0 w)).trans hnew.2⟩
 have := VR.sl (ρ := ρ ++ [(w.drew.heap.size, 0, ((olds ++ news).toArray ++ Builtin.zeroCells z.cells (grownCap w (sLen + m) sCap e - (sLen + m))).size)]) h0.length 0 (sLen + m) (sLen + m) (some i.size) w.heap.size 0 _ (grownCap w (sLen + m) sCap e) (Qpf ρ h0 _ hr.len) (Nat.le_refl _) hge hle (fun hk => by cases hk) (fun z' hz' _ => by
  cases hz'
  simp only [Array.size_append, List.size_toArray, List.length_append, holdl, hs.newsLen, size_zeroCells, hzs]
  have hq : sLen * i.size + m * i.size + (grownCap w (sLen + m) sCap e - (sLen + m)) * i.size = grownCap w (sLen + m) sCap e * i.size := by rw [← Nat.add_mul, ← Nat.add_mul, Nat.add_sub_cancel' hge]
  omega)
 simpa using this
theorem XYR {ρ : Mp} {h : List AB} {w : World} (hr : Rel K ρ h w) (t tx ty e : TypeId) {d : TypeDesc} {i : TypeInfo} {z : Value} (ht : P.underlying t = some (.slice e)) (hi : P.info? e = some i) (hz : i.zero = some z) (hzs : z.cells.size = i.size) (fl : Bool) (hd : P.underlying tx = some d)
  {s x : AV} {vs vx : Value} (hs : VR ρ s vs) (hx : VR ρ x vx) (hty : (∃ l, x = .s l) ∧ d = .string ∨ (∀ l, x ≠ .s l) ∧ ∃ e', d = .slice e') {r : AV × List AB} (er : appV h fl i.size i.bytes s x = some r) :
  Good K P ρ h w (Builtin.append_ #[t, tx] ty #[vs, vx]) r := by
 unfold appV at er
 obtain ⟨⟨m, ys⟩, hsrc, er⟩ := Option.bind_eq_some_iff.1 er
 simp only at er
 split at er
 case isFalse => cases er
 rename_i hok
 obtain ⟨news, hS, hvn⟩ := zpJ (P := P) hr hsrc hx tx hd hty (Jpg hok)
 have hnl := hS.newsLen
 have hyl := YZf hsrc
 cases hs with
 | ns =>
  simp only at er
  split at er
  ·rename_i hm
   cases er
   subst hm
   refine ⟨.slice none 0 0, w, ρ, ?_, Ext.refl _, hr, .ns, Eff.refl _ _ _⟩
   rcases hS.kind with ⟨e', hk⟩ | hk <;> simp [Builtin.append_, run_underlying ht, run_underlying hk, sizeOf, typeInfo, hi, hS.len, hS.cells]
  ·split at er
   ·rename_i hm hb
    cases er
    have := Zg0 hr (Eff.refl ρ h w) t tx ty e ht hi hz hzs fl none 0 0 (olds := []) (xo := []) (by simp [Builtin.firstCells]) (by simp) (VL.nil _) hS hvn hok (by omega) (by simpa using hb.1) (by simpa using hb.2)
    simpa using this
   ·cases er
 | sz id off a c hc hn =>
  simp only at er
  split at er
  ·rename_i hm
   cases er
   subst hm
   refine ⟨.slice a 0 c, w, ρ, ?_, Ext.refl _, hr, .sz _ _ _ _ hc hn, Eff.refl _ _ _⟩
   have hnil : news = [] := List.length_eq_zero_iff.1 (by rw [hnl]; simp)
   subst hnil
   cases a with
   | none =>
    have hc0 := hn rfl
    subst hc0
    rcases hS.kind with ⟨e', hk⟩ | hk <;> simp [Builtin.append_, run_underlying ht, run_underlying hk, sizeOf, typeInfo, hi, hS.len, hS.cells]
   | some a =>
    rcases hS.kind with ⟨e', hk⟩ | hk <;> simp [Builtin.append_, run_underlying ht, run_underlying hk, sizeOf, typeInfo, hi, hS.len, hS.cells, storeCells]
  ·rename_i hm
   rw [if_neg (by omega)] at er
   split at er
   ·split at er
    ·rw [if_neg (by intro q; cases q), if_neg (fun q => q.2.1 (Option.some.inj q.1).symm), if_neg (fun q => q.2.1 (Option.some.inj q.1).symm)] at er
     cases er
    ·cases er
   ·cases er
 | sl id off len cap k b o n cap' hρ h1 h2 h3 h4 h5 =>
  simp only at er
  split at er
  ·rename_i hm
   cases er
   subst hm
   refine ⟨.slice (some ⟨b, o + off, none⟩) len cap', w, ρ, ?_, Ext.refl _, hr, .sl _ _ _ _ _ b o n cap' hρ h1 h2 h3 h4 h5, Eff.refl _ _ _⟩
   have hnil : news = [] := List.length_eq_zero_iff.1 (by rw [hnl]; simp)
   subst hnil
   have hlc : len ≤ cap' := by omega
   rcases hS.kind with ⟨e', hk⟩ | hk <;> simp [Builtin.append_, run_underlying ht, run_underlying hk, sizeOf, typeInfo, hi, hS.len, hS.cells, storeCells, hlc]
  split at er
  ·rename_i hroom
   obtain ⟨h', hst, rfl⟩ := Option.map_eq_some_iff.1 er
   obtain ⟨w', hw', q1, q2⟩ := zZ5 (P := P) hr hst hρ hvn
   rw [← Nat.add_assoc] at hw'
   exact ⟨_, w', ρ, KX8 (P := P) t tx ty e ht hi b (o + off) len cap' vx m news hS (by omega) hw', Ext.refl _, q1, .sl id off (len + m) cap k b o n cap' hρ hroom h2 h3 h4 h5, q2⟩
  ·rename_i hroom
   split at er
   case h_2 => cases er
   rename_i fl' mu xs hb
   split at er
   case isFalse => cases er
   rename_i hc
   obtain ⟨rfl, hwin, hby, hmx⟩ := hc
   obtain ⟨vo, hvl, hvc, hvv⟩ := hr.winF hb hρ off (len * i.size) hwin
   have hold : (Builtin.firstCells i.size len (.slice (some ⟨b, o + off, none⟩) len cap')).run P w.drew = .ok vo.toArray w.drew := run_firstCells_some (P := P) w.drew i.size len ⟨b, o + off, none⟩ len cap' vo hvl (by simpa using hvc)
   split at er
   ·rename_i hk
    cases er
    have hcc := h4 hk
    exact Zg0 hr (Eff.refl ρ h w) t tx ty e ht hi hz hzs fl' _ len cap' hold hvl hvv hS hvn hok (by omega) hby hmx
   ·split at er
    ·rename_i hk hq
     cases er
     obtain ⟨rfl, hz0, rfl, hend⟩ := hq
     have htake : (xs.drop off).take (len * i.size) = xs.drop off := List.take_of_length_le (by simp; omega)
     by_cases hcap : len + m ≤ cap'
     ·have hN := h5 _ rfl hz0
      have hmul : (len + m) * i.size ≤ cap' * i.size := Nat.mul_le_mul_right _ hcap
      rw [Nat.add_mul] at hmul
      obtain ⟨r1, r2, r3⟩ := YtO (P := P) hr hb hρ hvn hok (by omega)
      generalize w.setRow b ((match w.heap[b]? with | some (.cells cs _ _) => cs.toList.take (o + xs.length) ++ news ++ cs.toList.drop (o + xs.length + news.length) | _ => []).toArray) = w1 at r1 r2 r3
      have hlt : id < h.length := (List.getElem?_eq_some_iff.1 hb).1
      have hm' := Rel.move r2 (id := id) (fl := fl') (xs := xs ++ ys) (by simp [hlt]) hρ off (by simp; omega)
      rw [List.set_set, List.drop_append_of_le_length (by omega)] at hm'
      have hq : o + off + len * i.size = o + xs.length := by omega
      rw [← hq] at r1
      refine ⟨_, _, _, KX8 (P := P) t tx ty e ht hi b (o + off) len cap' vx m news hS hcap r1, Ext.push _ _, hm'.1, ?_, r3.trans hm'.2⟩
      have := VR.sl (ρ := ρ ++ [(b, o + off, n)]) h.length 0 (len + m) (len + m) (some i.size) b (o + off) n cap' (Qpf ρ h _ hr.len) (Nat.le_refl _) hcap h3 (fun hk => by cases hk) (fun z' hz' _ => by cases hz'; omega)
      simpa using this
     ·have hk' := hr.kill id
      rw [htake] at hvv
      have := Zg0 hk'.1 hk'.2 t tx ty e ht hi hz hzs fl' _ len cap' hold hvl hvv hS hvn hok (by omega) hby hmx
      simpa using this
    ·split at er
     case isFalse => cases er
     rename_i hk _ hq
     cases er
     obtain ⟨rfl, hz0, rfl⟩ := hq
     by_cases hcap : len + m ≤ cap'
     ·have hN := h5 _ rfl hz0
      have hmul : (len + m) * i.size ≤ cap' * i.size := Nat.mul_le_mul_right _ hcap
      rw [Nat.add_mul] at hmul
      have hlt : id < h.length := (List.getElem?_eq_some_iff.1 hb).1
      have hct := hr.cut hb (off + len * i.size)
      have hb' : (h.set id (.blk fl' true (xs.take (off + len * i.size))))[id]? = some (.blk fl' true (xs.take (off + len * i.size))) := List.getElem?_set_self hlt
      have hl' : (xs.take (off + len * i.size)).length = off + len * i.size := by rw [List.length_take]; omega
      have hdt : (xs.take (off + len * i.size)).drop off = (xs.drop off).take (len * i.size) := by
       rw [List.drop_take]
       congr 1
       omega
      generalize xs.take (off + len * i.size) = xt at hct hb' hl' hdt
      obtain ⟨r1, r2, r3⟩ := YtO (P := P) hct.1 hb' hρ hvn hok (by omega)
      generalize w.setRow b ((match w.heap[b]? with | some (.cells cs _ _) => cs.toList.take (o + xt.length) ++ news ++ cs.toList.drop (o + xt.length + news.length) | _ => []).toArray) = w1 at r1 r2 r3
      have hm' := Rel.move r2 (id := id) (fl := fl') (xs := xt ++ ys) (by rw [List.set_set]; exact List.getElem?_set_self hlt) hρ off (by simp; omega)
      rw [List.set_set, List.set_set, List.drop_append_of_le_length (by omega), hdt] at hm'
      have hq : o + off + len * i.size = o + xt.length := by omega
      rw [← hq] at r1
      have r3' := hct.2.trans r3
      rw [List.set_set] at r3' hm'
      refine ⟨_, _, _, KX8 (P := P) t tx ty e ht hi b (o + off) len cap' vx m news hS hcap r1, Ext.push _ _, hm'.1, ?_, r3'.trans hm'.2⟩
      have := VR.sl (ρ := ρ ++ [(b, o + off, n)]) h.length 0 (len + m) (len + m) (some i.size) b (o + off) n cap' (Qpf ρ h _ hr.len) (Nat.le_refl _) hcap h3 (fun hk => by cases hk) (fun z' hz' _ => by cases hz'; omega)
      simpa using this
     ·have hk' := hr.kill id
      have := Zg0 hk'.1 hk'.2 t tx ty e ht hi hz hzs fl' _ len cap' hold hvl hvv hS hvn hok (by omega) hby hmx
      simpa using this
 | _ => simp at er
end
end Go.Proofs.Ytpoojfnmhnedpaa
end
