/- Comparisons with nil, assertions, lengths, aggregates: no memory touched. -/
import Derived.Test.YtbcpcjofkfgjoaaEvE
namespace Go.Proofs.Ytbcpcjofkfgjoaa
open Go.RowKit

section
variable {P : Program}
theorem ans_ifc {ρ : Mp} (t : TypeId) {d : TypeDesc} (hd : P.underlying t = some d) (hn : ∀ ms, d ≠ .interface ms) {x : AV} {vx : Value} (hx : VR ρ x vx) : Ans P ρ (Instr.makeInterface t vx) (.ifc t x) :=
  Ans.mk (fun w => by cases d <;> simp_all [Instr.makeInterface, run_underlying hd]) (.ifc t x vx hx)
theorem ans_ext {ρ : Mp} {l : List AV} {vx : Value} (hx : VR ρ (.tu l) vx) (i : Nat) {r : AV} (e : l[i]? = some r) : Ans P ρ (Instr.extract vx i) r := by
  obtain ⟨cs, rfl, hl⟩ := tup_vl hx
  obtain ⟨c, hc, hv⟩ := hl.get e
  exact Ans.mk (fun w => by simp [Instr.extract, hc]) hv
theorem ans_len {ρ : Mp} (t ty : TypeId) {d : TypeDesc} (ht : P.underlying t = some d) (hd : d = .string ∨ ∃ e, d = .slice e) {x : AV} {vx : Value} (hx : VR ρ x vx) {n : Int} (e : lenV x = some n) (hk : (d = .string) = (∃ l, x = .s l)) : Ans P ρ (Builtin.len_ #[t] ty #[vx]) (.i .i64 n) := by
  cases hx with
  | s l bs h =>
    cases e
    subst h
    have hs : d = .string := by rw [hk]; exact ⟨_, rfl⟩
    subst hs
    refine Ans.mk (fun w => ?_) (.i _ _)
    simp [Builtin.len_, run_underlying ht, goInt]
  | sl id off k cap kc b o m cap' h h1 h2 h3 h4 h5 =>
    cases e
    rcases hd with rfl | ⟨e', rfl⟩
    · exact absurd (hk.mp rfl) (by simp)
    · exact Ans.mk (fun w => by simp [Builtin.len_, run_underlying ht, goInt]) (.i _ _)
  | sz id off a c h hn =>
    cases e
    rcases hd with rfl | ⟨e', rfl⟩
    · exact absurd (hk.mp rfl) (by simp)
    · exact Ans.mk (fun w => by simp [Builtin.len_, run_underlying ht, goInt]) (.i _ _)
  | ns =>
    cases e
    rcases hd with rfl | ⟨e', rfl⟩
    · exact absurd (hk.mp rfl) (by simp)
    · exact Ans.mk (fun w => by simp [Builtin.len_, run_underlying ht, goInt]) (.i _ _)
  | se a c h =>
    cases e
    rcases hd with rfl | ⟨e', rfl⟩
    · exact absurd (hk.mp rfl) (by simp)
    · exact Ans.mk (fun w => by simp [Builtin.len_, run_underlying ht, goInt]) (.i _ _)
  | _ => simp [lenV] at e
theorem ans_mm {ρ : Mp} (mx : Bool) (ts : Array TypeId) (ty : TypeId) {x y r : AV} {vx vy : Value} (hx : VR ρ x vx) (hy : VR ρ y vy) (e : mmV mx x y = some r) : Ans P ρ (if mx then Builtin.max_ ts ty #[vx, vy] else Builtin.min_ ts ty #[vx, vy]) r := by
  cases hx with
  | i k a =>
    cases hy with
    | i k' b =>
      cases e
      cases mx
      · exact Ans.mk (fun w => by simp [Builtin.min_, Builtin.min2]) (.i _ _)
      · exact Ans.mk (fun w => by simp [Builtin.max_, Builtin.max2]) (.i _ _)
    | _ => simp [mmV] at e
  | _ => simp [mmV] at e
def tasV (t : TypeId) (ok : Bool) (z : AV) : AV → Option AV
  | .ifc t' v => if t' = t then some (if ok then .tu [v, .b true] else v) else if ok then some (.tu [z, .b false]) else none
  | .ni => if ok then some (.tu [z, .b false]) else none
  | _ => none
theorem vr_pair {ρ : Mp} {a b : AV} {v u : Value} (ha : VR ρ a v) (hb : VR ρ b u) : VR ρ (.tu [a, b]) (.tuple #[v, u]) :=
  let h := VL.cons ha (VL.cons hb (VL.nil ρ))
  .tu _ _ h.1 h.2
theorem ans_tas {ρ : Mp} (tx t : TypeId) (ok : Bool) {d : TypeDesc} {i : TypeInfo} {zv : Value} {z : AV} (hd : P.underlying t = some d) (hn : ∀ ms, d ≠ .interface ms) (hi : P.info? t = some i) (hz : i.zero = some zv) (hzr : VR ρ z zv) {x r : AV} {vx : Value} (hx : VR ρ x vx) (e : tasV t ok z x = some r) : Ans P ρ (Instr.typeAssert vx tx t ok) r := by
  have hzero : ∀ w, (zeroValue t).run P w = .ok zv w := fun w => by simp [zeroValue, typeInfo, hi, hz]
  cases hx with
  | ifc t' v v' h =>
    simp only [tasV] at e
    split at e
    · rename_i he
      subst he
      cases e
      cases ok
      · exact Ans.mk (fun w => by cases d <;> simp_all [Instr.typeAssert, run_underlying hd]) h
      · exact Ans.mk (v := .tuple #[v', .bool true]) (fun w => by cases d <;> simp_all [Instr.typeAssert, run_underlying hd]) (vr_pair h (.b _))
    · rename_i he
      split at e
      · rename_i hok
        subst hok
        cases e
        exact Ans.mk (v := .tuple #[zv, .bool false]) (fun w => by cases d <;> simp_all [Instr.typeAssert, run_underlying hd]) (vr_pair hzr (.b _))
      · cases e
  | ni =>
    simp only [tasV] at e
    split at e
    · rename_i hok
      subst hok
      cases e
      exact Ans.mk (v := .tuple #[zv, .bool false]) (fun w => by cases d <;> simp_all [Instr.typeAssert, run_underlying hd]) (vr_pair hzr (.b _))
    · cases e
  | _ => simp [tasV] at e
/-- The types that are compared with nil alone. -/
def nilT : TypeDesc → Bool
  | .slice _ | .pointer _ | .func .. | .interface _ => true
  | _ => false
def nilSide : TypeDesc → AV → Prop
  | .slice _, x => x = .ns
  | .pointer _, x => x = .np
  | .func .., x => x = .nf
  | .interface _, x => x = .ni
  | _, _ => False
theorem eqn_run {ρ : Mp} (t : TypeId) {d : TypeDesc} (hd : P.underlying t = some d) {x y : AV} {vx vy : Value} (hx : VR ρ x vx) (hy : VR ρ y vy) {r : Bool} (e : eqNil x y = some r)
    (hs : nilSide d x ∨ nilSide d y) (k : Nat) (w : World) : (Op.equalIn (k + 1) t vx vy).run P w = .ok r w := by
  cases d <;> simp only [nilSide, or_self] at hs
  all_goals (rcases hs with rfl | rfl)
  all_goals (first | cases hx | cases hy)
  all_goals (cases hy <;> simp [eqNil] at e <;> (first | subst e | obtain ⟨_, rfl⟩ := e) <;> simp [Op.equalIn, run_underlying hd] <;> done)
theorem eqn_guard {ρ : Mp} (op : BinOp) (t : TypeId) (X Y : Operand) (hc : (∃ v, X = .const v) ∨ ∃ v, Y = .const v) {x y : AV} {vx vy : Value} (hx : VR ρ x vx) (hy : VR ρ y vy) {r : Bool} (e : eqNil x y = some r) (w : World) : (eqGuard op t X Y vx vy).run P w = .ok () w := by
  rcases hc with ⟨v, rfl⟩ | ⟨v, rfl⟩ <;> cases hx <;> cases hy <;> simp [eqNil] at e <;> cases op <;> simp [eqGuard]
theorem ans_eqn {ρ : Mp} (neg : Bool) (t : TypeId) {d : TypeDesc} (hd : P.underlying t = some d) (X Y : Operand) (hc : (∃ v, X = .const v) ∨ ∃ v, Y = .const v) {x y : AV} {vx vy : Value} (hx : VR ρ x vx) (hy : VR ρ y vy) {r : Bool} (e : eqNil x y = some r)
    (hs : nilSide d x ∨ nilSide d y) :
    Ans P ρ (do eqGuard (if neg then .neq else .eql) t X Y vx vy; binOp (if neg then .neq else .eql) t vx vy) (.b (r ^^ neg)) := by
  refine Ans.mk (fun w => ?_) (.b _)
  have h1 := eqn_run (P := P) t hd hx hy e hs 9999 w
  have h2 := fun op => eqn_guard (P := P) op t X Y hc hx hy e w
  have hb : ∀ op, (op = .eql ∨ op = .neq) → binOp op t vx vy = (do let q ← Op.equal t vx vy; pure (.bool (if op = .eql then q else !q))) := by
    intro op ho
    rcases ho with rfl | rfl <;> cases hx <;> cases hy <;> simp [eqNil] at e <;> simp [binOp]
  cases neg
  · simp only [Bool.false_eq_true, if_false, Sem.run_bind, h2, Result.andThen_ok, hb .eql (.inl rfl), Op.equal, Op.maxDepth, h1]
    simp
  · simp only [if_true, Sem.run_bind, h2, Result.andThen_ok, hb .neq (.inr rfl), Op.equal, Op.maxDepth, h1]
    simp
end
end Go.Proofs.Ytbcpcjofkfgjoaa
