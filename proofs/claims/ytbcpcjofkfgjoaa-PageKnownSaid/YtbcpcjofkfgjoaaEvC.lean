/- The operations that touch no memory: what the abstract machine answers, the model answers. -/
import Derived.Test.YtbcpcjofkfgjoaaEvB
import Derived.Laws.StructEq
import Derived.Stop.BytesEq
import Derived.WalkSpells
namespace Go.Proofs.Ytbcpcjofkfgjoaa
open Go.RowKit

section
variable {P : Program}

/-- A value that the model's operation answers, no memory touched. -/
def Ans (P : Program) (ρ : Mp) (s : Sem Value) (a : AV) : Prop := ∀ w, ∃ v, s.run P w = .ok v w ∧ VR ρ a v
theorem Ans.mk {ρ : Mp} {s : Sem Value} {a : AV} {v : Value} (h : ∀ w, s.run P w = .ok v w) (hv : VR ρ a v) : Ans P ρ s a := fun w => ⟨v, h w, hv⟩

theorem bytes_list (b : ByteArray) : b.toList = b.data.toList := ByteArray.toList_eq b
theorem data_append (a b : ByteArray) : (a ++ b).data.toList = a.data.toList ++ b.data.toList := by
  rw [ByteArray.data_append, Array.toList_append]
theorem size_list (b : ByteArray) : b.size = b.data.toList.length := Array.length_toList.symm
theorem ans_bin {ρ : Mp} (op : BinOp) (t : TypeId) (X Y : Operand) {x y r : AV} {vx vy : Value} (hx : VR ρ x vx) (hy : VR ρ y vy) (e : binV op x y = some r) : Ans P ρ (do eqGuard op t X Y vx vy; binOp op t vx vy) r := by
  cases hx with
  | i k a =>
    cases hy with
    | i k' b =>
      have hg : ∀ w, (eqGuard op t X Y (.int k a) (.int k' b)).run P w = .ok () w := fun w => by cases op <;> simp [eqGuard]
      cases op <;> simp only [binV] at e
      case shl | shr =>
        split at e
        · cases e
        · cases e
          refine Ans.mk (fun w => ?_) (.i _ _)
          simp [binOp, Op.shift, *]
      all_goals
        split at e
        · rename_i hk
          subst hk
          simp only [binI] at e
          first
          | (split at e
             · cases e
             · cases e
               refine Ans.mk (fun w => ?_) (.i _ _)
               simp [binOp, Op.intDiv, *]; done)
          | (cases e
             refine Ans.mk (fun w => ?_) (.i _ _)
             simp [hg, binOp, Op.intArith, Op.intBits]; done)
          | (cases e
             refine Ans.mk (fun w => ?_) (.b _)
             simp [hg, binOp, Op.intCmp]; done)
        · cases e
    | _ => simp [binV] at e
  | s l bs h =>
    cases hy with
    | s l' bs' h' =>
      subst h h'
      have hg : ∀ w, (eqGuard op t X Y (.string bs) (.string bs')).run P w = .ok () w := fun w => by cases op <;> simp [eqGuard]
      cases op <;> simp only [binV, binS] at e
      case add =>
        split at e
        · cases e
        · rename_i hs
          cases e
          refine Ans.mk (v := .string (bs ++ bs')) (fun w => ?_) (.s _ _ (data_append _ _))
          have hs' : ¬ (((bs.size + bs'.size : Nat) : Int) > IntKind.i64.max) := by rw [size_list bs, size_list bs']; exact hs
          simp only [hg, binOp, Op.stringOp, Sem.run_bind, Result.andThen_ok]
          rw [if_neg hs']
          rfl
      all_goals
        first
        | (cases e
           refine Ans.mk (fun w => ?_) (.b _)
           simp [hg, binOp, Op.stringOp, bytes_list]; done)
        | cases e
    | _ => simp [binV] at e
  | _ => simp [binV] at e

theorem ans_un {ρ : Mp} (op : UnOp) {x r : AV} {vx : Value} (hx : VR ρ x vx) (e : unV op x = some r) : Ans P ρ (Op.unary op vx) r := by
  cases hx with
  | i k n =>
    cases op <;> simp only [unV] at e
    case neg => cases e; exact Ans.mk (fun w => by simp [Op.unary, Op.intArith]) (.i _ _)
    case xor => cases e; exact Ans.mk (fun w => by simp [Op.unary, Op.intBits]) (.i _ _)
    all_goals cases e
  | b x =>
    cases op <;> simp only [unV] at e
    case not => cases e; exact Ans.mk (fun w => by simp [Op.unary]) (.b _)
    all_goals cases e
  | _ => simp [unV] at e

theorem ans_eqb {ρ : Mp} (neg : Bool) (t : TypeId) (ht : P.underlying t = some .bool) (X Y : Operand) (x y : Bool) : Ans P ρ (do eqGuard (if neg then .neq else .eql) t X Y (.bool x) (.bool y); binOp (if neg then .neq else .eql) t (.bool x) (.bool y)) (.b ((x == y) ^^ neg)) := by
  refine Ans.mk (fun w => ?_) (.b _)
  cases neg
  · simp [eqGuard, binOp, Op.equal, Op.maxDepth, run_equalIn_bool' w 9999 t x y ht]
  · simp [eqGuard, binOp, Op.equal, Op.maxDepth, run_equalIn_bool' w 9999 t x y ht]

theorem ans_cvi {ρ : Mp} (src dst : TypeId) (k : IntKind) {ds : TypeDesc} (hs : P.underlying src = some ds) (hd : P.underlying dst = some (.int k)) {x : AV} {n : Int} {vx : Value} (hx : VR ρ x vx) (e : x.int? = some n) : Ans P ρ (convert src dst vx) (.i k (k.wrap n)) := by
  cases hx with
  | i k' m =>
    cases e
    exact Ans.mk (fun w => by simp [convert, run_underlying hs, run_underlying hd, Conv.intToInt]) (.i _ _)
  | _ => simp [AV.int?] at e
theorem ans_cvs {ρ : Mp} (src dst : TypeId) {ds : TypeDesc} (hs : P.underlying src = some ds) (hd : P.underlying dst = some .string) {l : List UInt8} {vx : Value} (hx : VR ρ (.s l) vx) : Ans P ρ (convert src dst vx) (.s l) := by
  cases hx with
  | s l bs h => exact Ans.mk (fun w => by cases ds <;> simp [convert, run_underlying hs, run_underlying hd]) (.s _ _ h)

theorem ans_fad {ρ : Mp} (s : TypeId) (f : Nat) {fs : Array Field} {fd : Field} {i : TypeInfo} (hs : P.underlying s = some (.struct fs)) (hf : fs[f]? = some fd) (hi : P.info? fd.type = some i) (hz : i.size ≠ 0) {id o : Nat} {vx : Value} (hx : VR ρ (.p id o) vx) : Ans P ρ (Instr.fieldAt s vx f) (.p id (o + fd.offset)) := by
  cases hx with
  | p id off b o' n h =>
    refine Ans.mk (fun w => ?_) (.p id _ b o' n h)
    simp [Instr.fieldAt, run_underlying hs, hf, Instr.sureAddr, fieldPlace, sizeOf, typeInfo, hi, hz]
    unfold Addr.add
    split
    · simp_all
    · simp [Nat.add_assoc]

theorem vl_agg {ρ : Mp} {l : List AV} {cs : Array Value} (h : VL ρ l cs) : VR ρ (.ag l) (.agg cs) := .ag l cs h.1 h.2
theorem agg_vl {ρ : Mp} {l : List AV} {v : Value} (h : VR ρ (.ag l) v) : ∃ cs, v = .agg cs ∧ VL ρ l cs := by
  cases h with
  | ag l cs h hv => exact ⟨cs, rfl, h, hv⟩
theorem tup_vl {ρ : Mp} {l : List AV} {v : Value} (h : VR ρ (.tu l) v) : ∃ cs, v = .tuple cs ∧ VL ρ l cs := by
  cases h with
  | tu l cs h hv => exact ⟨cs, rfl, h, hv⟩
theorem VL.extract {ρ : Mp} {l : List AV} {cs : Array Value} (h : VL ρ l cs) (a n : Nat) : VL ρ ((l.drop a).take n) (cs.extract a (a + n)) := by
  refine ⟨by simp [h.1]; omega, fun j x c h1 h2 => ?_⟩
  rw [List.getElem?_take] at h1
  split at h1
  · rw [List.getElem?_drop] at h1
    rw [Array.getElem?_extract] at h2
    split at h2
    · exact h.2 _ x c h1 h2
    · cases h2
  · cases h1
def isAg : TypeDesc → Bool
  | .struct _ | .array _ _ => true
  | _ => false
def partV (ag : Bool) (off n : Nat) (l : List AV) : Option AV := if ag then some (.ag ((l.drop off).take n)) else l[off]?
theorem run_isAgg {t : TypeId} {d : TypeDesc} (h : P.underlying t = some d) (w : World) : (isAgg t).run P w = .ok (isAg d) w := by
  unfold isAgg
  cases d <;> simp [run_underlying h, isAg]
theorem ans_part {ρ : Mp} (t : TypeId) {d : TypeDesc} {i : TypeInfo} (h : P.underlying t = some d) (hi : P.info? t = some i) (off : Nat) {l : List AV} {cs : Array Value} (hl : VL ρ l cs) {r : AV}
    (e : partV (isAg d) off i.size l = some r) : Ans P ρ (part t cs off) r := by
  unfold partV at e
  split at e
  · rename_i hd
    cases e
    exact Ans.mk (v := .agg (cs.extract off (off + i.size))) (fun w => by
      unfold part
      simp [run_isAgg h, hd, sizeOf, typeInfo, hi]) (vl_agg (hl.extract _ _))
  · rename_i hd
    obtain ⟨c, hc, hv⟩ := hl.get e
    refine Ans.mk (v := c) (fun w => ?_) hv
    unfold part
    simp [run_isAgg h, hd, hc]
theorem ans_fld {ρ : Mp} (s : TypeId) (f : Nat) {fs : Array Field} {fd : Field} {i : TypeInfo} {d : TypeDesc} (hs : P.underlying s = some (.struct fs)) (hf : fs[f]? = some fd) (hi : P.info? fd.type = some i) (hd : P.underlying fd.type = some d) {l : List AV} {vx : Value} (hx : VR ρ (.ag l) vx) {r : AV}
    (e : partV (isAg d) fd.offset i.size l = some r) : Ans P ρ (Instr.field s vx f) r := by
  obtain ⟨cs, rfl, hl⟩ := agg_vl hx
  intro w
  obtain ⟨v, hr, hv⟩ := ans_part fd.type hd hi fd.offset hl e w
  exact ⟨v, by simp [Instr.field, run_underlying hs, hf, asAgg, hr], hv⟩

theorem ans_iad {ρ : Mp} (t e : TypeId) {i : TypeInfo} (ht : P.underlying t = some (.slice e)) (hi : P.info? e = some i) {id off k cap : Nat} {kc : Option Nat} {kk : IntKind} {n : Int} {vx : Value} (hx : VR ρ (.sl id off k cap kc) vx) (h0 : 0 ≤ n) (h1 : n < k) : Ans P ρ (Instr.indexAt t vx (.int kk n)) (.p id (off + n.toNat * i.size)) := by
  cases hx with
  | sl id off k cap kc b o m cap' h h1' h2 h3 h4 h5 =>
    refine Ans.mk (fun w => ?_) (.p id _ b o m h)
    simp [Instr.indexAt, asIntOf, run_underlying ht, h0, h1, sizeOf, typeInfo, hi]
    unfold Addr.add
    split
    · simp_all
    · simp [Nat.add_assoc]
  | sz _ _ a c hc hn => omega
theorem ans_iaa {ρ : Mp} (t e : TypeId) {i : TypeInfo} {k : Nat} (ht : P.underlying t = some (.array k e)) (hi : P.info? e = some i) {id off : Nat} {kk : IntKind} {n : Int} {vx : Value} (hx : VR ρ (.p id off) vx) (h0 : 0 ≤ n) (h1 : n < k) : Ans P ρ (Instr.indexAt t vx (.int kk n)) (.p id (off + n.toNat * i.size)) := by
  cases hx with
  | p id off b o m h =>
    refine Ans.mk (fun w => ?_) (.p id _ b o m h)
    simp [Instr.indexAt, asIntOf, run_underlying ht, Instr.sureAddr, h0, h1, sizeOf, typeInfo, hi]
    unfold Addr.add
    split
    · simp_all
    · simp [Nat.add_assoc]
theorem ans_ixs {ρ : Mp} (t : TypeId) (ht : P.underlying t = some .string) {l : List UInt8} {kk : IntKind} {n : Int} {u : UInt8} {vx : Value} (hx : VR ρ (.s l) vx) (h0 : 0 ≤ n) (h1 : l[n.toNat]? = some u) : Ans P ρ (Instr.index t vx (.int kk n)) (.i .u8 u.toNat) := by
  cases hx with
  | s l bs h =>
    subst h
    have hb : bs[n.toNat]? = some u := by
      rw [Array.getElem?_toList] at h1
      obtain ⟨hlt, rfl⟩ := Array.getElem?_eq_some_iff.1 h1
      exact getElem?_pos bs n.toNat hlt
    refine Ans.mk (fun w => ?_) (.i _ _)
    simp [Instr.index, asIntOf, run_underlying ht, h0, hb]
theorem ans_ixa {ρ : Mp} (t e : TypeId) {i : TypeInfo} {d : TypeDesc} {k : Nat} (ht : P.underlying t = some (.array k e)) (hi : P.info? e = some i) (hd : P.underlying e = some d) {l : List AV} {kk : IntKind} {n : Int} {vx : Value} (hx : VR ρ (.ag l) vx) (h0 : 0 ≤ n) (h1 : n < k) {r : AV}
    (er : partV (isAg d) (n.toNat * i.size) i.size l = some r) : Ans P ρ (Instr.index t vx (.int kk n)) r := by
  obtain ⟨cs, rfl, hl⟩ := agg_vl hx
  intro w
  obtain ⟨v, hr, hv⟩ := ans_part e hd hi (n.toNat * i.size) hl er w
  exact ⟨v, by simp [Instr.index, asIntOf, run_underlying ht, h0, h1, sizeOf, typeInfo, hi, hr], hv⟩


end
end Go.Proofs.Ytbcpcjofkfgjoaa
