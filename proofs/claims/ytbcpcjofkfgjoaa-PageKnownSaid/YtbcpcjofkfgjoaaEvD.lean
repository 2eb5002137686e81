/- More operations that touch no memory: slice expressions, lengths, assertions, comparisons. -/
import Derived.Test.YtbcpcjofkfgjoaaEvC
namespace Go.Proofs.Ytbcpcjofkfgjoaa
open Go.RowKit

section
variable {P : Program}
theorem run_bound {ρ : Mp} {x : AV} {v : Value} (hx : VR ρ x v) {y n : Nat} (e : bnd 0 y (some x) = some n) (code : BoundsCode) (w : World) : (Instr.sliceBound v y code).run P w = .ok n w ∧ n ≤ y := by
  cases hx with
  | i k m =>
    simp only [bnd] at e
    split at e
    · rename_i h
      cases e
      exact ⟨by simp [Instr.sliceBound, asIntOf, h], by omega⟩
    · cases e
  | _ => simp [bnd] at e
theorem bnd_some (d : Nat) (y : Nat) (x : AV) : bnd d y (some x) = bnd 0 y (some x) := by cases x <;> rfl

/-- An operand that may be lacking. -/
def VO (ρ : Mp) : Option AV → Option Value → Prop
  | none, none => True
  | some a, some v => VR ρ a v
  | _, _ => False
theorem VO.map {ρ : Mp} (f : Operand → Value) (g : Opd → AV) {x : Option Operand} {y : Option Opd} (h : ∀ a b, x = some a → y = some b → VR ρ (g b) (f a)) (hn : x.isSome = y.isSome) : VO ρ (y.map g) (x.map f) := by
  cases x <;> cases y <;> simp_all [VO]
theorem run_low {ρ : Mp} {lo : Option AV} {vl : Option Value} (hl : VO ρ lo vl) {h l : Nat} (e : bnd 0 h lo = some l) (c : BoundsCode) (w : World) :
    (match vl with | some v => Instr.sliceBound v h c | none => pure 0 : Sem Nat).run P w = .ok l w ∧ l ≤ h := by
  cases lo with
  | none =>
    cases vl with
    | none => cases e; exact ⟨rfl, Nat.zero_le _⟩
    | some v => exact hl.elim
  | some a =>
    cases vl with
    | none => exact hl.elim
    | some v => exact run_bound hl e c w
theorem run_high {ρ : Mp} {hi : Option AV} {vh : Option Value} (hh : VO ρ hi vh) {len y h : Nat} (hly : len ≤ y) (e : bnd len y hi = some h) (c : BoundsCode) (w : World) :
    (match vh with | some v => Instr.sliceBound v y c | none => pure len : Sem Nat).run P w = .ok h w ∧ h ≤ y := by
  cases hi with
  | none =>
    cases vh with
    | none => cases e; exact ⟨rfl, hly⟩
    | some v => exact hh.elim
  | some a =>
    cases vh with
    | none => exact hh.elim
    | some v => exact run_bound hh (by rw [← bnd_some]; exact e) c w
/-- A greater bound lets the same by. -/
theorem bnd_le {d y y' n : Nat} (hy : y ≤ y') {x : Option AV} (e : bnd d y x = some n) : bnd d y' x = some n := by
  cases x with
  | none => exact e
  | some a =>
    cases a with
    | i k m =>
      simp only [bnd] at e ⊢
      split at e
      · rw [if_pos (by omega)]
        exact e
      · cases e
    | _ => simp [bnd] at e
theorem run_bounds2 {ρ : Mp} {lo hi : Option AV} {vl vh : Option Value} (hl : VO ρ lo vl) (hh : VO ρ hi vh) {isS : Bool} {len cap h l : Nat} (hlc : len ≤ cap) (e1 : bnd len cap hi = some h) (e2 : bnd 0 h lo = some l) (w : World) :
    (Instr.sliceBounds isS len cap vl vh none).run P w = .ok (l, h, cap) w := by
  obtain ⟨r1, _⟩ := run_high (P := P) hh hlc e1 (if isS then .sliceAcap else .sliceAlen) w
  obtain ⟨r2, _⟩ := run_low (P := P) hl e2 .sliceB w
  unfold Instr.sliceBounds
  cases vh <;> cases vl <;> simp_all
theorem run_bounds3 {ρ : Mp} {lo hi : Option AV} {mx : AV} {vl vh : Option Value} {vm : Value} (hl : VO ρ lo vl) (hh : VO ρ hi vh) (hm : VR ρ mx vm) {len cap h l m : Nat} (e0 : bnd 0 cap (some mx) = some m) (hs : hi.isSome = true) (e1 : bnd 0 m hi = some h) (e2 : bnd 0 h lo = some l) (w : World) :
    (Instr.sliceBounds true len cap vl vh (some vm)).run P w = .ok (l, h, m) w ∧ l ≤ h ∧ h ≤ m ∧ m ≤ cap := by
  obtain ⟨r0, h0⟩ := run_bound (P := P) hm e0 .slice3Acap w
  cases hi with
  | none => simp at hs
  | some a =>
    cases vh with
    | none => exact hh.elim
    | some v =>
      obtain ⟨r1, h1⟩ := run_bound (P := P) hh e1 .slice3B w
      obtain ⟨r2, h2⟩ := run_low (P := P) hl e2 .slice3C w
      refine ⟨?_, h2, h1, h0⟩
      unfold Instr.sliceBounds
      cases vl <;> simp_all
theorem ans_sls {ρ : Mp} (t : TypeId) (ht : P.underlying t = some .string) {l : List UInt8} {vx : Value} (hx : VR ρ (.s l) vx) {lo hi : Option AV} {vl vh : Option Value} (hl : VO ρ lo vl) (hh : VO ρ hi vh) {r : AV} (e : slS l lo hi = some r) : Ans P ρ (Instr.sliceAt t vx vl vh none) r := by
  cases hx with
  | s l bs h =>
    subst h
    unfold slS at e
    obtain ⟨hh', e1, e⟩ := Option.bind_eq_some_iff.1 e
    obtain ⟨ll, e2, rfl⟩ := Option.map_eq_some_iff.1 e
    rw [← size_list] at e1
    have hb := fun w => run_bounds2 (P := P) hl hh (isS := false) (Nat.le_refl _) e1 e2 w
    refine Ans.mk (v := .string (bs.extract ll hh')) (fun w => ?_) (.s _ _ ?_)
    · simp [Instr.sliceAt, Instr.slice, run_underlying ht, hb]
    · simp [ByteArray.data_extract, List.drop_take]
theorem ans_sll {ρ : Mp} (t e : TypeId) {i : TypeInfo} (ht : P.underlying t = some (.slice e)) (hi' : P.info? e = some i) {x : AV} {vx : Value} (hx : VR ρ x vx) {lo hi mx : Option AV} {vl vh vm : Option Value} (hl : VO ρ lo vl) (hh : VO ρ hi vh) (hm : VO ρ mx vm) {r : AV} (er : slL i.size x lo hi mx = some r) : Ans P ρ (Instr.sliceAt t vx vl vh vm) r := by
  cases hx with
  | sl id off len cap k b o n cap' h h1 h2 h3 h4 h5 =>
    cases mx with
    | none =>
      cases vm with
      | some v => exact hm.elim
      | none =>
        simp only [slL] at er
        obtain ⟨hh', e1, er⟩ := Option.bind_eq_some_iff.1 er
        obtain ⟨ll, e2, er⟩ := Option.map_eq_some_iff.1 er
        have hb := fun w => run_bounds2 (P := P) hl hh (isS := true) (Nat.le_trans h1 h2) (bnd_le h2 e1) e2 w
        have hle := (run_low (P := P) hl e2 .sliceB default).2
        have hcap : hh' ≤ cap := (run_high (P := P) hh h1 e1 .sliceB default).2
        have hadd : ((⟨b, o + off, none⟩ : Addr).add (ll * i.size)) = ⟨b, o + (off + ll * i.size), none⟩ := by
          unfold Addr.add
          split
          · simp_all
          · simp [Nat.add_assoc]
        have hrun : ∀ w, (Instr.sliceAt t (.slice (some ⟨b, o + off, none⟩) len cap') vl vh none).run P w = .ok (.slice (some (if cap' = ll then ⟨b, o + off, none⟩ else ⟨b, o + (off + ll * i.size), none⟩)) (hh' - ll) (cap' - ll)) w := fun w => by
          simp [Instr.sliceAt, Instr.slice, run_underlying ht, hb, sizeOf, typeInfo, hi', hadd]
          split <;> rfl
        refine Ans.mk hrun ?_
        by_cases hl0 : ll = 0
        · subst hl0
          simp only [↓reduceIte] at er
          subst er
          have hz : (if cap' = 0 then (⟨b, o + off, none⟩ : Addr) else ⟨b, o + (off + 0 * i.size), none⟩) = ⟨b, o + off, none⟩ := by split <;> simp
          rw [hz]
          exact .sl id off hh' cap k b o n cap' h hcap h2 h3 h4 h5
        · rw [if_neg hl0] at er
          by_cases hlc : ll < cap
          · rw [if_pos hlc] at er
            subst er
            rw [if_neg (by omega)]
            refine .sl id _ _ _ (kcut k i.size) b o n (cap' - ll) h (by omega) (by omega) (by omega) (fun hx => ?_) (fun z hz hz0 => ?_)
            · cases k with
              | none => rw [h4 rfl]
              | some z => simp only [kcut] at hx; split at hx <;> cases hx
            · cases k with
              | none => cases hz
              | some z' =>
                simp only [kcut] at hz
                split at hz
                · rename_i hzs
                  cases hz
                  subst hzs
                  have := h5 _ rfl hz0
                  rw [Nat.sub_mul]
                  have hmul : ll * i.size ≤ cap' * i.size := Nat.mul_le_mul_right _ (by omega)
                  omega
                · cases hz
                  exact absurd rfl hz0
          · rw [if_neg hlc] at er
            have hll : ll = cap := by omega
            have hhl : hh' - ll = 0 := by omega
            rw [hhl]
            cases k with
            | none =>
              have hc' := h4 rfl
              simp only [if_true] at er
              subst er
              rw [if_pos (by omega)]
              exact VR.sl (ρ := ρ) id off 0 0 none b o n (cap' - ll) h (by omega) (by omega) (by omega) (fun _ => by omega) (fun z hz => by cases hz)
            | some z =>
              simp only [reduceCtorEq, if_false] at er
              subst er
              exact .se _ _ (by omega)
    | some mv =>
      cases vm with
      | none => exact hm.elim
      | some vm =>
        simp only [slL] at er
        obtain ⟨mm, e0, er0⟩ := Option.bind_eq_some_iff.1 er
        obtain ⟨hh', e1, er1⟩ := Option.bind_eq_some_iff.1 er0
        obtain ⟨ll, e2, er2⟩ := Option.map_eq_some_iff.1 er1
        obtain ⟨hv, hvE, e3⟩ := Option.bind_eq_some_iff.1 e1
        clear er er0 er1 e1
        have hb := fun w => run_bounds3 (P := P) (len := len) hl hh hm (bnd_le h2 e0) (by rw [hvE]; rfl) (by rw [hvE]; exact e3) e2 w
        have hadd : ((⟨b, o + off, none⟩ : Addr).add (ll * i.size)) = ⟨b, o + (off + ll * i.size), none⟩ := by
          unfold Addr.add
          split
          · simp_all
          · simp [Nat.add_assoc]
        have hrun : ∀ w, (Instr.sliceAt t (.slice (some ⟨b, o + off, none⟩) len cap') vl vh (some vm)).run P w = .ok (.slice (some (if mm = ll then ⟨b, o + off, none⟩ else ⟨b, o + (off + ll * i.size), none⟩)) (hh' - ll) (mm - ll)) w := fun w => by
          simp [Instr.sliceAt, Instr.slice, run_underlying ht, (hb w).1, sizeOf, typeInfo, hi', hadd]
          split <;> rfl
        obtain ⟨q1, q2, q3⟩ := (hb default).2
        refine Ans.mk hrun ?_
        by_cases hml : mm = ll
        · rw [if_pos hml] at er2 ⊢
          have e5 : hh' - ll = 0 := by omega
          have e4 : mm - ll = 0 := by omega
          rw [e5, e4]
          split at er2
          · subst er2
            exact .sz id off _ 0 (by omega) (fun _ => rfl)
          · subst er2
            exact .sl id off 0 0 none b o n 0 h (by omega) (by omega) (by omega) (fun _ => rfl) (fun z hz => by cases hz)
        · rw [if_neg hml] at er2 ⊢
          subst er2
          exact .sl id _ _ _ none b o n _ h (by omega) (Nat.le_refl _) (by omega) (fun _ => rfl) (fun z hz => by cases hz)
  | sz id off a c hc hn =>
    cases mx with
    | none =>
      cases vm with
      | some v => exact hm.elim
      | none =>
        simp only [slL] at er
        obtain ⟨hh', e1, er⟩ := Option.bind_eq_some_iff.1 er
        obtain ⟨ll, e2, er⟩ := Option.map_eq_some_iff.1 er
        have hb := fun w => run_bounds2 (P := P) hl hh (isS := true) (Nat.zero_le c) (bnd_le (Nat.zero_le c) e1) e2 w
        have hle := (run_low (P := P) hl e2 .sliceB default).2
        have hhc := (run_high (P := P) hh (Nat.le_refl 0) e1 .sliceB default).2
        have q1 : hh' = 0 := by omega
        have q2 : ll = 0 := by omega
        subst q1 q2
        simp only [↓reduceIte] at er
        subst er
        exact Ans.mk (v := .slice a 0 c) (fun w => by cases a <;> simp [Instr.sliceAt, Instr.slice, run_underlying ht, hb, sizeOf, typeInfo, hi', Addr.add]) (.sz _ _ _ _ hc hn)
    | some mv =>
      cases vm with
      | none => exact hm.elim
      | some vm =>
        simp only [slL] at er
        obtain ⟨mm, e0, er0⟩ := Option.bind_eq_some_iff.1 er
        obtain ⟨hh', e1, er1⟩ := Option.bind_eq_some_iff.1 er0
        obtain ⟨ll, e2, er2⟩ := Option.map_eq_some_iff.1 er1
        obtain ⟨hv, hvE, e3⟩ := Option.bind_eq_some_iff.1 e1
        clear er er0 er1 e1
        have hb := fun w => run_bounds3 (P := P) (len := 0) hl hh hm (bnd_le (Nat.zero_le c) e0) (by rw [hvE]; rfl) (by rw [hvE]; exact e3) e2 w
        have hm0 := (run_bound (P := P) hm e0 .slice3B default).2
        obtain ⟨q1, q2, q3⟩ := (hb default).2
        have r1 : mm = 0 := by omega
        have r2 : hh' = 0 := by omega
        have r3 : ll = 0 := by omega
        subst r1 r2 r3
        simp only [↓reduceIte, and_self] at er2
        subst er2
        exact Ans.mk (v := .slice a 0 0) (fun w => by simp [Instr.sliceAt, Instr.slice, run_underlying ht, (hb w).1, sizeOf, typeInfo, hi']) (.sz _ _ _ _ (by omega) (fun _ => rfl))
  | ns =>
    cases mx with
    | some v => simp [slL] at er
    | none =>
      cases vm with
      | some v => exact hm.elim
      | none =>
        simp only [slL] at er
        obtain ⟨hh', e1, er⟩ := Option.bind_eq_some_iff.1 er
        obtain ⟨ll, e2, rfl⟩ := Option.map_eq_some_iff.1 er
        have hb := fun w => run_bounds2 (P := P) hl hh (isS := true) (Nat.le_refl 0) e1 e2 w
        have hle := (run_low (P := P) hl e2 .sliceB default).2
        have hhc := (run_high (P := P) hh (Nat.le_refl 0) e1 .sliceB default).2
        have q1 : hh' = 0 := by omega
        have q2 : ll = 0 := by omega
        subst q1 q2
        exact Ans.mk (fun w => by simp [Instr.sliceAt, Instr.slice, run_underlying ht, hb, sizeOf, typeInfo, hi']) .ns
  | se a c h =>
    cases mx with
    | some v => simp [slL] at er
    | none =>
      cases vm with
      | some v => exact hm.elim
      | none =>
        simp only [slL] at er
        obtain ⟨hh', e1, er⟩ := Option.bind_eq_some_iff.1 er
        obtain ⟨ll, e2, rfl⟩ := Option.map_eq_some_iff.1 er
        have hb := fun w => run_bounds2 (P := P) hl hh (isS := true) (Nat.zero_le c) (bnd_le (Nat.zero_le c) e1) e2 w
        have hle := (run_low (P := P) hl e2 .sliceB default).2
        have hhc := (run_high (P := P) hh (Nat.le_refl 0) e1 .sliceB default).2
        have q1 : hh' = 0 := by omega
        have q2 : ll = 0 := by omega
        subst q1 q2
        exact Ans.mk (v := .slice (some a) 0 c) (fun w => by simp [Instr.sliceAt, Instr.slice, run_underlying ht, hb, sizeOf, typeInfo, hi', Addr.add]) (.se _ _ (by omega))
  | _ => cases mx <;> simp [slL] at er
theorem ans_sla {ρ : Mp} (t e : TypeId) {i : TypeInfo} {n : Nat} (ht : P.underlying t = some (.array n e)) (hi' : P.info? e = some i) (hn : n ≤ maxLen) {x : AV} {vx : Value} (hx : VR ρ x vx) {lo hi mx : Option AV} {vl vh vm : Option Value} (hl : VO ρ lo vl) (hh : VO ρ hi vh) (hm : VO ρ mx vm) {r : AV} (er : slA n i.size x lo hi mx = some r) : Ans P ρ (Instr.sliceAt t vx vl vh vm) r := by
  cases hx with
  | p id off b o m h =>
    cases mx with
    | some v => simp [slA] at er
    | none =>
      cases vm with
      | some v => exact hm.elim
      | none =>
        simp only [slA] at er
        obtain ⟨hh', e1, er⟩ := Option.bind_eq_some_iff.1 er
        obtain ⟨ll, e2, er⟩ := Option.map_eq_some_iff.1 er
        have hb := fun w => run_bounds2 (P := P) hl hh (isS := false) (Nat.le_refl n) e1 e2 w
        have hle := (run_low (P := P) hl e2 .sliceB default).2
        have hhc := (run_high (P := P) hh (Nat.le_refl n) e1 .sliceB default).2
        have hadd : ((⟨b, o + off, none⟩ : Addr).add (ll * i.size)) = ⟨b, o + (off + ll * i.size), none⟩ := by
          unfold Addr.add
          split
          · simp_all
          · simp [Nat.add_assoc]
        have hrun : ∀ w, (Instr.sliceAt t (.pointer (some ⟨b, o + off, none⟩)) vl vh none).run P w = .ok (.slice (some (if n = ll then ⟨b, o + off, none⟩ else ⟨b, o + (off + ll * i.size), none⟩)) (hh' - ll) (n - ll)) w := fun w => by
          simp [Instr.sliceAt, Instr.sureAddr, run_underlying ht, hb, sizeOf, typeInfo, hi', hadd]
        refine Ans.mk hrun ?_
        by_cases hml : n = ll
        · rw [if_pos hml] at er ⊢
          subst er
          have e4 : n - ll = 0 := by omega
          rw [e4]
          exact .sl id off _ 0 none b o m 0 h (by omega) (Nat.le_refl _) (by omega) (fun _ => rfl) (fun z hz => by cases hz)
        · rw [if_neg hml] at er ⊢
          subst er
          exact .sl id _ _ _ none b o m _ h (by omega) (Nat.le_refl _) (by omega) (fun _ => rfl) (fun z hz => by cases hz)
  | _ => cases mx <;> simp [slA] at er
end
end Go.Proofs.Ytbcpcjofkfgjoaa
