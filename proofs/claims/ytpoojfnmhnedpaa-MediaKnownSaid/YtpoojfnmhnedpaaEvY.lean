/- The abstract machine's run of a function is sound, and a closed function that it answers is answered so in every world. -/
import Derived.Test.YtpoojfnmhnedpaaEvX
namespace Go.Proofs.Ytpoojfnmhnedpaa
open Go.RowKit

section
variable {P : Program}
/-- What is still to be shown when code has been left so. -/
def Left (P : Program) (p : Nat) (fn : FuncId) (k : List CI) (R : AV → List AB → Prop) (fr : List AV) (h : List AB) : XE → Prop
  | .n => AM P p fn k fr h R
  | .x id => ∃ k', cexit id k = some k' ∧ AM P p fn k' fr h R
  | .r => ∀ k', AM P p fn (.code .ret :: k') fr h R
theorem eLoop_ok {p : Nat} {fn : FuncId} {c : CC} {R : AV → List AB → Prop} {ia : List AV → List AB → OutC} {k : List CI}
    (hia : ∀ {fr fr' : List AV} {h h' : List AB} {x : XE} (k : List CI), ia fr h = some (x, fr', h') → Left P p fn k R fr' h' x → AM P p fn (.code c :: k) fr h R) : ∀ (n : Nat) {fr fr' : List AV} {h h' : List AB} {x : XE}, eLoop ia n fr h = some (x, fr', h') → Left P p fn k R fr' h' x → AM P p fn (.code c :: .lp c :: k) fr h R
  | 0, _, _, _, _, _, e, _ => by cases e
  | n + 1, fr, fr', h, h', x, e, g => by
    change (match ia fr h with
      | none => none
      | some (x, fr', h') => match x with
        | .n => eLoop ia n fr' h'
        | .x id => some (.x id, fr', h')
        | .r => some (.r, fr', h')) = some (x, fr', h') at e
    split at e
    · cases e
    · rename_i x1 fr1 h1 hx
      refine hia (.lp c :: k) hx ?_
      cases x1 with
      | n =>
        simp only at e
        exact AM.lp (eLoop_ok hia n e g)
      | x id =>
        simp only at e
        cases e
        obtain ⟨k', h2, h3⟩ := g
        exact ⟨k', h2, h3⟩
      | r =>
        simp only at e
        cases e
        exact g
theorem evC_ok (hm : P.follows .mixedOrders = true) {T : Nat → Option CF} {E : RunF} (hT : SoundT P T) (hE : SoundE P E) {p : Nat} {fn : FuncId} {R : AV → List AB → Prop} (c : CC) : ∀ {fr fr' : List AV} {h h' : List AB} {x : XE} (k : List CI),
    evC T E c fr h = some (x, fr', h') → Left P p fn k R fr' h' x → AM P p fn (.code c :: k) fr h R := by
  induction c with
  | skip =>
    intro fr fr' h h' x k e g
    cases e
    exact AM.go rfl g
  | reg id l =>
    intro fr fr' h h' x k e g
    change outN (runReg T E l fr h) = some (x, fr', h') at e
    unfold outN at e
    split at e
    · rename_i fr1 h1 hr
      cases e
      exact AM.go rfl (runReg_ok hT hE l hr g)
    · cases e
  | drw id l =>
    intro fr fr' h h' x k e g
    change outN (drawn T E h.length l 0 [] fr h) = some (x, fr', h') at e
    unfold outN at e
    split at e
    · rename_i fr1 h1 hr
      cases e
      exact AM.drw hm hT hE hr g
    · cases e
  | seq a b iha ihb =>
    intro fr fr' h h' x k e g
    change eSeq (evC T E a) (evC T E b) fr h = some (x, fr', h') at e
    unfold eSeq at e
    refine AM.go rfl ?_
    split at e
    · cases e
    · rename_i x1 fr1 h1 hx
      refine iha (.code b :: k) hx ?_
      cases x1 with
      | n => exact ihb k e g
      | x id =>
        cases e
        obtain ⟨k', h2, h3⟩ := g
        exact ⟨k', h2, h3⟩
      | r =>
        cases e
        exact g
  | cond q a b iha ihb =>
    intro fr fr' h h' x k e g
    change eCond q (evC T E a) (evC T E b) fr h = some (x, fr', h') at e
    unfold eCond at e
    rw [evF_eq] at e
    split at e
    · rename_i t ht
      cases t with
      | true => exact AM.go (by simp only [astep, ht]) (iha k e g)
      | false => exact AM.go (by simp only [astep, ht]) (ihb k e g)
    · cases e
  | block id a iha =>
    intro fr fr' h h' x k e g
    change eBlock id (evC T E a) fr h = some (x, fr', h') at e
    unfold eBlock at e
    refine AM.go rfl ?_
    split at e
    · cases e
    · rename_i x1 fr1 h1 hx
      refine iha (.blk id :: k) hx ?_
      cases x1 with
      | n =>
        cases e
        exact AM.go rfl g
      | x id' =>
        simp only at e
        by_cases hid : id = id'
        · subst hid
          have : Nat.beq id id = true := by rw [Nat.beq_eq]
          rw [this] at e
          cases e
          exact ⟨k, by simp [cexit], g⟩
        · have : Nat.beq id id' = false := by
            cases hb : Nat.beq id id' with
            | true => exact absurd (Nat.eq_of_beq_eq_true hb) hid
            | false => rfl
          rw [this] at e
          cases e
          obtain ⟨k', h2, h3⟩ := g
          exact ⟨k', by simp [cexit, hid, h2], h3⟩
      | r =>
        cases e
        exact g
  | loop a iha =>
    intro fr fr' h h' x k e g
    change eLoop (evC T E a) 100000 fr h = some (x, fr', h') at e
    exact AM.loop (eLoop_ok (fun k e g => iha k e g) 100000 e g)
  | scope a iha =>
    intro fr fr' h h' x k e g
    change evC T E a fr h = some (x, fr', h') at e
    refine AM.go rfl (iha (.sc :: k) e ?_)
    cases x with
    | n => exact AM.go rfl g
    | x id =>
      obtain ⟨k', h2, h3⟩ := g
      exact ⟨k', h2, h3⟩
    | r => exact g
  | exit id =>
    intro fr fr' h h' x k e g
    cases e
    obtain ⟨k', h2, h3⟩ := g
    exact AM.go (by simp only [astep, h2, Option.map_some]) h3
  | ret =>
    intro fr fr' h h' x k e g
    cases e
    exact g k
  | stop =>
    intro fr fr' h h' x k e g
    cases e
  | rf q ps a b iha ihb =>
    intro fr fr' h h' x k e g
    cases e
theorem evF_ok (hm : P.follows .mixedOrders = true) {T : Nat → Option CF} (hT : SoundT P T) : ∀ n, SoundE P (evF T n)
  | 0 => fun g fn cf fr h h' v hf hc e => by cases e
  | n + 1 => fun g fn cf fr h h' v hf hc e => by
    change finF cf (evC T (evF T n) cf.body fr h) = some (v, h') at e
    obtain ⟨_, body, hb, hcb, hres, _⟩ := compF_some hc
    unfold finF at e
    split at e
    · cases e
    · rename_i x fr1 h1 hx
      refine evC_ok hm hT (evF_ok hm hT n) cf.body [] hx ?_
      cases x with
      | x id => cases e
      | n =>
        simp only at e
        split at e
        · rename_i u hu
          cases e
          exact AM.fin hf hres hu ⟨rfl, rfl⟩
        · cases e
      | r =>
        simp only at e
        split at e
        · rename_i u hu
          cases e
          exact fun k' => AM.ret hf hres hu ⟨rfl, rfl⟩
        · cases e
/-- What is as it was behind a closed function. -/
structure Quietly (w w' : World) : Prop where
  os : w'.os = w.os
  tape : w'.tape = w.tape
  output : w'.output = w.output
  size : w.heap.size ≤ w'.heap.size
  block : ∀ k, k < w.heap.size → w'.heap[k]? = w.heap[k]?
def isT : Option (AV × List AB) → Bool
  | some (.b true, _) => true
  | _ => false
/-- A function of no argument that the abstract machine finds true is true in every world. -/
theorem Calls.evT (hm : P.follows .mixedOrders = true) {T : Nat → Option CF} (hT : SoundT P T) (n g : Nat) {cf : CF} (hg : T g = some cf) (e : isT (evF T n cf (List.replicate cf.ntmps (.tu [])) []) = true) (w : World) :
    Calls P g #[] w (fun en w' => en = .returned (.bool true) ∧ Quietly w w') := by
  intro cs
  obtain ⟨fn, hf, hc⟩ := hT g cf hg
  obtain ⟨_, body, hb, hcb, hres, hnt⟩ := compF_some hc
  unfold isT at e
  split at e
  · rename_i h' he
    have am := evF_ok hm hT n g fn cf _ [] h' _ hf hc he
    let bf : Frame := { (default : Frame) with fn := g, kind := .normal, roundOf := none }
    have henter : Frame.enter P g #[] .normal = bf.atR { tmps := Array.replicate fn.ntmps undef, defers := [] } [.code body] := by
      simp [Frame.enter, Frame.atR, hf, hb, bf]
    have hrel : Rel [] [] w := ⟨rfl, fun i B b o n h => by simp at h, fun i j bi oi bj oj Bi Bj _ h => by simp at h⟩
    obtain ⟨v, w', frm, ⟨a, h'', ρ', ⟨ha, _⟩, hv, _, heff⟩, hst, hfn, hlv⟩ := am [] w (Array.replicate fn.ntmps undef) [.code body] bf cs rfl rfl rfl (Nat.le_refl _) (.mcode hcb trivial) (by rw [hnt]; exact vl_repl [] _) hrel
    subst ha
    cases hv
    rw [← henter] at hst
    refine ⟨.returned (.bool true), w', frm, ⟨rfl, heff.os, heff.tape, heff.output, heff.size, fun k hk => heff.keep k hk fun ho => ?_⟩, hst, hfn, hlv⟩
    obtain ⟨i, B, o, h1, _⟩ := ho
    simp at h1
  · cases e

/-- A table's row: from number g on, each function made ready is the program's. -/
def AllT (P : Program) : Nat → List (Option CF) → Prop
  | _, [] => True
  | g, none :: l => AllT P (g + 1) l
  | g, some c :: l => (∃ fn, P.funcs[g]? = some fn ∧ compF P fn = some c) ∧ AllT P (g + 1) l
def AllTs (P : Program) : Nat → List (List (Option CF)) → Prop
  | _, [] => True
  | g, r :: l => AllT P g r ∧ AllTs P (g + 16) l
theorem AllT.cons {g : Nat} {fn : Func} {c : CF} {l : List (Option CF)} (h1 : P.funcs[g]? = some fn) (h2 : compF P fn = some c) (h3 : AllT P (g + 1) l) : AllT P g (some c :: l) := ⟨⟨fn, h1, h2⟩, h3⟩
theorem AllT.skip {g : Nat} {l : List (Option CF)} (h3 : AllT P (g + 1) l) : AllT P g (none :: l) := h3
theorem AllTs.cons {g : Nat} {r : List (Option CF)} {l : List (List (Option CF))} (h1 : AllT P g r) (h2 : AllTs P (g + 16) l) : AllTs P g (r :: l) := ⟨h1, h2⟩
noncomputable def nthT (l : List (Option CF)) : Nat → Option CF := List.rec (motive := fun _ => Nat → Option CF) (fun _ => none) (fun a _ ih n => Nat.rec (motive := fun _ => Option CF) a (fun m _ => ih m) n) l
noncomputable def nthL (l : List (List (Option CF))) : Nat → List (Option CF) := List.rec (motive := fun _ => Nat → List (Option CF)) (fun _ => []) (fun a _ ih n => Nat.rec (motive := fun _ => List (Option CF)) a (fun m _ => ih m) n) l
noncomputable def tabl (tls : List (List (Option CF))) (g : Nat) : Option CF := nthT (nthL tls (Nat.div g 16)) (Nat.mod g 16)
theorem nthT_sound : ∀ (l : List (Option CF)) (g j : Nat) (c : CF), AllT P g l → nthT l j = some c → ∃ fn, P.funcs[g + j]? = some fn ∧ compF P fn = some c
  | [], _, _, _, _, e => by cases e
  | none :: l, g, 0, c, h, e => by cases e
  | some d :: l, g, 0, c, h, e => by
    cases e
    exact h.1
  | none :: l, g, j + 1, c, h, e => by
    have := nthT_sound l (g + 1) j c h e
    rw [show g + 1 + j = g + (j + 1) by omega] at this
    exact this
  | some d :: l, g, j + 1, c, h, e => by
    have := nthT_sound l (g + 1) j c h.2 e
    rw [show g + 1 + j = g + (j + 1) by omega] at this
    exact this
theorem nthL_sound : ∀ (tls : List (List (Option CF))) (g b : Nat), AllTs P g tls → AllT P (g + 16 * b) (nthL tls b)
  | [], _, _, _ => trivial
  | r :: l, g, 0, h => h.1
  | r :: l, g, b + 1, h => by
    have := nthL_sound l (g + 16) b h.2
    rw [show g + 16 + 16 * b = g + 16 * (b + 1) by omega] at this
    exact this
theorem tabl_sound (tls : List (List (Option CF))) (h : AllTs P 0 tls) : SoundT P (tabl tls) := fun g c e => by
  have := nthT_sound _ _ _ _ (nthL_sound tls 0 (g / 16) h) e
  have hg : 0 + 16 * (g / 16) + Nat.mod g 16 = g := by
    have : Nat.mod g 16 = g % 16 := rfl
    omega
  rw [hg] at this
  exact this
end
end Go.Proofs.Ytpoojfnmhnedpaa
