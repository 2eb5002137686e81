/- The abstract machine's run of a function is sound, and a closed function that it answers is answered so in every world. -/
import Derived.Test.YtbcpcjofkfgjoaaEvX
namespace Go.Proofs.Ytbcpcjofkfgjoaa
open Go.RowKit

section
variable {P : Program}
/-- What is still to be shown when code has been left so. -/
def Left (P : Program) (p : Nat) (rd : Option Nat) (fn : FuncId) (k : List CI) (R : AV → List AB → Prop) (fr : List AV) (h : List AB) : XE → Prop
  | .n => AM P p rd fn k fr h R
  | .x id => (∃ k', cexit id k = some k' ∧ AM P p rd fn k' fr h R) ∨ (cexit id k = none ∧ ∀ k', cexit id k' = none → AM P p rd fn (.code (.exit id) :: k') fr h R)
  | .r => ∀ k', AM P p rd fn (.code .ret :: k') fr h R
theorem Left.pass {p : Nat} {rd : Option Nat} {fn : FuncId} {k : List CI} {R : AV → List AB → Prop} {fr : List AV} {h : List AB} {x : XE} {c : CI} (hx : x ≠ .n) (hc : ∀ id, x = .x id → cexit id (c :: k) = cexit id k) (g : Left P p rd fn k R fr h x) : Left P p rd fn (c :: k) R fr h x := by
  cases x with
  | n => exact absurd rfl hx
  | x id =>
    simp only [Left, hc id rfl] at g ⊢
    exact g
  | r => exact g
theorem Left.jump {p : Nat} {rd : Option Nat} {fn : FuncId} {k : List CI} {R : AV → List AB → Prop} {fr : List AV} {h : List AB} {x : XE} (g : Left P p rd fn k R fr h x) : AM P p rd fn (jumpI x ++ k) fr h R := by
  cases x with
  | n => exact g
  | x id =>
    change AM P p rd fn (.code (.exit id) :: k) fr h R
    rcases g with ⟨k', h2, h3⟩ | ⟨h2, h3⟩
    · exact AM.go (by simp only [astep, h2, Option.map_some]) h3
    · exact h3 k h2
  | r => exact g k
theorem eLoop_ok {p : Nat} {rd : Option Nat} {fn : FuncId} {c : CC} {R : AV → List AB → Prop} {ia : List AV → List AB → OutC} {k : List CI}
    (hia : ∀ {fr fr' : List AV} {h h' : List AB} {x : XE} (k : List CI), ia fr h = some (x, fr', h') → Left P p rd fn k R fr' h' x → AM P p rd fn (.code c :: k) fr h R) : ∀ (n : Nat) {fr fr' : List AV} {h h' : List AB} {x : XE}, eLoop ia n fr h = some (x, fr', h') → Left P p rd fn k R fr' h' x → AM P p rd fn (.code c :: .lp c :: k) fr h R
  | 0, _, _, _, _, _, e, _ => by cases e
  | n + 1, fr, fr', h, h', x, e, g => by
    change (match ia fr h with
      | none => none
      | some (x, fr', h') => match x with
        | .n => eLoop ia n fr' h'
        | .x id => some (.x id, fr', h')
        | .r => some (.r, fr', h')) = some (x, fr', h') at e
    split at e
    · cases e
    · rename_i x1 fr1 h1 hx
      refine hia (.lp c :: k) hx ?_
      cases x1 with
      | n =>
        simp only at e
        exact AM.lp (eLoop_ok hia n e g)
      | x id =>
        simp only at e
        cases e
        exact g.pass (fun q => nomatch q) (fun _ _ => rfl)
      | r =>
        simp only at e
        cases e
        exact g
theorem evC_ok (hm : P.follows .mixedOrders = true) {T : Nat → Option CF} {E : RunF} (hT : SoundT P T) (hE : SoundE P E) {p : Nat} {rd : Option Nat} {fn : FuncId} {R : AV → List AB → Prop} (c : CC) : ∀ {fr fr' : List AV} {h h' : List AB} {x : XE} (k : List CI),
    evC T E rd.isSome c fr h = some (x, fr', h') → Left P p rd fn k R fr' h' x → AM P p rd fn (.code c :: k) fr h R := by
  induction c with
  | skip =>
    intro fr fr' h h' x k e g
    cases e
    exact AM.go rfl g
  | reg id l =>
    intro fr fr' h h' x k e g
    change outN (runReg T E l fr h) = some (x, fr', h') at e
    unfold outN at e
    split at e
    · rename_i fr1 h1 hr
      cases e
      exact AM.go rfl (runReg_ok hT hE l hr g)
    · cases e
  | drw id l =>
    intro fr fr' h h' x k e g
    change outN (drawn T E h.length l 0 [] fr h) = some (x, fr', h') at e
    unfold outN at e
    split at e
    · rename_i fr1 h1 hr
      cases e
      exact AM.drw hm hT hE hr g
    · cases e
  | seq a b iha ihb =>
    intro fr fr' h h' x k e g
    change eSeq (evC T E rd.isSome a) (evC T E rd.isSome b) fr h = some (x, fr', h') at e
    unfold eSeq at e
    refine AM.go rfl ?_
    split at e
    · cases e
    · rename_i x1 fr1 h1 hx
      refine iha (.code b :: k) hx ?_
      cases x1 with
      | n => exact ihb k e g
      | x id =>
        cases e
        exact g.pass (fun q => nomatch q) (fun _ _ => rfl)
      | r =>
        cases e
        exact g
  | cond q a b iha ihb =>
    intro fr fr' h h' x k e g
    change eCond q (evC T E rd.isSome a) (evC T E rd.isSome b) fr h = some (x, fr', h') at e
    unfold eCond at e
    rw [evF_eq] at e
    split at e
    · rename_i t ht
      cases t with
      | true => exact AM.go (by simp only [astep, ht]) (iha k e g)
      | false => exact AM.go (by simp only [astep, ht]) (ihb k e g)
    · cases e
  | block id a iha =>
    intro fr fr' h h' x k e g
    change eBlock id (evC T E rd.isSome a) fr h = some (x, fr', h') at e
    unfold eBlock at e
    refine AM.go rfl ?_
    split at e
    · cases e
    · rename_i x1 fr1 h1 hx
      refine iha (.blk id :: k) hx ?_
      cases x1 with
      | n =>
        cases e
        exact AM.go rfl g
      | x id' =>
        simp only at e
        by_cases hid : id = id'
        · subst hid
          have : Nat.beq id id = true := by rw [Nat.beq_eq]
          rw [this] at e
          cases e
          exact .inl ⟨k, by simp [cexit], g⟩
        · have : Nat.beq id id' = false := by
            cases hb : Nat.beq id id' with
            | true => exact absurd (Nat.eq_of_beq_eq_true hb) hid
            | false => rfl
          rw [this] at e
          cases e
          exact g.pass (fun q => nomatch q) (fun i q => by cases q; simp [cexit, hid])
      | r =>
        cases e
        exact g
  | loop a iha =>
    intro fr fr' h h' x k e g
    change eLoop (evC T E rd.isSome a) 100000 fr h = some (x, fr', h') at e
    exact AM.loop (eLoop_ok (fun k e g => iha k e g) 100000 e g)
  | scope a iha =>
    intro fr fr' h h' x k e g
    change evC T E rd.isSome a fr h = some (x, fr', h') at e
    refine AM.go rfl (iha (.sc :: k) e ?_)
    cases x with
    | n => exact AM.go rfl g
    | x id => exact g.pass (fun q => nomatch q) (fun _ _ => rfl)
    | r => exact g
  | exit id =>
    intro fr fr' h h' x k e g
    cases e
    exact g.jump
  | ret =>
    intro fr fr' h h' x k e g
    cases e
    exact g k
  | stop =>
    intro fr fr' h h' x k e g
    cases e
  | rf q ps a b iha ihb =>
    intro fr fr' h h' x k e g
    cases rd with
    | some l => cases e
    | none =>
      change eRf T E q ps a b fr h = some (x, fr', h') at e
      unfold eRf at e
      rw [evF_eq] at e
      split at e
      · cases e
      · rename_i v h2 hcall
        split at e
        · rename_i st pd fr1 ps1 a1 b1 hlp
          rw [getB_eq] at hlp
          have hst : st ≠ .busy := fun q => by
            subst q
            cases e
          have e' : some (pd, fr, setB h2 h.length .dead) = some (x, fr', h') := by
            rw [← e]
            cases st <;> first | rfl | exact absurd rfl hst
          cases e'
          split at hcall
          · rename_i f0 fst cap hq
            simp only [callF] at hcall
            split at hcall
            · rename_i gid fst' cap' hq'
              cases hq'
              split at hcall
              · rename_i cf hcf
                obtain ⟨f, h1, h2'⟩ := hT _ _ hcf
                rw [setB_eq] at g
                exact AM.rf hq h1 h2' (hE.fn _ _ _ _ _ _ _ h1 h2' hcall) hlp hst g.jump
              · cases hcall
            · rename_i id hq'
              cases hq'
            · cases hcall
          · cases hcall
        · cases e
theorem evF_ok (hm : P.follows .mixedOrders = true) {T : Nat → Option CF} (hT : SoundT P T) : ∀ n, SoundE P (evF T n)
  | 0 => ⟨fun g fn cf fr h h' v hf hc e => (by cases e), fun g id asg bd fr h h' v e => (by cases e)⟩
  | n + 1 => by
    refine ⟨fun g fn cf fr h h' v hf hc e => ?_, fun g id asg bd fr h h' v e => ?_⟩
    · change finF cf (evC T (evF T n) false cf.body fr h) = some (v, h') at e
      obtain ⟨_, body, hb, hcb, hres, _⟩ := compF_some hc
      unfold finF at e
      split at e
      · cases e
      · rename_i x fr1 h1 hx
        refine evC_ok hm hT (evF_ok hm hT n) (rd := none) cf.body [] hx ?_
        cases x with
        | x id => cases e
        | n =>
          simp only at e
          split at e
          · rename_i u hu
            cases e
            exact AM.fin hf hres hu ⟨rfl, rfl⟩
          · cases e
        | r =>
          simp only at e
          split at e
          · rename_i u hu
            cases e
            exact fun k' => AM.ret hf hres hu ⟨rfl, rfl⟩
          · cases e
    · change rdRun T (evF T n) id asg bd fr h = some (v, h') at e
      unfold rdRun at e
      split at e
      · rename_i fr1 h1 hx
        refine evC_ok hm hT (evF_ok hm hT n) (rd := some id) asg [.br, .code bd] hx ?_
        split at e
        · rename_i pd fr0 ps a b hlp
          rw [getB_eq] at hlp
          refine AM.br hlp ?_
          rw [setB_eq] at e
          unfold rdFin at e
          split at e
          · cases e
          · rename_i x fr2 h2 hx2
            refine evC_ok hm hT (evF_ok hm hT n) (rd := some id) bd [] hx2 ?_
            split at e
            · rename_i st pd' fr0' ps' a' b' hlp2
              rw [getB_eq] at hlp2
              simp only [setB_eq] at e
              cases x with
              | n =>
                cases e
                exact AM.rend hlp2 ⟨rfl, rfl⟩
              | x k =>
                cases e
                exact .inr ⟨rfl, fun k' hk => AM.rexit hk hlp2 ⟨rfl, rfl⟩⟩
              | r =>
                cases e
                exact fun k' => AM.rret hlp2 ⟨rfl, rfl⟩
            · cases e
        · cases e
      · cases e
/-- What is as it was behind a closed function. -/
structure Quietly (w w' : World) : Prop where
  os : w'.os = w.os
  tape : w'.tape = w.tape
  output : w'.output = w.output
  size : w.heap.size ≤ w'.heap.size
  block : ∀ k, k < w.heap.size → w'.heap[k]? = w.heap[k]?
def isT : Option (AV × List AB) → Bool
  | some (.b true, _) => true
  | _ => false
/-- A function of no argument that the abstract machine finds true is true in every world. -/
theorem Calls.evT (hm : P.follows .mixedOrders = true) {T : Nat → Option CF} (hT : SoundT P T) (n g : Nat) {cf : CF} (hg : T g = some cf) (e : isT (evF T n (.fn cf) (List.replicate cf.ntmps (.tu [])) []) = true) (w : World) :
    Calls P g #[] w (fun en w' => en = .returned (.bool true) ∧ Quietly w w') := by
  intro cs
  obtain ⟨fn, hf, hc⟩ := hT g cf hg
  obtain ⟨_, body, hb, hcb, hres, hnt⟩ := compF_some hc
  unfold isT at e
  split at e
  · rename_i h' he
    have am := (evF_ok hm hT n).fn g fn cf _ [] h' _ hf hc he
    let bf : Frame := { (default : Frame) with fn := g, kind := .normal, roundOf := none }
    have henter : Frame.enter P g #[] .normal = bf.atR { tmps := Array.replicate fn.ntmps undef, defers := [] } [.code body] := by
      simp [Frame.enter, Frame.atR, hf, hb, bf]
    have hrel : Rel (KC P) [] [] w := ⟨rfl, fun i B b o n h => by simp at h, fun i j bi oi bj oj Bi Bj _ h => by simp at h⟩
    obtain ⟨v, w', ⟨a, h'', ρ', ⟨ha, _⟩, hv, _, heff⟩, frm, hst, hfn, hlv⟩ := am [] w (Array.replicate fn.ntmps undef) [.code body] bf cs [] rfl rfl rfl (Nat.le_refl _) (.mcode hcb trivial) (by rw [hnt]; exact vl_repl [] _) hrel ⟨List.nodup_nil, fun r h => by simp at h⟩
    subst ha
    cases hv
    refine ⟨.returned (.bool true), w', frm, ⟨rfl, heff.os, heff.tape, heff.output.1, heff.size, fun k hk => heff.p.keep k hk fun ho => ?_⟩, by rw [henter]; exact hst, hfn, hlv⟩
    obtain ⟨i, B, o, h1, _⟩ := ho
    simp at h1
  · cases e

/-- A table's row: from number g on, each function made ready is the program's. -/
def AllT (P : Program) : Nat → List (Option CF) → Prop
  | _, [] => True
  | g, none :: l => AllT P (g + 1) l
  | g, some c :: l => (∃ fn, P.funcs[g]? = some fn ∧ compF P fn = some c) ∧ AllT P (g + 1) l
def AllTs (P : Program) : Nat → List (List (Option CF)) → Prop
  | _, [] => True
  | g, r :: l => AllT P g r ∧ AllTs P (g + 16) l
theorem AllT.cons {g : Nat} {fn : Func} {c : CF} {l : List (Option CF)} (h1 : P.funcs[g]? = some fn) (h2 : compF P fn = some c) (h3 : AllT P (g + 1) l) : AllT P g (some c :: l) := ⟨⟨fn, h1, h2⟩, h3⟩
theorem AllT.skip {g : Nat} {l : List (Option CF)} (h3 : AllT P (g + 1) l) : AllT P g (none :: l) := h3
theorem AllTs.cons {g : Nat} {r : List (Option CF)} {l : List (List (Option CF))} (h1 : AllT P g r) (h2 : AllTs P (g + 16) l) : AllTs P g (r :: l) := ⟨h1, h2⟩
noncomputable def nthT (l : List (Option CF)) : Nat → Option CF := List.rec (motive := fun _ => Nat → Option CF) (fun _ => none) (fun a _ ih n => Nat.rec (motive := fun _ => Option CF) a (fun m _ => ih m) n) l
noncomputable def nthL (l : List (List (Option CF))) : Nat → List (Option CF) := List.rec (motive := fun _ => Nat → List (Option CF)) (fun _ => []) (fun a _ ih n => Nat.rec (motive := fun _ => List (Option CF)) a (fun m _ => ih m) n) l
noncomputable def tabl (tls : List (List (Option CF))) (g : Nat) : Option CF := nthT (nthL tls (Nat.div g 16)) (Nat.mod g 16)
theorem nthT_sound : ∀ (l : List (Option CF)) (g j : Nat) (c : CF), AllT P g l → nthT l j = some c → ∃ fn, P.funcs[g + j]? = some fn ∧ compF P fn = some c
  | [], _, _, _, _, e => by cases e
  | none :: l, g, 0, c, h, e => by cases e
  | some d :: l, g, 0, c, h, e => by
    cases e
    exact h.1
  | none :: l, g, j + 1, c, h, e => by
    have := nthT_sound l (g + 1) j c h e
    rw [show g + 1 + j = g + (j + 1) by omega] at this
    exact this
  | some d :: l, g, j + 1, c, h, e => by
    have := nthT_sound l (g + 1) j c h.2 e
    rw [show g + 1 + j = g + (j + 1) by omega] at this
    exact this
theorem nthL_sound : ∀ (tls : List (List (Option CF))) (g b : Nat), AllTs P g tls → AllT P (g + 16 * b) (nthL tls b)
  | [], _, _, _ => trivial
  | r :: l, g, 0, h => h.1
  | r :: l, g, b + 1, h => by
    have := nthL_sound l (g + 16) b h.2
    rw [show g + 16 + 16 * b = g + 16 * (b + 1) by omega] at this
    exact this
theorem tabl_sound (tls : List (List (Option CF))) (h : AllTs P 0 tls) : SoundT P (tabl tls) := fun g c e => by
  have := nthT_sound _ _ _ _ (nthL_sound tls 0 (g / 16) h) e
  have hg : 0 + 16 * (g / 16) + Nat.mod g 16 = g := by
    have : Nat.mod g 16 = g % 16 := rfl
    omega
  rw [hg] at this
  exact this
end
end Go.Proofs.Ytbcpcjofkfgjoaa
