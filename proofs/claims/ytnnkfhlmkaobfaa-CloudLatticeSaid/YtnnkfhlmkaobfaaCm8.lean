/- Part 8 of what the laws' proofs rest on. No condition. -/
import Derived.Test.YtnnkfhlmkaobfaaCm7
set_option linter.all false
section
namespace Go.Proofs.Ytnnkfhlmkaobfaa
open Go.RowKit
section
variable {P : Program}
def unL (n : Nat) (listed : Array Bool) : Nat := ((List.range n).filter fun i => !listed.getD i false).length
theorem unL_zero {n : Nat} {listed : Array Bool} (h : unL n listed = 0) (j : Nat) (hj : j < n) : listed.getD j false = true := by
  have := List.eq_nil_of_length_eq_zero h
  cases hq : listed.getD j false with
  | true => rfl
  | false =>
    have hm : j ∈ (List.range n).filter fun i => !listed.getD i false := List.mem_filter.2 ⟨List.mem_range.2 hj, by rw [hq]; rfl⟩
    rw [this] at hm
    simp at hm
theorem filter_less {p q : Nat → Bool} : ∀ (l : List Nat) (i : Nat), i ∈ l → (∀ j ∈ l, q j = true → p j = true) → p i = true → q i = false → (l.filter q).length < (l.filter p).length
  | [], i, h, _, _, _ => by simp at h
  | a :: l, i, h, hpq, hp, hq => by
    have le : ∀ (l : List Nat), (∀ j ∈ l, q j = true → p j = true) → (l.filter q).length ≤ (l.filter p).length := by
      intro l
      induction l with
      | nil => intro _; exact Nat.le_refl _
      | cons b l ih =>
        intro hb
        have := ih fun j hj => hb j (List.mem_cons_of_mem _ hj)
        rw [List.filter_cons, List.filter_cons]
        have hb' := hb b (List.mem_cons_self ..)
        split <;> split <;> simp_all <;> omega
    have hl := le l fun j hj => hpq j (List.mem_cons_of_mem _ hj)
    rw [List.filter_cons, List.filter_cons]
    rcases List.mem_cons.1 h with rfl | h
    · rw [if_neg (by rw [hq]; simp), if_pos hp]
      simp only [List.length_cons]
      omega
    · have ih := filter_less l i h (fun j hj => hpq j (List.mem_cons_of_mem _ hj)) hp hq
      have ha := hpq a (List.mem_cons_self ..)
      split <;> split <;> simp_all <;> omega
theorem getD_set {listed : Array Bool} {i : Nat} (hi : i < listed.size) (j : Nat) : (listed.setIfInBounds i true).getD j false = insD (fun j => listed.getD j false) i j := by
  unfold insD
  dsimp only
  rw [Array.getD_eq_getD_getElem?, Array.getD_eq_getD_getElem?, Array.getElem?_setIfInBounds]
  by_cases e : i = j
  · subst e
    rw [if_pos rfl, if_pos hi]
    simp
  · rw [if_neg e]
    have : Nat.beq j i = false := by
      cases hb : Nat.beq j i with
      | true => exact absurd (Nat.eq_of_beq_eq_true hb).symm e
      | false => rfl
    rw [this, Bool.or_false]
theorem Can.sched {ops : Array Oper} {n len0 : Nat} {DS : Nat → DOp} {FR : Nat → List AV} {H : Nat → List AB} {V : Nat → AV} {PT : Nat → Pt} (C : Can P ops n len0 DS FR H V PT)
    (f0 : ∀ (t : Nat) (a : AV), (FR 0)[t]? = some a → a.ok (fun i => decide (i < len0)) = true) (h0 : ∀ (i : Nat) (B : AB), (H 0)[i]? = some B → B.ok (fun i => decide (i < len0)) = true)
    {p : Nat} (hp : p ≤ len0) (its : List Item) {b : Frame} (cs : List Frame) (ds : List Deferred) (hbk : b.kind = .normal) : ∀ (fuel t : Nat) (listed : Array Bool) (ρ : Mp) (w : World) (tmps : Array Value), listed.size = n → unL n listed ≤ fuel →
    Shut n DS (fun j => listed.getD j false) → VL ρ (frD DS FR V (fun j => listed.getD j false) n) tmps → Rel (KC P) ρ (hL H PT n (fun j => listed.getD j false)) w →
    ∃ tmps' w' ρ', Steps P (lone (b.atR { tmps, defers := ds } (.inRegion ops (Region.linearise.go .any ops fuel t listed []) :: its)) cs w) (lone (b.atR { tmps := tmps', defers := ds } (.inRegion ops [] :: its)) cs w') ∧
      VL ρ' (FR n) tmps' ∧ Rel (KC P) ρ' (H n) w' ∧ EffP p ρ (hL H PT n (fun j => listed.getD j false)) w ρ' (H n) w' := by
  have done : ∀ (listed : Array Bool) (ρ : Mp) (w : World) (tmps : Array Value), (∀ j, j < n → listed.getD j false = true) → VL ρ (frD DS FR V (fun j => listed.getD j false) n) tmps → Rel (KC P) ρ (hL H PT n (fun j => listed.getD j false)) w →
      ∃ tmps' w' ρ', Steps P (lone (b.atR { tmps, defers := ds } (.inRegion ops [] :: its)) cs w) (lone (b.atR { tmps := tmps', defers := ds } (.inRegion ops [] :: its)) cs w') ∧
      VL ρ' (FR n) tmps' ∧ Rel (KC P) ρ' (H n) w' ∧ EffP p ρ (hL H PT n (fun j => listed.getD j false)) w ρ' (H n) w' := fun listed ρ w tmps hall hv hr => by
    obtain ⟨a1, a2⟩ := C.all (D := fun j => listed.getD j false) hall
    rw [a1] at hv
    rw [a2] at hr ⊢
    exact ⟨tmps, w, ρ, .refl _ _, hv, hr, EffP.refl _ _ _ _⟩
  intro fuel
  induction fuel with
  | zero =>
    intro t listed ρ w tmps hs hu hsh hv hr
    exact done listed ρ w tmps (unL_zero (by omega)) hv hr
  | succ fuel ih =>
    intro t listed ρ w tmps hs hu hsh hv hr
    have same : ∀ i, i < n → listed.getD i true = listed.getD i false := fun i hi => by
      rw [Array.getD_eq_getD_getElem?, Array.getD_eq_getD_getElem?, Array.getElem?_eq_getElem (by omega)]
      rfl
    simp only [Region.linearise.go]
    change ∃ tmps' w' ρ', Steps P (lone (b.atR { tmps, defers := ds } (.inRegion ops (match (Region.ready .any ops listed)[t % (Region.ready .any ops listed).length]? with
      | some i => Region.linearise.go .any ops fuel (t / (Region.ready .any ops listed).length) (listed.setIfInBounds i true) [i]
      | none => [].reverse) :: its)) cs w) _ ∧ _
    cases hi : (Region.ready .any ops listed)[t % (Region.ready .any ops listed).length]? with
    | none =>
      have hnil : Region.ready .any ops listed = [] := by
        cases hr : Region.ready .any ops listed with
        | nil => rfl
        | cons x xs =>
          rw [hr] at hi
          have hlt : t % (x :: xs).length < (x :: xs).length := Nat.mod_lt _ (by simp)
          simp at hi
          simp at hlt
          omega
      refine done listed ρ w tmps (fun j => ?_) hv hr
      induction j using Nat.strongRecOn with
      | ind k ihk =>
        intro hk
        cases hq : listed.getD k false with
        | true => rfl
        | false =>
          have hko : k < ops.size := by rw [C.size]; exact hk
          have hmem : k ∈ Region.ready .any ops listed := by
            refine List.mem_filter.2 ⟨List.mem_range.2 hko, ?_⟩
            rw [same k hk, hq, Array.getElem?_eq_getElem hko]
            simp only [Bool.not_false, Bool.true_and, Option.map_some, Option.getD_some]
            rw [Array.all_eq_true_iff_forall_mem]
            intro e he
            cases hb : Region.binds .any e with
            | false => rfl
            | true =>
              have hd : e.on ∈ depsOf ops[k] := List.mem_map.2 ⟨e, List.mem_filter.2 ⟨Array.mem_toList_iff.2 he, hb⟩, rfl⟩
              have h1 := C.deps k hk _ (Array.getElem?_eq_getElem hko) _ hd
              have h2 := C.lt k hk _ h1
              rw [ihk _ h2 (by omega)]
              rfl
          rw [hnil] at hmem
          simp at hmem
    | some i =>
      simp only []
      rw [linearise_go_acc, List.reverse_singleton, List.singleton_append]
      have hmem := List.mem_of_getElem? hi
      obtain ⟨hm1, hm2⟩ := List.mem_filter.1 hmem
      have hin : i < n := by rw [← C.size]; exact List.mem_range.1 hm1
      have hio : i < ops.size := List.mem_range.1 hm1
      rw [same i hin, Array.getElem?_eq_getElem hio] at hm2
      simp only [Option.map_some, Option.getD_some, Bool.and_eq_true, Bool.not_eq_true'] at hm2
      obtain ⟨hun, hdeps⟩ := hm2
      have hdl : ∀ d ∈ depsOf ops[i], listed.getD d false = true := fun d hd => by
        obtain ⟨e, he, rfl⟩ := List.mem_map.1 hd
        obtain ⟨he1, he2⟩ := List.mem_filter.1 he
        have := Array.all_eq_true_iff_forall_mem.1 hdeps e (Array.mem_toList_iff.1 he1)
        rw [he2] at this
        simpa using this
      have hanc : ∀ m, bit m (DS i).anc = true → (fun j => listed.getD j false) m = true := fun m hm => by
        obtain ⟨d, hd, hm'⟩ := C.ancs i hin _ (Array.getElem?_eq_getElem hio) m hm
        rcases hm' with rfl | hm'
        · exact hdl _ hd
        · have h1 := C.lt i hin _ (C.deps i hin _ (Array.getElem?_eq_getElem hio) d hd)
          exact hsh d (by omega) (hdl d hd) m hm'
      obtain ⟨tmps1, w1, ρ1, st1, v1, r1, e1⟩ := C.step hsh hin hun hanc f0 h0 hp (Region.linearise.go .any ops fuel (t / (Region.ready .any ops listed).length) (listed.setIfInBounds i true) []) its cs ds hbk hv hr
      have hfun : insD (fun j => listed.getD j false) i = fun j => (listed.setIfInBounds i true).getD j false := funext fun j => (getD_set (by omega) j).symm
      rw [hfun] at v1 r1 e1
      have hun' : unL n (listed.setIfInBounds i true) < unL n listed := by
        refine filter_less _ i (List.mem_range.2 hin) (fun j _ hj => ?_) (by rw [hun]; rfl) ?_
        · rw [getD_set (by omega)] at hj
          cases hq : listed.getD j false with
          | true => rw [insD_sub (D := fun j => listed.getD j false) hq] at hj; exact hj
          | false => rfl
        · rw [getD_set (by omega), insD_same]
          rfl
      obtain ⟨tmps2, w2, ρ2, st2, v2, r2, e2⟩ := ih (t / (Region.ready .any ops listed).length) (listed.setIfInBounds i true) ρ1 w1 tmps1 (by simp [hs]) (by omega) (fun j hj hd m hm => by
        dsimp only at hd ⊢
        rw [getD_set (by omega)] at hd ⊢
        by_cases hji : j = i
        · subst hji
          exact insD_sub (hanc m hm)
        · rw [insD_ne hji] at hd
          exact insD_sub (hsh j hj hd m hm)) v1 r1
      exact ⟨tmps2, w2, ρ2, st1.trans st2, v2, r2, e1.trans e2⟩
theorem Rel.pad {ρ : Mp} {h : List AB} {w : World} (r : Rel (KC P) ρ h w) (m : Nat) {p : Nat} (hp : p ≤ h.length) : Rel (KC P) (ρ ++ List.replicate m (0, 0, 0)) (h ++ List.replicate m .dead) w ∧ EffP p ρ h w (ρ ++ List.replicate m (0, 0, 0)) (h ++ List.replicate m .dead) w ∧ Ext ρ (ρ ++ List.replicate m (0, 0, 0)) := by
  have ext : Ext ρ (ρ ++ List.replicate m (0, 0, 0)) := fun i x hx => by
    rw [List.getElem?_append_left (List.getElem?_eq_some_iff.1 hx).1]
    exact hx
  have live : ∀ (i : Nat) (B : AB) (x : Nat × Nat × Nat), (h ++ List.replicate m AB.dead)[i]? = some B → B.live = true → (ρ ++ List.replicate m (0, 0, 0))[i]? = some x → h[i]? = some B ∧ ρ[i]? = some x := fun i B x h1 h2 h3 => by
    by_cases hi : i < h.length
    · rw [List.getElem?_append_left hi] at h1
      rw [List.getElem?_append_left (by rw [r.len]; exact hi)] at h3
      exact ⟨h1, h3⟩
    · rw [List.getElem?_append_right (by omega), List.getElem?_replicate] at h1
      split at h1
      · cases h1; cases h2
      · cases h1
  refine ⟨⟨by simp [r.len], fun i B b o n h1 h2 => ?_, fun i j bi oi bj oj Bi Bj hne h1 h2 h3 h4 hm hl => ?_⟩, ⟨rfl, rfl, ⟨rfl, Nat.le_refl _⟩, Nat.le_refl _, fun _ _ _ => rfl, fun b hb => ?_, fun i b hb => ?_, fun i hi => ?_⟩, ext⟩
  · cases hq : B.live with
    | false =>
      cases B with
      | dead => trivial
      | _ => cases hq
    | true =>
      obtain ⟨h1, h2⟩ := live i B _ h1 hq h2
      exact (r.blk i B b o n h1 h2).same ext (fun _ => rfl)
  · obtain ⟨h1, h3⟩ := live i Bi _ h1 (AB.live_of_mut hm) h3
    obtain ⟨h2, h4⟩ := live j Bj _ h2 hl h4
    exact r.sep i j bi oi bj oj Bi Bj hne h1 h2 h3 h4 hm hl
  · obtain ⟨i, B, o, h1, h2, h3⟩ := hb
    obtain ⟨h1, h3⟩ := live i B _ h1 (AB.live_of_mut h2) h3
    exact .inl ⟨i, B, o, h1, h2, h3⟩
  · obtain ⟨B, o, h1, h2, h3⟩ := hb
    obtain ⟨h1, h3⟩ := live i B _ h1 h2 h3
    exact .inl ⟨i, ⟨B, o, h1, h2, h3⟩, fun _ => rfl, fun q => q⟩
  · rw [List.getElem?_append_left (by rw [r.len]; omega)]
theorem EffP.drewn (p : Nat) (ρ : Mp) (h : List AB) (w : World) : EffP p ρ h w ρ h { w with drawn := w.drawn + 1 } :=
  ⟨rfl, rfl, ⟨rfl, Nat.le_succ _⟩, Nat.le_refl _, fun _ _ _ => rfl, fun _ h => .inl h, fun i _ h => .inl ⟨i, h, fun _ => rfl, fun q => q⟩, fun _ _ => rfl⟩
end
end Go.Proofs.Ytnnkfhlmkaobfaa
end
section
namespace Go.Proofs.Ytnnkfhlmkaobfaa
open Go.RowKit
section
variable {P : Program}
/-- What is still to be shown when code has been left so. -/
def Left (P : Program) (p : Nat) (rd : Option Nat) (fn : FuncId) (k : List CI) (R : AV → List AB → Prop) (fr : List AV) (h : List AB) : XE → Prop
  | .n => AM P p rd fn k fr h R
  | .x id => (∃ k', cexit id k = some k' ∧ AM P p rd fn k' fr h R) ∨ (cexit id k = none ∧ ∀ k', cexit id k' = none → AM P p rd fn (.code (.exit id) :: k') fr h R)
  | .r => ∀ k', AM P p rd fn (.code .ret :: k') fr h R
theorem Left.pass {p : Nat} {rd : Option Nat} {fn : FuncId} {k : List CI} {R : AV → List AB → Prop} {fr : List AV} {h : List AB} {x : XE} {c : CI} (hx : x ≠ .n) (hc : ∀ id, x = .x id → cexit id (c :: k) = cexit id k) (g : Left P p rd fn k R fr h x) : Left P p rd fn (c :: k) R fr h x := by
  cases x with
  | n => exact absurd rfl hx
  | x id =>
    simp only [Left, hc id rfl] at g ⊢
    exact g
  | r => exact g
theorem Left.jump {p : Nat} {rd : Option Nat} {fn : FuncId} {k : List CI} {R : AV → List AB → Prop} {fr : List AV} {h : List AB} {x : XE} (g : Left P p rd fn k R fr h x) : AM P p rd fn (jumpI x ++ k) fr h R := by
  cases x with
  | n => exact g
  | x id =>
    change AM P p rd fn (.code (.exit id) :: k) fr h R
    rcases g with ⟨k', h2, h3⟩ | ⟨h2, h3⟩
    · exact AM.go (by simp only [astep, h2, Option.map_some]) h3
    · exact h3 k h2
  | r => exact g k
end
end Go.Proofs.Ytnnkfhlmkaobfaa
end
section
namespace Go.Proofs.Ytnnkfhlmkaobfaa
open Go.RowKit
inductive FT where
  | e
  | n (v : AV) (l r : FT)
noncomputable def FT.get (t : FT) : Nat → AV :=
  FT.rec (motive := fun _ => Nat → AV) (fun _ => .tu []) (fun v _ _ il ir n => Nat.rec (motive := fun _ => AV) v (fun m _ => Bool.rec (motive := fun _ => AV) (il (Nat.div m 2)) (ir (Nat.div m 2)) (Nat.beq (Nat.mod m 2) 1)) n) t
/-- A frame: how many places, and the tree of them. -/
structure FR where
  n : Nat
  t : FT
/-- A block: a loop's record has its frame az a tree. -/
inductive HB where
  | b (B : AB)
  | lp (st : LoopState) (pd : XE) (fr : FR) (ps : List Nat) (asg bd : CC)
inductive HT where
  | e
  | n (v : Option HB) (l r : HT)
noncomputable def HT.get (t : HT) : Nat → Option HB :=
  HT.rec (motive := fun _ => Nat → Option HB) (fun _ => none) (fun v _ _ il ir n => Nat.rec (motive := fun _ => Option HB) v (fun m _ => Bool.rec (motive := fun _ => Option HB) (il (Nat.div m 2)) (ir (Nat.div m 2)) (Nat.beq (Nat.mod m 2) 1)) n) t
def CO.isCall : CO → Option (Opd × List Opd)
  | .call f args => some (f, args)
  | _ => none
/-- Under a mask. -/
def HB.freeze : HB → Option HB
  | .b B => match B with
    | .blk fl _ xs => some (.b (.blk fl false xs))
    | _ => none
  | .lp _ _ _ _ _ _ => none
noncomputable def okT (q : Nat → Bool) (n : Nat) (t : FT) : Bool := Nat.rec (motive := fun _ => Bool) true (fun k ih => match okV q (t.get k) with | true => ih | false => false) n
noncomputable def HB.ok (q : Nat → Bool) : Option HB → Bool
  | some (.b B) => B.ok q
  | some (.lp _ _ fr _ _ _) => okT q fr.n fr.t
  | none => true
end Go.Proofs.Ytnnkfhlmkaobfaa
end
section
namespace Go.Proofs.Ytnnkfhlmkaobfaa
open Go.RowKit
def FT.has : FT → Nat → Prop
  | .e, _ => False
  | .n _ _ _, 0 => True
  | .n _ l r, m + 1 => match Nat.beq (Nat.mod m 2) 1 with
    | true => r.has (Nat.div m 2)
    | false => l.has (Nat.div m 2)
def HT.has : HT → Nat → Prop
  | .e, _ => False
  | .n _ _ _, 0 => True
  | .n _ l r, m + 1 => match Nat.beq (Nat.mod m 2) 1 with
    | true => r.has (Nat.div m 2)
    | false => l.has (Nat.div m 2)
/-- A frame az a tree stands for one az a list. -/
structure FRel (F : FR) (fr : List AV) : Prop where
  len : F.n = fr.length
  get : ∀ t, F.t.get t = nthA fr t
  has : ∀ t, t < F.n → F.t.has t
/-- A block of the tree stands for one of the list; nothing: a dead one. -/
def BRel : Option HB → AB → Prop
  | none, B => B = .dead
  | some (.b B'), B => B = B'
  | some (.lp st pd F ps asg bd), B => ∃ fr, FRel F fr ∧ B = .lp st pd fr ps asg bd
end Go.Proofs.Ytnnkfhlmkaobfaa
end
section
namespace Go.Proofs.Ytnnkfhlmkaobfaa
open Go.RowKit
section
variable {P : Program}
theorem isCall_some {op : CO} {f : Opd} {args : List Opd} (h : op.isCall = some (f, args)) : op = .call f args := by
  cases op <;> first | (cases h; done) | (simp only [CO.isCall, Option.some.injEq, Prod.mk.injEq] at h; rw [h.1, h.2])
end
end Go.Proofs.Ytnnkfhlmkaobfaa
end
section
namespace Go.Proofs.Ytnnkfhlmkaobfaa
open Go.RowKit
theorem BRel.freeze {X : Option HB} {B : AB} (r : BRel X B) : BRel (X.bind HB.freeze) B.freeze := by
  cases X with
  | none =>
    rw [show B = .dead from r]
    rfl
  | some X =>
    cases X with
    | b C =>
      rw [show B = C from r]
      cases C <;> rfl
    | lp st pd F ps asg bd =>
      obtain ⟨fr, hF, rfl⟩ := r
      rfl
section
variable {P : Program}
/-- What a step of the run in the order of the text tells. -/
structure DSx (P : Program) (len0 : Nat) (d : DOp) (k : Nat) (past : List Pt) (fr : List AV) (h : List AB) (v : AV) (h' : List AB) (past' : List Pt) (pt : Pt) : Prop where
  pk : pt.k = k
  pp : past' = pt :: past ∨ (past' = past ∧ pt.rs = [] ∧ pt.ws = [] ∧ pt.lo = 0 ∧ pt.hi = 0)
  ind : ∀ p ∈ past, indepP d.anc pt.rs pt.ws p = true
  vok : v.ok (qOk len0 pt.lo pt.hi d.anc past) = true
  cas : (h' = h ∧ pt.ws = [] ∧ pt.lo = 0 ∧ pt.hi = 0 ∧ (∀ i ∈ pt.rs, i < h.length) ∧
      ∀ frx hx, (∀ t ∈ d.o.tmps, nthA frx t = nthA fr t) → (∀ i ∈ pt.rs, hx[i]? = h[i]?) → ∀ (ops : Array Oper) (i : Nat) (o : Oper), ops[i]? = some o → compO P ops o = some d.o → OpOk P ops i d.o.dst frx hx v hx) ∨
    (pt.lo = h.length ∧ pt.hi = h'.length ∧ (∀ t ∈ d.o.tmps, (nthA fr t).ok (fun i => decide (i < h.length)) = true) ∧
      (∀ i, i ∈ pt.rs ++ pt.ws → ∃ B, h[i]? = some B ∧ B.ok (fun i => decide (i < h.length)) = true) ∧
      ∃ G, h' = mergeB pt.ws G 0 h ∧ h.length ≤ G.length ∧
        (∀ id ∈ pt.ws, ((G[id]?).getD .dead).ok (qOk len0 pt.lo pt.hi d.anc past) = true) ∧ (∀ B ∈ G.drop h.length, B.ok (qOk len0 pt.lo pt.hi d.anc past) = true) ∧
        ∀ frx, (∀ t ∈ d.o.tmps, nthA frx t = nthA fr t) → ∀ (ops : Array Oper) (i : Nat) (o : Oper), ops[i]? = some o → compO P ops o = some d.o → OpOk P ops i d.o.dst frx (maskB pt.rs pt.ws 0 h) v G)
end
end Go.Proofs.Ytnnkfhlmkaobfaa
end
section
namespace Go.Proofs.Ytnnkfhlmkaobfaa
open Go.RowKit
mutual
/-- A value under other numbers of blocks. -/
def AV.ren (f : Nat → Nat) : AV → AV
  | .p id off => .p (f id) off
  | .sl id off len cap k => .sl (f id) off len cap k
  | .f fn fst cap => .f fn (renL f fst) (renL f cap)
  | .ifc t v => .ifc t (v.ren f)
  | .ag l => .ag (renL f l)
  | .tu l => .tu (renL f l)
  | .y id => .y (f id)
  | .b x => .b x
  | .i k n => .i k n
  | .s l => .s l
  | .np => .np
  | .se => .se
  | .ns => .ns
  | .nf => .nf
  | .ni => .ni
  | .top => .top
def renL (f : Nat → Nat) : List AV → List AV
  | [] => []
  | a :: l => a.ren f :: renL f l
end
theorem renL_get (f : Nat → Nat) : ∀ (l : List AV) (j : Nat), (renL f l)[j]? = (l[j]?).map (AV.ren f)
  | [], _ => by simp [renL]
  | a :: l, 0 => by simp [renL]
  | a :: l, j + 1 => by simp only [renL, List.getElem?_cons_succ]; exact renL_get f l j
theorem renL_len (f : Nat → Nat) : ∀ l : List AV, (renL f l).length = l.length
  | [] => rfl
  | _ :: l => by simp [renL, renL_len f l]
theorem VR.ren_up {ρ ρ' : Mp} {f : Nat → Nat} (h : ∀ (i : Nat) x, ρ'[i]? = some x → ρ[f i]? = some x) {a : AV} {v : Value} (r : VR ρ' a v) : VR ρ (a.ren f) v := by
  have lst : ∀ {l : List AV} {cs : Array Value}, (∀ (j : Nat) a c, l[j]? = some a → cs[j]? = some c → VR ρ (a.ren f) c) → ∀ (j : Nat) a c, (renL f l)[j]? = some a → cs[j]? = some c → VR ρ a c := fun {l cs} ih j a c h1 h2 => by
    rw [renL_get] at h1
    obtain ⟨b, hb, rfl⟩ := Option.map_eq_some_iff.1 h1
    exact ih j b c hb h2
  induction r with
  | b x => exact .b x
  | i k n => exact .i k n
  | s l bs h => exact .s l bs h
  | p id off b o n hρ => exact .p _ off b o n (h _ _ hρ)
  | np => exact .np
  | sl id off len cap k b o n cap' hρ h1 h2 h3 h4 h5 => exact .sl _ off len cap k b o n cap' (h _ _ hρ) h1 h2 h3 h4 h5
  | sz id off a c hc hn => exact .sz _ off a c hc hn
  | se a c hc => exact .se a c hc
  | ns => exact .ns
  | f fn fst cap fst' cap' h0 hl _ _ ih0 ih => exact .f fn _ _ fst' cap' (by rw [renL_len]; exact h0) (by rw [renL_len]; exact hl) (lst ih0) (lst ih)
  | nf => exact .nf
  | ifc t v v' _ ih => exact .ifc t _ v' ih
  | ni => exact .ni
  | ag l cs hl _ ih => exact .ag _ cs (by rw [renL_len]; exact hl) (lst ih)
  | tu l cs hl _ ih => exact .tu _ cs (by rw [renL_len]; exact hl) (lst ih)
  | top v => exact .top v
  | y id b o n hρ => exact .y _ b o n (h _ _ hρ)
mutual
theorem VR.ren_down {ρ ρ' : Mp} {f : Nat → Nat} {q : Nat → Bool} (hq : ∀ i, q i = true → ρ'[i]? = ρ[f i]?) : ∀ (a : AV), a.ok q = true → ∀ v, VR ρ (a.ren f) v → VR ρ' a v
  | .p id off, hok, v, h => by
    cases h with
    | p _ _ b o n hρ => exact .p id off b o n (by rw [hq id hok]; exact hρ)
  | .sl id off len cap k, hok, v, h => by
    cases h with
    | sl _ _ _ _ _ b o n cap' hρ h1 h2 h3 h4 h5 =>
      rcases sl_ok hok with ⟨rfl, rfl, rfl⟩ | hk
      · exact .sz id off _ _ h3 (fun e => nomatch e)
      · exact .sl id off len cap k b o n cap' (by rw [hq id hk]; exact hρ) h1 h2 h3 h4 h5
    | sz _ _ a c hc hn => exact .sz id off a c hc hn
  | .f fn fst cap, hok, v, h => by
    simp only [AV.ok, Bool.and_eq_true] at hok
    cases h with
    | f _ _ _ fst' cap' h0 hl hv0 hv =>
      rw [renL_len] at h0 hl
      exact .f fn fst cap fst' cap' h0 hl
        (fun j a c ha hc => renL_down hq fst hok.1 j a c ha (hv0 j (a.ren f) c (by rw [renL_get, ha]; rfl) hc))
        (fun j a c ha hc => renL_down hq cap hok.2 j a c ha (hv j (a.ren f) c (by rw [renL_get, ha]; rfl) hc))
  | .ifc t a, hok, v, h => by
    simp only [AV.ok] at hok
    cases h with
    | ifc _ _ v' h' => exact .ifc t a v' (VR.ren_down hq a hok v' h')
  | .ag l, hok, v, h => by
    simp only [AV.ok] at hok
    cases h with
    | ag _ cs hl hv =>
      rw [renL_len] at hl
      exact .ag l cs hl (fun j a c ha hc => renL_down hq l hok j a c ha (hv j (a.ren f) c (by rw [renL_get, ha]; rfl) hc))
  | .tu l, hok, v, h => by
    simp only [AV.ok] at hok
    cases h with
    | tu _ cs hl hv =>
      rw [renL_len] at hl
      exact .tu l cs hl (fun j a c ha hc => renL_down hq l hok j a c ha (hv j (a.ren f) c (by rw [renL_get, ha]; rfl) hc))
  | .y id, hok, v, h => by
    cases h with
    | y _ b o n hρ => exact .y id b o n (by rw [hq id hok]; exact hρ)
  | .b x, _, v, h => by cases h; exact .b x
  | .i k n, _, v, h => by cases h; exact .i k n
  | .s l, _, v, h => by cases h with | s _ bs h => exact .s l bs h
  | .np, _, v, h => by cases h; exact .np
  | .se, _, v, h => by cases h with | se a c hc => exact .se a c hc
  | .ns, _, v, h => by cases h; exact .ns
  | .nf, _, v, h => by cases h; exact .nf
  | .ni, _, v, h => by cases h; exact .ni
  | .top, _, v, _ => .top v
theorem renL_down {ρ ρ' : Mp} {f : Nat → Nat} {q : Nat → Bool} (hq : ∀ i, q i = true → ρ'[i]? = ρ[f i]?) : ∀ (l : List AV), okL q l = true → ∀ (j : Nat) (a : AV) (c : Value), l[j]? = some a → VR ρ (a.ren f) c → VR ρ' a c
  | [], _, j, a, c, h, _ => by simp at h
  | x :: l, hok, 0, a, c, h, r => by
    simp only [okL, Bool.and_eq_true] at hok
    simp only [List.getElem?_cons_zero, Option.some.injEq] at h
    rw [← h] at r ⊢
    exact VR.ren_down hq x hok.1 c r
  | x :: l, hok, j + 1, a, c, h, r => by
    simp only [okL, Bool.and_eq_true] at hok
    exact renL_down hq l hok.2 j a c (by simpa using h) r
end
def AB.ren (f : Nat → Nat) : AB → AB
  | .blk fl m xs => .blk fl m (if fl then xs else renL f xs)
  | .lp st pd fr ps a b => .lp st pd (renL f fr) ps a b
  | .dead => .dead
  | .iter s pos => .iter s pos
theorem BR.ren_down {K : Code → CC → Prop} {ρ ρ' : Mp} {f : Nat → Nat} {q : Nat → Bool} (hq : ∀ i, q i = true → ρ'[i]? = ρ[f i]?) {w : World} {b o n : Nat} {B : AB} (hB : B.ok q = true) (h : BR K ρ w b o n (B.ren f)) : BR K ρ' w b o n B := by
  cases B with
  | dead => trivial
  | iter s pos => exact h
  | lp st pd fr ps asg bd =>
    obtain ⟨r, h1, h2, h3, h4, h5⟩ := h
    exact ⟨r, h1, h2, h3, ⟨by have := h4.1; rw [renL_len] at this; exact this, fun j a c ha hc => VR.ren_down hq a (okL_iff.1 hB j a ha) c (h4.2 j (a.ren f) c (by rw [renL_get, ha]; rfl) hc)⟩, h5⟩
  | blk fl m xs =>
    obtain ⟨cs, e, fz, h1, h2, h3, h4⟩ := h
    cases fl with
    | true => exact ⟨cs, e, fz, h1, h2, h3, h4⟩
    | false =>
      simp only [Bool.false_eq_true, if_false] at h3 h4
      rw [renL_len] at h3
      exact ⟨cs, e, fz, h1, h2, h3, fun k a c ha hc => VR.ren_down hq a (okL_iff.1 hB k a ha) c (h4 k (a.ren f) c (by rw [renL_get, ha]; rfl) hc)⟩
section
variable {P : Program}
end
end Go.Proofs.Ytnnkfhlmkaobfaa
end
section
namespace Go.Proofs.Ytnnkfhlmkaobfaa
open Go.RowKit
section
variable {P : Program}
/-- l' and h' say no more than l and h; blocks below p keep their numbers. -/
def Bt (P : Program) (p : Nat) (l : List AV) (h : List AB) (l' : List AV) (h' : List AB) : Prop :=
  ∀ ρ w cs, p ≤ h.length → Rel (KC P) ρ h w → VL ρ l cs → p ≤ h'.length ∧ ∃ ρ', VL ρ' l' cs ∧ Rel (KC P) ρ' h' w ∧ (∀ b, Own ρ' h' b → Own ρ h b) ∧ (∀ i b, At ρ' h' i b → ∃ j, At ρ h j b ∧ (i < p → j = i) ∧ (p ≤ i → p ≤ j)) ∧ ∀ i, i < p → ρ'[i]? = ρ[i]?
theorem Bt.refl (p : Nat) (l : List AV) (h : List AB) : Bt P p l h l h := fun ρ _ _ hp r v => ⟨hp, ρ, v, r, fun _ h => h, fun i b h => ⟨i, h, fun _ => rfl, fun q => q⟩, fun _ _ => rfl⟩
theorem Bt.trans {p : Nat} {l1 l2 l3 : List AV} {h1 h2 h3 : List AB} (a : Bt P p l1 h1 l2 h2) (c : Bt P p l2 h2 l3 h3) : Bt P p l1 h1 l3 h3 := by
  intro ρ w cs hp r v
  obtain ⟨p1, ρ1, v1, r1, o1, a1, f1⟩ := a ρ w cs hp r v
  obtain ⟨p2, ρ2, v2, r2, o2, a2, f2⟩ := c ρ1 w cs p1 r1 v1
  refine ⟨p2, ρ2, v2, r2, fun b h => o1 b (o2 b h), fun i b h => ?_, fun i hi => (f2 i hi).trans (f1 i hi)⟩
  obtain ⟨j, q1, q2, q3⟩ := a2 i b h
  obtain ⟨k, z1, z2, z3⟩ := a1 j b q1
  exact ⟨k, z1, fun hi => by have := q2 hi; subst this; exact z2 hi, fun hi => z3 (q3 hi)⟩
theorem AM.bt {p : Nat} {rd : Option Nat} {fn : FuncId} {todo : List CI} {fr fr' : List AV} {h h' : List AB} {R : AV → List AB → Prop} (hrd : ∀ id, rd = some id → id < p) (e : Bt P p fr h fr' h') (g : AM P p rd fn todo fr' h' R) : AM P p rd fn todo fr h R := by
  intro ρ w tmps items b cs rs hf hk hro hpl hi hv hr hmk
  obtain ⟨p1, ρ', v', r', ow, ac, fx⟩ := e ρ w tmps hpl hr hv
  have hro' : RdOk ρ' b rd := by
    cases rd with
    | none => exact hro
    | some id =>
      obtain ⟨l, on, h1, h2⟩ := hro
      exact ⟨l, on, by rw [fx id (hrd id rfl)]; exact h1, h2⟩
  have hmk' : Marks ρ' h' w rs := ⟨hmk.1, fun r hr' => ⟨(hmk.2 r hr').1, fun i ha => by
    obtain ⟨j, hj, _⟩ := ac i r ha
    exact (hmk.2 r hr').2 j hj⟩⟩
  refine (g ρ' w tmps items b cs rs hf hk hro' p1 hi v' r' hmk').mono fun v w' ⟨a, h'', ρ1, q1, q2, q3, q4⟩ => ⟨a, h'', ρ1, q1, q2, q3, q4.os, q4.tape, q4.output, q4.size, fun b hb hn hx => q4.keep b hb (fun ho => hn (ow b ho)) hx, fun b ho => (q4.own b ho).imp (ow b) (fun z => z), fun i b ha => ?_, fun i hi => (q4.fix i hi).trans (fx i hi)⟩
  rcases q4.acc i b ha with ⟨j, z, z1, z2⟩ | z | z
  · obtain ⟨k, y, y1, y2⟩ := ac j b z
    exact .inl ⟨k, y, fun hip => by have := z1 hip; subst this; exact y1 hip, fun hip => y2 (z2 hip)⟩
  · exact .inr (.inl (ow b z))
  · exact .inr (.inr z)
theorem AM.post {p : Nat} {rd : Option Nat} {fn : FuncId} {todo : List CI} {fr : List AV} {h : List AB} {R R' : AV → List AB → Prop} (hR : ∀ a h1, R a h1 → ∃ a' h2, Bt P p [a] h1 [a'] h2 ∧ R' a' h2) (g : AM P p rd fn todo fr h R) : AM P p rd fn todo fr h R' := by
  intro ρ w tmps items b cs rs hf hk hro hpl hi hv hr hmk
  refine (g ρ w tmps items b cs rs hf hk hro hpl hi hv hr hmk).mono fun v w' ⟨a, h1, ρ1, q1, q2, q3, q4⟩ => ?_
  obtain ⟨a', h2, hb, hR'⟩ := hR a h1 q1
  have hp1 : p ≤ h1.length := by
    rw [← q3.len]
    rcases Nat.lt_or_ge ρ1.length p with hlt | hge
    · have := q4.fix ρ1.length hlt
      rw [List.getElem?_eq_none (Nat.le_refl _)] at this
      have hh := hr.len
      rw [List.getElem?_eq_getElem (by omega)] at this
      cases this
    · exact hge
  obtain ⟨_, ρ', v', r', ow, ac, fx⟩ := hb ρ1 w' #[v] hp1 q3 (VL.one q2)
  refine ⟨a', h2, ρ', hR', v'.2 0 a' v rfl rfl, r', q4.os, q4.tape, q4.output, q4.size, q4.keep, fun b ho => q4.own b (ow b ho), fun i b ha => ?_, fun i hi => (fx i hi).trans (q4.fix i hi)⟩
  obtain ⟨j, z, z1, z2⟩ := ac i b ha
  rcases q4.acc j b z with ⟨k, y, y1, y2⟩ | y | y
  · exact .inl ⟨k, y, fun hip => by have := z1 hip; subst this; exact y1 hip, fun hip => y2 (z2 hip)⟩
  · exact .inr (.inl y)
  · exact .inr (.inr y)
/-- A value that says no more than another one. -/
def Wk (a' a : AV) : Prop := ∀ ρ c, VR ρ a c → VR ρ a' c
theorem Wk.refl (a : AV) : Wk a a := fun _ _ h => h
theorem Wk.top (a : AV) : Wk .top a := fun _ c _ => .top c
theorem Wk.nil (id off : Nat) : Wk (.sl id off 0 0 (some 0)) .ns := fun ρ c h => by cases h; exact .sz id off none 0 (by decide) (fun _ => rfl)
/-- Lists of values that say no more. -/
def WkL : List AV → List AV → Prop
  | [], [] => True
  | a' :: l', a :: l => Wk a' a ∧ WkL l' l
  | _, _ => False
theorem WkL.vl : ∀ {l' l : List AV}, WkL l' l → ∀ {ρ : Mp} {cs : Array Value}, VL ρ l cs → VL ρ l' cs := by
  intro l' l h ρ cs v
  have key : ∀ (l' l : List AV), WkL l' l → l'.length = l.length ∧ ∀ (j : Nat) (a' : AV), l'[j]? = some a' → ∃ a, l[j]? = some a ∧ Wk a' a := by
    intro l'
    induction l' with
    | nil =>
      intro l h
      cases l with
      | nil => exact ⟨rfl, fun j a' h => by simp at h⟩
      | cons a l => exact h.elim
    | cons a' l' ih =>
      intro l h
      cases l with
      | nil => exact h.elim
      | cons a l =>
        obtain ⟨h1, h2⟩ := h
        obtain ⟨i1, i2⟩ := ih l h2
        refine ⟨by simp [i1], fun j b hb => ?_⟩
        cases j with
        | zero => cases hb; exact ⟨a, rfl, h1⟩
        | succ j => exact i2 j b hb
  obtain ⟨k1, k2⟩ := key l' l h
  refine ⟨k1.trans v.1, fun j a' c ha hc => ?_⟩
  obtain ⟨a, q1, q2⟩ := k2 j a' ha
  exact q2 ρ c (v.2 j a c q1 hc)
theorem Bt.wk {p : Nat} {l l' : List AV} {h : List AB} (e : WkL l' l) : Bt P p l h l' h := fun ρ _ _ hp r v => ⟨hp, ρ, e.vl v, r, fun _ h => h, fun i b h => ⟨i, h, fun _ => rfl, fun q => q⟩, fun _ _ => rfl⟩
theorem Bt.wk1 {p : Nat} {a a' : AV} {h : List AB} (e : Wk a' a) : Bt P p [a] h [a'] h := Bt.wk ⟨e, trivial⟩
/-- Dead blocks may stand behind. -/
theorem Bt.pad {p : Nat} (l : List AV) (h : List AB) (n : Nat) : Bt P p l h l (h ++ List.replicate n .dead) := by
  intro ρ w cs hp r v
  obtain ⟨p1, p2, p3⟩ := r.pad n hp
  refine ⟨by simp; omega, _, v.ext p3, p1, fun b ⟨i, B, o, h1, h2, h3⟩ => ?_, fun i b ⟨B, o, h1, h2, h3⟩ => ?_, fun i hi => p2.fix i hi⟩
  · rw [List.getElem?_append] at h1
    split at h1
    · rename_i hlt
      rw [List.getElem?_append_left (by rw [r.len]; exact hlt)] at h3
      exact ⟨i, B, o, h1, h2, h3⟩
    · rw [List.getElem?_replicate] at h1
      split at h1
      · cases h1; cases h2
      · cases h1
  · rw [List.getElem?_append] at h1
    split at h1
    · rename_i hlt
      rw [List.getElem?_append_left (by rw [r.len]; exact hlt)] at h3
      exact ⟨i, ⟨B, o, h1, h2, h3⟩, fun _ => rfl, fun q => q⟩
    · rw [List.getElem?_replicate] at h1
      split at h1
      · cases h1; cases h2
      · cases h1
/-- The numbers of those blocks that stay, of the ones behind p. -/
def selN (p : Nat) (sel : List Nat) (i : Nat) : Nat := if i < p then i else p + sel.getD (i - p) 0
theorem selN_old {p : Nat} {sel : List Nat} {i : Nat} (h : i < p) : selN p sel i = i := by simp [selN, h]
theorem selN_new {p : Nat} {sel : List Nat} (k : Nat) : selN p sel (p + k) = p + sel.getD k 0 := by
  unfold selN
  rw [if_neg (by omega), Nat.add_sub_cancel_left]
theorem Wk.ren {p : Nat} {f : Nat → Nat} (hf : ∀ i, i < p → f i = i) {a : AV} (h : a.ok (fun i => decide (i < p)) = true) : Wk (a.ren f) a := by
  intro ρ c hv
  have h1 : VR (ρ.take p) a c := hv.agree (q := fun i => decide (i < p)) (fun i hi => by rw [List.getElem?_take, if_pos (by simpa using hi)]) h
  refine h1.ren_up fun i x hx => ?_
  rw [List.getElem?_take] at hx
  split at hx
  · rename_i hi
    rw [hf i hi]
    exact hx
  · cases hx
/-- A block that says no more than another one, its numbers turned. -/
def BWk (q : Nat → Bool) (f : Nat → Nat) : AB → AB → Prop
  | .dead, _ => True
  | .blk true m' xs', .blk true m xs => (m' = true → m = true) ∧ xs' = xs
  | .blk false m' xs', .blk false m xs => (m' = true → m = true) ∧ okL q xs' = true ∧ WkL (renL f xs') xs
  | .lp st' pd' fr' ps' a' b', .lp st pd fr ps a b => (st' = st ∧ pd' = pd ∧ ps' = ps ∧ a' = a ∧ b' = b) ∧ okL q fr' = true ∧ WkL (renL f fr') fr
  | _, _ => False
theorem BWk.mut {q : Nat → Bool} {f : Nat → Nat} {B' B : AB} (h : BWk q f B' B) (hm : B'.mut = true) : B.mut = true := by
  cases B' with
  | dead => cases hm
  | blk fl' m' xs' => cases B <;> cases fl' <;> first | exact h.elim | (rename_i fl m xs; cases fl <;> first | exact h.elim | exact h.1 hm)
  | iter _ _ => cases B <;> exact h.elim
  | lp _ _ _ _ _ _ => cases B <;> first | rfl | (rename_i fl m xs; cases fl <;> exact h.elim) | exact h.elim
theorem BWk.live {q : Nat → Bool} {f : Nat → Nat} {B' B : AB} (h : BWk q f B' B) (hm : B'.live = true) : B.live = true := by
  cases B' with
  | dead => cases hm
  | blk fl' m' xs' => cases B <;> cases fl' <;> first | exact h.elim | rfl
  | iter _ _ => cases B <;> exact h.elim
  | lp _ _ _ _ _ _ => cases B <;> first | rfl | (rename_i fl m xs; cases fl <;> exact h.elim) | exact h.elim
theorem WkL.len : ∀ {a b : List AV}, WkL a b → a.length = b.length
  | [], [], _ => rfl
  | [], _ :: _, h => h.elim
  | _ :: _, [], h => h.elim
  | _ :: _, _ :: _, h => by simp [WkL.len h.2]
theorem BWk.br {ρ ρ' : Mp} {w : World} {b o n : Nat} {q : Nat → Bool} {f : Nat → Nat} (hq : ∀ i, q i = true → ρ'[i]? = ρ[f i]?) {B' B : AB} (h : BWk q f B' B) (r : BR (KC P) ρ w b o n B) : BR (KC P) ρ' w b o n B' := by
  cases B' with
  | dead => trivial
  | blk fl' m' xs' =>
    cases B with
    | blk fl m xs =>
      obtain ⟨cs, e, fz, h1, h2, h3, h4⟩ := r
      cases fl' <;> cases fl <;> first | exact h.elim | skip
      · obtain ⟨g1, g2, g3⟩ := h
        have hl : xs'.length = xs.length := by
          have key : ∀ (a b : List AV), WkL a b → a.length = b.length := by
            intro a
            induction a with
            | nil => intro b h; cases b with
              | nil => rfl
              | cons _ _ => exact h.elim
            | cons x a ih => intro b h; cases b with
              | nil => exact h.elim
              | cons _ _ => simp [ih _ h.2]
          have := key _ _ g3
          rw [renL_len] at this
          exact this
        refine ⟨cs, e, fz, h1, fun z => h2 (g1 z), by omega, fun k a c ha hc => ?_⟩
        have hk : k < xs.length := by have := (List.getElem?_eq_some_iff.1 ha).1; omega
        have hv : VL ρ xs ((cs.toList.drop o).take xs.length).toArray := by
          refine ⟨by simp; omega, fun j x c' hx hc' => h4 j x c' hx ?_⟩
          simp only [List.getElem?_toArray, List.getElem?_take, List.getElem?_drop, Array.getElem?_toList] at hc'
          split at hc'
          · exact hc'
          · cases hc'
        have hw := WkL.vl g3 hv
        refine VR.ren_down hq a (okL_iff.1 g2 k a ha) c (hw.2 k (a.ren f) c (by rw [renL_get, ha]; rfl) ?_)
        simp only [List.getElem?_toArray, List.getElem?_take, List.getElem?_drop, Array.getElem?_toList, if_pos hk]
        exact hc
      · obtain ⟨g1, rfl⟩ := h
        exact ⟨cs, e, fz, h1, fun z => h2 (g1 z), h3, h4⟩
    | dead => cases fl' <;> exact h.elim
    | iter _ _ => cases fl' <;> exact h.elim
    | lp _ _ _ _ _ _ => cases fl' <;> exact h.elim
  | iter _ _ => cases B <;> exact h.elim
  | lp st' pd' fr' ps' a' b' =>
    cases B with
    | lp st pd fr ps a b =>
      obtain ⟨⟨rfl, rfl, rfl, rfl, rfl⟩, g2, g3⟩ := h
      obtain ⟨l, r1, r2, r3, r4, r5, r6, r7⟩ := r
      have hw := WkL.vl g3 r4
      have hlen := WkL.len g3
      rw [renL_len] at hlen
      exact ⟨l, r1, r2, r3, ⟨hlen.trans r4.1, fun k x c hx hc => VR.ren_down hq x (okL_iff.1 g2 k x hx) c (hw.2 k (x.ren f) c (by rw [renL_get, hx]; rfl) hc)⟩, r5, r6, r7⟩
    | dead => exact h.elim
    | iter _ _ => exact h.elim
    | blk fl m xs => cases fl <;> exact h.elim
def BlkSel (p : Nat) (sel : List Nat) (n : Nat) (l : List AB) : List Nat → List AB → Prop
  | [], [] => True
  | k :: ks, B' :: l' => (∃ B, l[k]? = some B ∧ BWk (fun i => decide (i < p + n)) (selN p sel) B' B) ∧ BlkSel p sel n l ks l'
  | _, _ => False
def FrSel (p : Nat) (sel : List Nat) (n : Nat) : List AV → List AV → Prop
  | [], [] => True
  | a :: l, a' :: l' => (a' = .top ∨ (a'.ok (fun i => decide (i < p + n)) = true ∧ Wk (a'.ren (selN p sel)) a)) ∧ FrSel p sel n l l'
  | _, _ => False
theorem BlkSel.get {p n : Nat} {sel : List Nat} {l : List AB} : ∀ {ks : List Nat} {l' : List AB}, BlkSel p sel n l ks l' → l'.length = ks.length ∧ ∀ (i : Nat) B', l'[i]? = some B' → ∃ k B, ks[i]? = some k ∧ l[k]? = some B ∧ BWk (fun i => decide (i < p + n)) (selN p sel) B' B
  | [], [], _ => ⟨rfl, fun i B' h => by simp at h⟩
  | [], _ :: _, h => h.elim
  | _ :: _, [], h => h.elim
  | k :: ks, B' :: l', h => by
    obtain ⟨⟨B, h1, h2⟩, h3⟩ := h
    obtain ⟨i1, i2⟩ := BlkSel.get h3
    refine ⟨by simp [i1], fun i C hC => ?_⟩
    cases i with
    | zero => cases hC; exact ⟨k, B, rfl, h1, h2⟩
    | succ i => simpa using i2 i C hC
theorem FrSel.get {p n : Nat} {sel : List Nat} : ∀ {l l' : List AV}, FrSel p sel n l l' → l'.length = l.length ∧ ∀ (i : Nat) a', l'[i]? = some a' → a' = .top ∨ (a'.ok (fun i => decide (i < p + n)) = true ∧ ∃ a, l[i]? = some a ∧ Wk (a'.ren (selN p sel)) a)
  | [], [], _ => ⟨rfl, fun i B' h => by simp at h⟩
  | [], _ :: _, h => h.elim
  | _ :: _, [], h => h.elim
  | a :: l, a' :: l', h => by
    obtain ⟨h1, h3⟩ := h
    obtain ⟨i1, i2⟩ := FrSel.get h3
    refine ⟨by simp [i1], fun i C hC => ?_⟩
    cases i with
    | zero => cases hC; exact h1.imp (fun z => z) (fun z => ⟨z.1, a, rfl, z.2⟩)
    | succ i => simpa using i2 i C hC
/-- All blocks of a heap name blocks of it. -/
def HOk (h : List AB) : Prop := ∀ (i : Nat) B, h[i]? = some B → B.ok (fun i => decide (i < h.length)) = true
/-- Behind a heap that is left az it was, some blocks stay, the others are forgotten. -/
theorem Bt.selc {h l l' : List AB} {fr fr' : List AV} (n : Nat) (sel : List Nat) (hh : HOk h) (hc : ∀ i, i < n → sel[i]? = some i) (hup : ∀ (i k : Nat), n ≤ i → sel[i]? = some k → n ≤ k) (hn : n ≤ sel.length) (hnd : sel.Nodup) (hb : BlkSel h.length sel sel.length l sel l') (hfr : FrSel h.length sel sel.length fr fr') : Bt P (h.length + n) fr (h ++ l) fr' (h ++ l') := by
  intro ρ w cs hp r v
  obtain ⟨b1, b2⟩ := hb.get
  obtain ⟨f1, f2⟩ := hfr.get
  have hlt : ∀ (i k : Nat), sel[i]? = some k → k < l.length := fun i k hk => by
    have hi : i < l'.length := by rw [b1]; exact (List.getElem?_eq_some_iff.1 hk).1
    obtain ⟨k', B, q1, q2, _⟩ := b2 i l'[i] (List.getElem?_eq_getElem hi)
    rw [hk] at q1
    cases q1
    exact (List.getElem?_eq_some_iff.1 q2).1
  have hρ := r.len
  rw [List.length_append] at hρ
  let ρ' : Mp := ρ.take h.length ++ sel.map fun k => ρ.getD (h.length + k) (0, 0, 0)
  have old : ∀ i, i < h.length → ρ'[i]? = ρ[i]? := fun i hi => by
    simp only [ρ']
    rw [List.getElem?_append_left (by rw [List.length_take]; omega), List.getElem?_take, if_pos hi]
  have new : ∀ i k, sel[i]? = some k → ρ'[h.length + i]? = ρ[h.length + k]? := fun i k hk => by
    have := hlt i k hk
    simp only [ρ']
    rw [List.getElem?_append_right (by rw [List.length_take]; omega), List.length_take, show h.length + i - min h.length ρ.length = i by omega, List.getElem?_map, hk, Option.map_some, List.getD_eq_getElem?_getD, List.getElem?_eq_getElem (by omega : h.length + k < ρ.length)]
    rfl
  have hq : ∀ i, (fun i => decide (i < h.length + sel.length)) i = true → ρ'[i]? = ρ[selN h.length sel i]? := fun i hi => by
    by_cases h1 : i < h.length
    · rw [selN_old h1, old i h1]
    · obtain ⟨k, rfl⟩ : ∃ k, i = h.length + k := ⟨i - h.length, by omega⟩
      have hk : k < sel.length := by simp only [decide_eq_true_eq] at hi; omega
      rw [selN_new, List.getD_eq_getElem?_getD, List.getElem?_eq_getElem hk]
      exact new k _ (List.getElem?_eq_getElem hk)
  -- what a block of the new heap is
  have cls : ∀ i B', (h ++ l')[i]? = some B' → (i < h.length ∧ h[i]? = some B') ∨ (∃ j k B, i = h.length + j ∧ sel[j]? = some k ∧ (h ++ l)[h.length + k]? = some B ∧ BWk (fun i => decide (i < h.length + sel.length)) (selN h.length sel) B' B) := fun i B' hB => by
    rw [List.getElem?_append] at hB
    split at hB
    · rename_i hlt'
      exact .inl ⟨hlt', hB⟩
    · obtain ⟨k, B, q1, q2, q3⟩ := b2 _ B' hB
      refine .inr ⟨i - h.length, k, B, by omega, q1, ?_, q3⟩
      rw [List.getElem?_append_right (by omega), Nat.add_sub_cancel_left]
      exact q2
  have up : ∀ i B' x, (h ++ l')[i]? = some B' → ρ'[i]? = some x → ∃ j B, (h ++ l)[j]? = some B ∧ ρ[j]? = some x ∧ (B'.mut = true → B.mut = true) ∧ (B'.live = true → B.live = true) ∧ ((i < h.length ∧ j = i) ∨ (∃ i' k, i = h.length + i' ∧ sel[i']? = some k ∧ j = h.length + k)) := fun i B' x hB hx => by
    rcases cls i B' hB with ⟨hi, q⟩ | ⟨j, k, B, rfl, q1, q2, q3⟩
    · exact ⟨i, B', by rw [List.getElem?_append_left hi]; exact q, by rw [← old i hi]; exact hx, id, id, .inl ⟨hi, rfl⟩⟩
    · exact ⟨h.length + k, B, q2, by rw [← new j k q1]; exact hx, q3.mut, q3.live, .inr ⟨j, k, rfl, q1, rfl⟩⟩
  refine ⟨by rw [List.length_append, b1]; omega, ρ', ⟨f1.trans v.1, fun j a' c ha hc => ?_⟩, ⟨?_, fun i B' b o n hB hx => ?_, fun i j bi oi bj oj Bi Bj hne h1 h2 h3 h4 hm hl => ?_⟩, fun b ⟨i, B', o, h1, h2, h3⟩ => ?_, fun i b ⟨B', o, h1, h2, h3⟩ => ?_, fun i hi => ?_⟩
  · rcases f2 j a' ha with rfl | ⟨q1, a, q2, q3⟩
    · exact .top c
    · exact VR.ren_down hq a' q1 c (q3 ρ c (v.2 j a c q2 hc))
  · simp only [ρ', List.length_append, List.length_take, List.length_map, b1]
    omega
  · rcases cls i B' hB with ⟨hi, q⟩ | ⟨j, k, B, rfl, q1, q2, q3⟩
    · have := r.blk i B' b o n (by rw [List.getElem?_append_left hi]; exact q) (by rw [← old i hi]; exact hx)
      exact this.agree (q := fun i => decide (i < h.length)) (fun i hi => old i (by simpa using hi)) (hh i B' q) (fun _ => rfl)
    · exact q3.br hq (r.blk _ B b o n q2 (by rw [← new j k q1]; exact hx))
  · obtain ⟨i', Ci, u1, u2, u3, _, u5⟩ := up i Bi _ h1 h3
    obtain ⟨j', Cj, z1, z2, _, z4, z5⟩ := up j Bj _ h2 h4
    refine r.sep i' j' bi oi bj oj Ci Cj (fun e => hne ?_) u1 z1 u2 z2 (u3 hm) (z4 hl)
    subst e
    rcases u5 with ⟨x1, x2⟩ | ⟨s, k, x1, x2, x3⟩ <;> rcases z5 with ⟨y1, y2⟩ | ⟨t, m, y1, y2, y3⟩
    · omega
    · omega
    · omega
    · have : k = m := by omega
      subst this
      have := (List.getElem?_inj (List.getElem?_eq_some_iff.1 x2).1 hnd).1 (x2.trans y2.symm)
      omega
  · obtain ⟨j, B, q1, q2, q3, _, _⟩ := up i B' _ h1 h3
    exact ⟨j, B, o, q1, q3 h2, q2⟩
  · obtain ⟨j, B, q1, q2, _, q4, q5⟩ := up i B' _ h1 h3
    refine ⟨j, ⟨B, o, q1, q4 h2, q2⟩, fun hi => ?_, fun hi => ?_⟩
    · rcases q5 with ⟨_, x⟩ | ⟨s, k, x, y, z⟩
      · exact x
      · have := hc s (by omega)
        rw [y] at this
        cases this
        omega
    · rcases q5 with ⟨x, _⟩ | ⟨s, k, z, y, x⟩
      · omega
      · have := hup s k (by omega) y
        omega
  · by_cases h1 : i < h.length
    · exact old i h1
    · obtain ⟨k, rfl⟩ : ∃ k, i = h.length + k := ⟨i - h.length, by omega⟩
      exact new k k (hc k (by omega))
theorem Bt.sel {h l l' : List AB} {fr fr' : List AV} (sel : List Nat) (hh : HOk h) (hnd : sel.Nodup) (hb : BlkSel h.length sel sel.length l sel l') (hfr : FrSel h.length sel sel.length fr fr') : Bt P h.length fr (h ++ l) fr' (h ++ l') :=
  Bt.selc 0 sel hh (fun i hi => by omega) (fun _ _ _ _ => Nat.zero_le _) (Nat.zero_le _) hnd hb hfr
end
end Go.Proofs.Ytnnkfhlmkaobfaa
end
