/- The abstract machine's run of code is sound: regions in any order, loops, calls. -/
import Derived.Test.YtbcpcjofkfgjoaaEvW
namespace Go.Proofs.Ytbcpcjofkfgjoaa
open Go.RowKit

section
variable {P : Program}
theorem drawn_can {T : Nat → Option CF} {E : RunF} (hT : SoundT P T) (hE : SoundE P E) {ops : Array Oper} {l : List (COper × List Nat)} (hl : cDraw P ops (List.range ops.size) = some l) (hok : drawOk [] (clos [] l) (l.map (·.2)) = true)
    {fr fr' : List AV} {h h' : List AB} (e : drawn T E h.length (clos [] l) 0 [] fr h = some (fr', h')) :
    ∃ (DS : Nat → DOp) (FR : Nat → List AV) (H : Nat → List AB) (V : Nat → AV) (PT : Nat → Pt), Can P ops ops.size h.length DS FR H V PT ∧ FR 0 = fr ∧ H 0 = h ∧ FR ops.size = fr' ∧ H ops.size = h' := by
  obtain ⟨S, V, PT, s0, s1, s2, s3⟩ := drawn_seq (clos [] l) 0 [] fr h _ e
  obtain ⟨c1, c2⟩ := cDraw_get hl
  rw [List.length_range] at c1
  have hlen : (clos [] l).length = ops.size := by rw [clos_len, c1]
  rw [hlen] at s2 s3
  let DS : Nat → DOp := fun k => ((clos [] l)[k]?).getD ⟨⟨none, none, .stop⟩, 0, 0⟩
  have dget : ∀ k, k < ops.size → (clos [] l)[k]? = some (DS k) := fun k hk => by
    simp only [DS]
    rw [List.getElem?_eq_getElem (by omega)]
    rfl
  have K : ∀ k, k < ops.size → ∃ o, ops[k]? = some o ∧ compO P ops o = some (DS k).o ∧ (DS k).us = setOf (DS k).o.tmps ∧ l[k]? = some ((DS k).o, depsOf o) ∧
      (DS k).anc = (depsOf o).foldl (fun m x => Nat.lor m (Nat.lor (Nat.shiftLeft 1 x) (([] ++ ((clos [] l).map DOp.anc).take k).getD x 0))) 0 := fun k hk => by
    obtain ⟨c, deps, h1, h2, h3, h4⟩ := clos_get l [] k (DS k) (dget k hk)
    obtain ⟨i, o, h5, h6, h7, rfl⟩ := c2 k c deps h1
    rw [List.getElem?_range hk] at h5
    cases h5
    exact ⟨o, h6, by rw [h2]; exact h7, by rw [h2]; exact h3, by rw [h2]; exact h1, h4⟩
  have T1 : ∀ k, k < ops.size → DSt T E h.length (DS k) k (S k).past (S k).fr (S k).h (V k) (S (k + 1)).h (S (k + 1)).past (PT k) ∧ (S (k + 1)).fr = put (S k).fr (DS k).o.dst (V k) := fun k hk => by
    have := s1 k (DS k) (dget k hk)
    rw [Nat.zero_add] at this
    exact this
  have hdr := drawOk_get _ _ _ hok
  have D1 : ∀ k, k < ops.size → ∀ o, ops[k]? = some o → (∀ x ∈ depsOf o, bit x (DS k).anc = true) ∧ (DS k).anc < 2 ^ k ∧ tmpOk (DS k) 0 ((clos [] l).take k) = true := fun k hk o ho => by
    obtain ⟨o', h1, _, _, h4, _⟩ := K k hk
    rw [h1] at ho
    cases ho
    have := hdr.2 k (DS k) (depsOf o) (dget k hk) (by rw [List.getElem?_map, h4]; rfl)
    simpa using this
  have lt : ∀ k, k < ops.size → ∀ j, bit j (DS k).anc = true → j < k := fun k hk j hj => by
    obtain ⟨o', h1, _⟩ := K k hk
    exact bit_lt (D1 k hk o' h1).2.1 hj
  have past : ∀ k, k ≤ ops.size → (∀ p ∈ (S k).past, ∃ m, m < k ∧ p = PT m) ∧ (∀ m, m < k → PT m ∈ (S k).past ∨ ((PT m).rs = [] ∧ (PT m).ws = [] ∧ (PT m).lo = 0 ∧ (PT m).hi = 0)) := by
    intro k
    induction k with
    | zero =>
      intro _
      rw [s0]
      exact ⟨fun p hp => by simp at hp, fun m hm => by omega⟩
    | succ k ih =>
      intro hk
      obtain ⟨i1, i2⟩ := ih (by omega)
      have hd := (T1 k (by omega)).1
      rcases hd.pp with q | ⟨q, r⟩
      · rw [q]
        refine ⟨fun p hp => ?_, fun m hm => ?_⟩
        · rcases List.mem_cons.1 hp with rfl | hp
          · exact ⟨k, by omega, rfl⟩
          · obtain ⟨m, hm, rfl⟩ := i1 p hp
            exact ⟨m, by omega, rfl⟩
        · by_cases e : m = k
          · subst e
            exact .inl (List.mem_cons_self ..)
          · exact (i2 m (by omega)).imp (List.mem_cons_of_mem _) (fun x => x)
      · rw [q]
        refine ⟨fun p hp => ?_, fun m hm => ?_⟩
        · obtain ⟨m, hm, rfl⟩ := i1 p hp
          exact ⟨m, by omega, rfl⟩
        · by_cases e : m = k
          · subst e
            exact .inr r
          · exact i2 m (by omega)
  have pk : ∀ k, k < ops.size → (PT k).k = k := fun k hk => (T1 k hk).1.pk
  have own : ∀ k, k < ops.size → ∀ id, qOk h.length (PT k).lo (PT k).hi (DS k).anc (S k).past id = true → ownQ h.length PT (fun k => (DS k).anc) k id = true := fun k hk id hq => by
    simp only [qOk, Bool.or_eq_true, Bool.and_eq_true, Nat.blt_eq, Nat.ble_eq, List.any_eq_true] at hq
    simp only [ownQ, decide_eq_true_eq]
    rcases hq with (hq | hq) | ⟨p, hp, hq⟩
    · exact .inl hq
    · exact .inr ⟨k, Nat.le_refl _, .inl rfl, hq.1, hq.2⟩
    · obtain ⟨m, hm, rfl⟩ := (past k (by omega)).1 p hp
      rw [pk m (by omega)] at hq
      exact .inr ⟨m, by omega, .inr hq.1.1, hq.1.2, hq.2⟩
  refine ⟨DS, fun k => (S k).fr, fun k => (S k).h, V, PT, ⟨rfl, fun k hk => (T1 k hk).2, fun k hk => ?_, by simp [s0], fun k hk => ?_, fun k hk i hi => ?_, fun k hk i hi => ?_, fun j k hjk hk => ?_, fun k hk => ?_, fun k hk i B hi hB => ?_, fun j k hjk hk => ?_, lt, fun k hk o ho => (D1 k hk o ho).1, fun k hk o ho m hm => ?_, fun k hk => ?_⟩, by simp [s0], by simp [s0], s2, s3⟩
  · rcases (T1 k hk).1.cas with ⟨q, _⟩ | ⟨_, _, _, _, _, G, _, q, q2, _⟩
    · rw [q]; exact Nat.le_refl _
    · rw [q, mergeB_len]; omega
  · rcases (T1 k hk).1.cas with ⟨_, _, q, q', _⟩ | ⟨_, q, q', _⟩
    · exact .inl ⟨q, q'⟩
    · exact .inr ⟨q, q'⟩
  · rcases (T1 k hk).1.cas with ⟨q, _⟩ | ⟨_, q, q', _, _, G, _, hG, q2, _⟩
    · rw [q]
    · have hn := ptHas_not.1 hi
      rw [hG, mergeB_get, Nat.zero_add, if_neg hn.1]
      split
      · rfl
      · rename_i hlt
        rw [hG, mergeB_len] at q'
        rw [q, q'] at hn
        have h1 : G.length ≤ i := by have := hn.2; omega
        rw [List.getElem?_eq_none h1, List.getElem?_eq_none (by omega)]
  · rcases (T1 k hk).1.cas with ⟨_, q, _, _, q', _⟩ | ⟨_, _, _, _, q, _⟩
    · rw [q, List.append_nil] at hi
      exact q' i hi
    · obtain ⟨B, hB, _⟩ := q i hi
      exact (List.getElem?_eq_some_iff.1 hB).1
  · rcases (past k (by omega)).2 j hjk with q | ⟨q1, q2, q3, q4⟩
    · have := (T1 k hk).1.ind _ q
      unfold indepP at this
      rw [pk j (by omega)] at this
      split at this
      · rename_i hb
        exact .inl hb
      · simp only [Bool.and_eq_true, List.all_eq_true, Bool.not_eq_true'] at this
        refine .inr ⟨fun i hi => this.1 i hi, fun i hi hm => ?_⟩
        have := this.2 i hi
        rw [memN_iff.2 hm] at this
        cases this
    · refine .inr ⟨fun i _ => ptHas_not.2 ⟨by rw [q2]; simp, by omega⟩, fun i _ hm => ?_⟩
      rw [q1, q2] at hm
      simp at hm
  · exact AV.ok_mono (own k hk) _ (T1 k hk).1.vok
  · rcases (T1 k hk).1.cas with ⟨_, q, q1, q2, _⟩ | ⟨_, q, q', _, hrw, G, _, hG, q2, q3, q4⟩
    · exfalso
      rcases ptHas_iff.1 hi with u | u
      · rw [q] at u; simp at u
      · omega
    · refine AB.ok_mono (own k hk) B ?_
      rw [hG, mergeB_get, Nat.zero_add] at hB
      by_cases hw : i ∈ (PT k).ws
      · have := q3 i hw
        have hlt : i < (S k).h.length := by
          obtain ⟨B', hB', _⟩ := hrw i (List.mem_append_right _ hw)
          exact (List.getElem?_eq_some_iff.1 hB').1
        rw [if_pos hlt, if_pos hw] at hB
        cases hB
        exact this
      · have hr : (PT k).lo ≤ i ∧ i < (PT k).hi := (ptHas_iff.1 hi).resolve_left hw
        rw [q] at hr
        rw [if_neg (by omega)] at hB
        refine q4 B (List.mem_of_getElem? (i := i - (S k).h.length) ?_)
        rw [List.getElem?_drop, show (S k).h.length + (i - (S k).h.length) = i by omega]
        exact hB
  · obtain ⟨o, ho, _⟩ := K k hk
    have := tmpOk_get _ _ (D1 k hk o ho).2.2 j (DS j) (by rw [List.getElem?_take, if_pos hjk]; exact dget j (by omega))
    rw [Nat.zero_add] at this
    exact this
  · obtain ⟨o', ho', _, _, _, h5⟩ := K k hk
    rw [ho'] at ho
    cases ho
    rw [h5, bit_fold, bit_zero] at hm
    rcases hm with hm | ⟨x, hx, hm⟩
    · cases hm
    · refine ⟨x, hx, hm.imp (fun q => q) fun q => ?_⟩
      rw [List.nil_append, List.getD_eq_getElem?_getD, List.getElem?_take] at q
      split at q
      · rename_i hxk
        rw [List.getElem?_map, dget x (by omega)] at q
        exact q
      · rw [Option.getD_none, bit_zero] at q
        cases q
  · obtain ⟨o, ho, hc, hus, _⟩ := K k hk
    have hmem : ∀ {frx : List AV}, (∀ t, bit t (DS k).us = true → nthA frx t = nthA (S k).fr t) → ∀ t ∈ (DS k).o.tmps, nthA frx t = nthA (S k).fr t := fun {frx} hx t ht => hx t (by rw [hus]; exact (bit_setOf t _).2 ht)
    have hguard : ∀ {frx : List AV}, (∀ t ∈ (DS k).o.tmps, nthA frx t = nthA (S k).fr t) → guardF frx (DS k).o.guard = guardF (S k).fr (DS k).o.guard := fun {frx} hx => by
      cases hg : (DS k).o.guard with
      | none => rfl
      | some p =>
        obtain ⟨t, w⟩ := p
        simp only [guardF]
        rw [hx t (by unfold COper.tmps; rw [hg]; exact List.mem_append_left _ (List.mem_singleton.2 rfl))]
    rcases (T1 k hk).1.cas with ⟨q, q1, _, q2, q3, q4⟩ | ⟨hg, q1, q2, q3, q4, G, hrun, hG, q5, q6, q7⟩
    · refine .inl ⟨q1, q2, fun frx hx hf hh => ?_⟩
      have hf' := hmem hf
      rcases q4 with ⟨hg, hv⟩ | ⟨hg, hr⟩
      · rw [hv]
        exact opF_skip ho hc hx (by rw [hguard hf']; exact hg)
      · refine opF_ok hT hE ho hc (by rw [hguard hf']; exact hg) ?_
        rw [opF_congr T E hx _ fun t ht => hf' t (List.mem_append_right _ ht)]
        exact hr hx hh
    · refine .inr ⟨q1, q2, fun t ht => ?_, q4, G, ?_, fun i hi => ?_, fun frx hf => ?_⟩
      · rw [hus, bit_setOf] at ht
        rcases List.mem_append.1 ht with ht | ht
        · cases hgd : (DS k).o.guard with
          | none => rw [hgd] at ht; simp at ht
          | some p =>
            obtain ⟨u, w⟩ := p
            rw [hgd] at ht hg
            obtain rfl : t = u := by simpa using ht
            simp only [guardF] at hg
            split at hg
            · rename_i x hx
              rw [hx]
              simp [AV.ok]
            · cases hg
            · cases hg
        · exact q3 t ht
      · rw [hG, mergeB_len]; omega
      · rw [hG, mergeB_get, Nat.zero_add]
        by_cases hw : i ∈ (PT k).ws
        · have hlt : i < (S k).h.length := by
            obtain ⟨B', hB', _⟩ := q4 i (List.mem_append_right _ hw)
            exact (List.getElem?_eq_some_iff.1 hB').1
          rw [if_pos hlt, if_pos hw, List.getElem?_eq_getElem (by omega)]
          rfl
        · have hr : (PT k).lo ≤ i ∧ i < (PT k).hi := (ptHas_iff.1 hi).resolve_left hw
          rw [q1] at hr
          rw [if_neg (by omega)]
      · have hf' := hmem hf
        refine opF_ok hT hE ho hc (by rw [hguard hf']; exact hg) ?_
        rw [opF_congr T E _ _ fun t ht => hf' t (List.mem_append_right _ ht)]
        exact hrun

def unL (n : Nat) (listed : Array Bool) : Nat := ((List.range n).filter fun i => !listed.getD i false).length
theorem unL_zero {n : Nat} {listed : Array Bool} (h : unL n listed = 0) (j : Nat) (hj : j < n) : listed.getD j false = true := by
  have := List.eq_nil_of_length_eq_zero h
  cases hq : listed.getD j false with
  | true => rfl
  | false =>
    have hm : j ∈ (List.range n).filter fun i => !listed.getD i false := List.mem_filter.2 ⟨List.mem_range.2 hj, by rw [hq]; rfl⟩
    rw [this] at hm
    simp at hm
theorem filter_less {p q : Nat → Bool} : ∀ (l : List Nat) (i : Nat), i ∈ l → (∀ j ∈ l, q j = true → p j = true) → p i = true → q i = false → (l.filter q).length < (l.filter p).length
  | [], i, h, _, _, _ => by simp at h
  | a :: l, i, h, hpq, hp, hq => by
    have le : ∀ (l : List Nat), (∀ j ∈ l, q j = true → p j = true) → (l.filter q).length ≤ (l.filter p).length := by
      intro l
      induction l with
      | nil => intro _; exact Nat.le_refl _
      | cons b l ih =>
        intro hb
        have := ih fun j hj => hb j (List.mem_cons_of_mem _ hj)
        rw [List.filter_cons, List.filter_cons]
        have hb' := hb b (List.mem_cons_self ..)
        split <;> split <;> simp_all <;> omega
    have hl := le l fun j hj => hpq j (List.mem_cons_of_mem _ hj)
    rw [List.filter_cons, List.filter_cons]
    rcases List.mem_cons.1 h with rfl | h
    · rw [if_neg (by rw [hq]; simp), if_pos hp]
      simp only [List.length_cons]
      omega
    · have ih := filter_less l i h (fun j hj => hpq j (List.mem_cons_of_mem _ hj)) hp hq
      have ha := hpq a (List.mem_cons_self ..)
      split <;> split <;> simp_all <;> omega
theorem getD_set {listed : Array Bool} {i : Nat} (hi : i < listed.size) (j : Nat) : (listed.setIfInBounds i true).getD j false = insD (fun j => listed.getD j false) i j := by
  unfold insD
  dsimp only
  rw [Array.getD_eq_getD_getElem?, Array.getD_eq_getD_getElem?, Array.getElem?_setIfInBounds]
  by_cases e : i = j
  · subst e
    rw [if_pos rfl, if_pos hi]
    simp
  · rw [if_neg e]
    have : Nat.beq j i = false := by
      cases hb : Nat.beq j i with
      | true => exact absurd (Nat.eq_of_beq_eq_true hb).symm e
      | false => rfl
    rw [this, Bool.or_false]

theorem Can.sched {ops : Array Oper} {n len0 : Nat} {DS : Nat → DOp} {FR : Nat → List AV} {H : Nat → List AB} {V : Nat → AV} {PT : Nat → Pt} (C : Can P ops n len0 DS FR H V PT)
    (f0 : ∀ (t : Nat) (a : AV), (FR 0)[t]? = some a → a.ok (fun i => decide (i < len0)) = true) (h0 : ∀ (i : Nat) (B : AB), (H 0)[i]? = some B → B.ok (fun i => decide (i < len0)) = true)
    {p : Nat} (hp : p ≤ len0) (its : List Item) {b : Frame} (cs : List Frame) (ds : List Deferred) (hbk : b.kind = .normal) : ∀ (fuel t : Nat) (listed : Array Bool) (ρ : Mp) (w : World) (tmps : Array Value), listed.size = n → unL n listed ≤ fuel →
    Shut n DS (fun j => listed.getD j false) → VL ρ (frD DS FR V (fun j => listed.getD j false) n) tmps → Rel (KC P) ρ (hL H PT n (fun j => listed.getD j false)) w →
    ∃ tmps' w' ρ', Steps P (lone (b.atR { tmps, defers := ds } (.inRegion ops (Region.linearise.go .any ops fuel t listed []) :: its)) cs w) (lone (b.atR { tmps := tmps', defers := ds } (.inRegion ops [] :: its)) cs w') ∧
      VL ρ' (FR n) tmps' ∧ Rel (KC P) ρ' (H n) w' ∧ EffP p ρ (hL H PT n (fun j => listed.getD j false)) w ρ' (H n) w' := by
  have done : ∀ (listed : Array Bool) (ρ : Mp) (w : World) (tmps : Array Value), (∀ j, j < n → listed.getD j false = true) → VL ρ (frD DS FR V (fun j => listed.getD j false) n) tmps → Rel (KC P) ρ (hL H PT n (fun j => listed.getD j false)) w →
      ∃ tmps' w' ρ', Steps P (lone (b.atR { tmps, defers := ds } (.inRegion ops [] :: its)) cs w) (lone (b.atR { tmps := tmps', defers := ds } (.inRegion ops [] :: its)) cs w') ∧
      VL ρ' (FR n) tmps' ∧ Rel (KC P) ρ' (H n) w' ∧ EffP p ρ (hL H PT n (fun j => listed.getD j false)) w ρ' (H n) w' := fun listed ρ w tmps hall hv hr => by
    obtain ⟨a1, a2⟩ := C.all (D := fun j => listed.getD j false) hall
    rw [a1] at hv
    rw [a2] at hr ⊢
    exact ⟨tmps, w, ρ, .refl _ _, hv, hr, EffP.refl _ _ _ _⟩
  intro fuel
  induction fuel with
  | zero =>
    intro t listed ρ w tmps hs hu hsh hv hr
    exact done listed ρ w tmps (unL_zero (by omega)) hv hr
  | succ fuel ih =>
    intro t listed ρ w tmps hs hu hsh hv hr
    have same : ∀ i, i < n → listed.getD i true = listed.getD i false := fun i hi => by
      rw [Array.getD_eq_getD_getElem?, Array.getD_eq_getD_getElem?, Array.getElem?_eq_getElem (by omega)]
      rfl
    simp only [Region.linearise.go]
    change ∃ tmps' w' ρ', Steps P (lone (b.atR { tmps, defers := ds } (.inRegion ops (match (Region.ready .any ops listed)[t % (Region.ready .any ops listed).length]? with
      | some i => Region.linearise.go .any ops fuel (t / (Region.ready .any ops listed).length) (listed.setIfInBounds i true) [i]
      | none => [].reverse) :: its)) cs w) _ ∧ _
    cases hi : (Region.ready .any ops listed)[t % (Region.ready .any ops listed).length]? with
    | none =>
      have hnil : Region.ready .any ops listed = [] := by
        cases hr : Region.ready .any ops listed with
        | nil => rfl
        | cons x xs =>
          rw [hr] at hi
          have hlt : t % (x :: xs).length < (x :: xs).length := Nat.mod_lt _ (by simp)
          simp at hi
          simp at hlt
          omega
      refine done listed ρ w tmps (fun j => ?_) hv hr
      induction j using Nat.strongRecOn with
      | ind k ihk =>
        intro hk
        cases hq : listed.getD k false with
        | true => rfl
        | false =>
          have hko : k < ops.size := by rw [C.size]; exact hk
          have hmem : k ∈ Region.ready .any ops listed := by
            refine List.mem_filter.2 ⟨List.mem_range.2 hko, ?_⟩
            rw [same k hk, hq, Array.getElem?_eq_getElem hko]
            simp only [Bool.not_false, Bool.true_and, Option.map_some, Option.getD_some]
            rw [Array.all_eq_true_iff_forall_mem]
            intro e he
            cases hb : Region.binds .any e with
            | false => rfl
            | true =>
              have hd : e.on ∈ depsOf ops[k] := List.mem_map.2 ⟨e, List.mem_filter.2 ⟨Array.mem_toList_iff.2 he, hb⟩, rfl⟩
              have h1 := C.deps k hk _ (Array.getElem?_eq_getElem hko) _ hd
              have h2 := C.lt k hk _ h1
              rw [ihk _ h2 (by omega)]
              rfl
          rw [hnil] at hmem
          simp at hmem
    | some i =>
      simp only []
      rw [linearise_go_acc, List.reverse_singleton, List.singleton_append]
      have hmem := List.mem_of_getElem? hi
      obtain ⟨hm1, hm2⟩ := List.mem_filter.1 hmem
      have hin : i < n := by rw [← C.size]; exact List.mem_range.1 hm1
      have hio : i < ops.size := List.mem_range.1 hm1
      rw [same i hin, Array.getElem?_eq_getElem hio] at hm2
      simp only [Option.map_some, Option.getD_some, Bool.and_eq_true, Bool.not_eq_true'] at hm2
      obtain ⟨hun, hdeps⟩ := hm2
      have hdl : ∀ d ∈ depsOf ops[i], listed.getD d false = true := fun d hd => by
        obtain ⟨e, he, rfl⟩ := List.mem_map.1 hd
        obtain ⟨he1, he2⟩ := List.mem_filter.1 he
        have := Array.all_eq_true_iff_forall_mem.1 hdeps e (Array.mem_toList_iff.1 he1)
        rw [he2] at this
        simpa using this
      have hanc : ∀ m, bit m (DS i).anc = true → (fun j => listed.getD j false) m = true := fun m hm => by
        obtain ⟨d, hd, hm'⟩ := C.ancs i hin _ (Array.getElem?_eq_getElem hio) m hm
        rcases hm' with rfl | hm'
        · exact hdl _ hd
        · have h1 := C.lt i hin _ (C.deps i hin _ (Array.getElem?_eq_getElem hio) d hd)
          exact hsh d (by omega) (hdl d hd) m hm'
      obtain ⟨tmps1, w1, ρ1, st1, v1, r1, e1⟩ := C.step hsh hin hun hanc f0 h0 hp (Region.linearise.go .any ops fuel (t / (Region.ready .any ops listed).length) (listed.setIfInBounds i true) []) its cs ds hbk hv hr
      have hfun : insD (fun j => listed.getD j false) i = fun j => (listed.setIfInBounds i true).getD j false := funext fun j => (getD_set (by omega) j).symm
      rw [hfun] at v1 r1 e1
      have hun' : unL n (listed.setIfInBounds i true) < unL n listed := by
        refine filter_less _ i (List.mem_range.2 hin) (fun j _ hj => ?_) (by rw [hun]; rfl) ?_
        · rw [getD_set (by omega)] at hj
          cases hq : listed.getD j false with
          | true => rw [insD_sub (D := fun j => listed.getD j false) hq] at hj; exact hj
          | false => rfl
        · rw [getD_set (by omega), insD_same]
          rfl
      obtain ⟨tmps2, w2, ρ2, st2, v2, r2, e2⟩ := ih (t / (Region.ready .any ops listed).length) (listed.setIfInBounds i true) ρ1 w1 tmps1 (by simp [hs]) (by omega) (fun j hj hd m hm => by
        dsimp only at hd ⊢
        rw [getD_set (by omega)] at hd ⊢
        by_cases hji : j = i
        · subst hji
          exact insD_sub (hanc m hm)
        · rw [insD_ne hji] at hd
          exact insD_sub (hsh j hj hd m hm)) v1 r1
      exact ⟨tmps2, w2, ρ2, st1.trans st2, v2, r2, e1.trans e2⟩

theorem Rel.pad {ρ : Mp} {h : List AB} {w : World} (r : Rel (KC P) ρ h w) (m : Nat) {p : Nat} (hp : p ≤ h.length) : Rel (KC P) (ρ ++ List.replicate m (0, 0, 0)) (h ++ List.replicate m .dead) w ∧ EffP p ρ h w (ρ ++ List.replicate m (0, 0, 0)) (h ++ List.replicate m .dead) w ∧ Ext ρ (ρ ++ List.replicate m (0, 0, 0)) := by
  have ext : Ext ρ (ρ ++ List.replicate m (0, 0, 0)) := fun i x hx => by
    rw [List.getElem?_append_left (List.getElem?_eq_some_iff.1 hx).1]
    exact hx
  have live : ∀ (i : Nat) (B : AB) (x : Nat × Nat × Nat), (h ++ List.replicate m AB.dead)[i]? = some B → B.live = true → (ρ ++ List.replicate m (0, 0, 0))[i]? = some x → h[i]? = some B ∧ ρ[i]? = some x := fun i B x h1 h2 h3 => by
    by_cases hi : i < h.length
    · rw [List.getElem?_append_left hi] at h1
      rw [List.getElem?_append_left (by rw [r.len]; exact hi)] at h3
      exact ⟨h1, h3⟩
    · rw [List.getElem?_append_right (by omega), List.getElem?_replicate] at h1
      split at h1
      · cases h1; cases h2
      · cases h1
  refine ⟨⟨by simp [r.len], fun i B b o n h1 h2 => ?_, fun i j bi oi bj oj Bi Bj hne h1 h2 h3 h4 hm hl => ?_⟩, ⟨rfl, rfl, ⟨rfl, Nat.le_refl _⟩, Nat.le_refl _, fun _ _ _ => rfl, fun b hb => ?_, fun i b hb => ?_, fun i hi => ?_⟩, ext⟩
  · cases hq : B.live with
    | false =>
      cases B with
      | dead => trivial
      | _ => cases hq
    | true =>
      obtain ⟨h1, h2⟩ := live i B _ h1 hq h2
      exact (r.blk i B b o n h1 h2).same ext (fun _ => rfl)
  · obtain ⟨h1, h3⟩ := live i Bi _ h1 (AB.live_of_mut hm) h3
    obtain ⟨h2, h4⟩ := live j Bj _ h2 hl h4
    exact r.sep i j bi oi bj oj Bi Bj hne h1 h2 h3 h4 hm hl
  · obtain ⟨i, B, o, h1, h2, h3⟩ := hb
    obtain ⟨h1, h3⟩ := live i B _ h1 (AB.live_of_mut h2) h3
    exact .inl ⟨i, B, o, h1, h2, h3⟩
  · obtain ⟨B, o, h1, h2, h3⟩ := hb
    obtain ⟨h1, h3⟩ := live i B _ h1 h2 h3
    exact .inl ⟨i, ⟨B, o, h1, h2, h3⟩, fun _ => rfl, fun q => q⟩
  · rw [List.getElem?_append_left (by rw [r.len]; omega)]
theorem EffP.drewn (p : Nat) (ρ : Mp) (h : List AB) (w : World) : EffP p ρ h w ρ h { w with drawn := w.drawn + 1 } :=
  ⟨rfl, rfl, ⟨rfl, dr_drew' w⟩, Nat.le_refl _, fun _ _ _ => rfl, fun _ h => .inl h, fun i _ h => .inl ⟨i, h, fun _ => rfl, fun q => q⟩, fun _ _ => rfl⟩
theorem AM.drw (hm : P.follows .mixedOrders = true) {T : Nat → Option CF} {E : RunF} (hT : SoundT P T) (hE : SoundE P E) {p : Nat} {rd : Option Nat} {fn : FuncId} {id : Nat} {ds : List DOp} {k : List CI} {fr fr' : List AV} {h h' : List AB} {R : AV → List AB → Prop}
    (e : drawn T E h.length ds 0 [] fr h = some (fr', h')) (g : AM P p rd fn k fr' h' R) : AM P p rd fn (.code (.drw id ds) :: k) fr h R := by
  intro ρ w tmps items b cs ms hf hk hro hp hi hv hr hmk
  obtain ⟨c', its, rfl, hc, hi2⟩ := hi.code
  obtain ⟨ops, l, rfl, hl, rfl, hok⟩ := cCode_inv hc
  obtain ⟨DS, FR, H, V, PT, C, rfl, rfl, rfl, rfl⟩ := drawn_can hT hE hl hok e
  have hlen := C.mono (j := 0) (k := ops.size) (by omega) (Nat.le_refl _)
  obtain ⟨p1, p2, p3⟩ := hr.pad ((H ops.size).length - (H 0).length) (Nat.le_refl _)
  have f0 : ∀ (t : Nat) (a : AV), (FR 0)[t]? = some a → a.ok (fun i => decide (i < (H 0).length)) = true := fun t a ha => by
    obtain ⟨c, _, hc⟩ := hv.get ha
    exact hc.okLe (by rw [hr.len]; exact Nat.le_refl _)
  have h0 : ∀ (i : Nat) (B : AB), (H 0)[i]? = some B → B.ok (fun i => decide (i < (H 0).length)) = true := fun i B hB => by
    have := hr.okLen hB
    rw [hr.len] at this
    exact this
  have zero : ∀ j, (Array.replicate ops.size false).getD j false = false := fun j => by
    rw [Array.getD_eq_getD_getElem?, Array.getElem?_replicate]
    split <;> rfl
  have z1 : ∀ m, frD DS FR V (fun j => (Array.replicate ops.size false).getD j false) m = FR 0 := by
    intro m
    induction m with
    | zero => rfl
    | succ m ih =>
      simp only [frD, zero m, Bool.false_eq_true, if_false]
      exact ih
  have z2 : ∀ i m, hD H PT (fun j => (Array.replicate ops.size false).getD j false) i m = (H 0)[i]? := by
    intro i m
    induction m with
    | zero => rfl
    | succ m ih =>
      simp only [hD, zero m, Bool.false_and, Bool.false_eq_true, if_false]
      exact ih
  have z3 : hL H PT ops.size (fun j => (Array.replicate ops.size false).getD j false) = H 0 ++ List.replicate ((H ops.size).length - (H 0).length) .dead := by
    refine List.ext_getElem? fun i => ?_
    rw [hL_get, z2]
    by_cases h1 : i < (H 0).length
    · rw [if_pos (by omega), List.getElem?_append_left h1, List.getElem?_eq_getElem h1]
      rfl
    · rw [List.getElem?_append_right (by omega), List.getElem?_replicate, List.getElem?_eq_none (by omega : (H 0).length ≤ i)]
      by_cases h2 : i < (H ops.size).length
      · rw [if_pos h2, if_pos (by omega)]
        rfl
      · rw [if_neg h2, if_neg (by omega)]
  have p1' : Rel (KC P) (ρ ++ List.replicate ((H ops.size).length - (H 0).length) (0, 0, 0)) (hL H PT ops.size (fun j => (Array.replicate ops.size false).getD j false)) { w with drawn := w.drawn + 1 } := by
    rw [z3]
    exact p1.heap rfl
  obtain ⟨tmps', w', ρ', st, v', r', e'⟩ := C.sched f0 h0 (Nat.le_refl _) its cs (ms.map mkD) hk ops.size (w.tape w.drawn (.order b.fn id)) (Array.replicate ops.size false) _ _ tmps (by simp) (by
    unfold unL
    refine Nat.le_trans (List.length_filter_le _ _) ?_
    simp) (fun j hj hd => by
    dsimp only at hd
    rw [zero j] at hd
    cases hd) (by rw [z1]; exact hv.ext p3) p1'
  rw [z3] at e'
  have eall := (p2.trans (EffP.drewn _ _ _ w)).trans e'
  have hend := g ρ' w' tmps' its b cs ms hf hk (hro.ext (eall.ext hr)) (by omega) hi2 v' r' (hmk.eff eall)
  refine Ret.steps ((Steps.one stepR_region_draw).trans ?_) ((hend.mono fun v w'' q => q.from (eall.weak hp) (fun r hr => .inl hr)))
  have hsch : Region.schedule (P.follows .mixedOrders) ops (w.tape w.drawn (.order b.fn id)) = Region.linearise.go .any ops ops.size (w.tape w.drawn (.order b.fn id)) (Array.replicate ops.size false) [] := by
    simp only [Region.schedule, hm, Bool.true_or, if_true]
    rfl
  rw [hsch]
  exact st.trans (.one stepR_region_end)
end
end Go.Proofs.Ytbcpcjofkfgjoaa
