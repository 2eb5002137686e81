/- Part 9 of what the laws' proofs rest on. No condition. -/
import Derived.Test.YthhghdebjiiliaaDoorPb8
set_option linter.all false
section
namespace Go.Proofs.YthhghdebjiiliaaDoor
open Go.RowKit
theorem Qov {q : Nat → Bool} {t : FT} : ∀ (n : Nat), okT q n t = true → ∀ k, k < n → (t.get k).ok q = true
 | 0, _, k, h => by omega
 | n + 1, e, k, h => by
  change (match okV q (t.get n) with | true => okT q n t | false => false) = true at e
  split at e
  ·rename_i h1
   by_cases hk : k = n
   ·subst hk
    rw [← YFu]
    exact h1
   ·exact Qov n e k (by omega)
  ·cases e
theorem HB.ok_of {q : Nat → Bool} {X : Option HB} {B : AB} (r : BRel X B) (h : HB.ok q X = true) : B.ok q = true := by
 cases X with
 | none =>
  rw [show B = .dead from r]
  rfl
 | some X =>
  cases X with
  | b C =>
   rw [show B = C from r]
   exact h
  | lp st pd F ps asg bd =>
   obtain ⟨fr, hF, rfl⟩ := r
   refine K7j.2 fun j a ha => ?_
   have hj : j < F.n := by rw [hF.len]; exact (List.getElem?_eq_some_iff.1 ha).1
   have := Qov F.n h j hj
   rw [hF.get, zjj, ha] at this
   exact this
theorem KRT {p : Nat → Bool} {lo : Nat} : ∀ (n : Nat), allN p lo n = true → ∀ k, k < n → p (lo + k) = true
 | 0, _, k, h => by omega
 | n + 1, e, k, h => by
  change (match p (Nat.add lo n) with | true => allN p lo n | false => false) = true at e
  split at e
  ·rename_i h1
   by_cases hk : k = n
   ·subst hk
    exact h1
   ·exact KRT n e k (by omega)
  ·cases e
theorem Z0Y (h : HT) : ∀ (ws : List Nat) (t : HT), (∀ id ∈ ws, t.has id) → (∀ i, (qde h ws t).get i = if i ∈ ws then h.get i else t.get i) ∧ ∀ i, (qde h ws t).has i ↔ t.has i
 | [], t, _ => ⟨fun i => by simp; rfl, fun i => Iff.rfl⟩
 | w :: ws, t, hh => by
  obtain ⟨a, b⟩ := Z0Y h ws (t.set w (h.get w)) (fun id hid => (HT.has_set _ _ _ _).2 (hh id (List.mem_cons_of_mem _ hid)))
  refine ⟨fun i => ?_, fun i => ?_⟩
  ·change (qde h ws (t.set w (h.get w))).get i = _
   rw [a i]
   by_cases h1 : i ∈ ws
   ·rw [if_pos h1, if_pos (List.mem_cons_of_mem _ h1)]
   ·rw [if_neg h1]
    by_cases h2 : w = i
    ·subst h2
     rw [HT.get_same _ _ _ (hh w (List.mem_cons_self ..)), if_pos (List.mem_cons_self ..)]
    ·rw [HT.get_other _ _ _ _ h2, if_neg (fun q => by rcases List.mem_cons.1 q with q | q; exact h2 q.symm; exact h1 q)]
  ·exact (b i).trans (HT.has_set _ _ _ _)
theorem YdJ (h : HT) : ∀ (ws : List Nat) (t : HT), (∀ id ∈ ws, t.has id) → (∀ i, (YVZ h ws t).get i = if i ∈ ws then (h.get i).bind HB.freeze else t.get i) ∧ ∀ i, (YVZ h ws t).has i ↔ t.has i
 | [], t, _ => ⟨fun i => by simp; rfl, fun i => Iff.rfl⟩
 | w :: ws, t, hh => by
  obtain ⟨a, b⟩ := YdJ h ws (t.set w ((h.get w).bind HB.freeze)) (fun id hid => (HT.has_set _ _ _ _).2 (hh id (List.mem_cons_of_mem _ hid)))
  refine ⟨fun i => ?_, fun i => ?_⟩
  ·change (YVZ h ws (t.set w ((h.get w).bind HB.freeze))).get i = _
   rw [a i]
   by_cases h1 : i ∈ ws
   ·rw [if_pos h1, if_pos (List.mem_cons_of_mem _ h1)]
   ·rw [if_neg h1]
    by_cases h2 : w = i
    ·subst h2
     rw [HT.get_same _ _ _ (hh w (List.mem_cons_self ..)), if_pos (List.mem_cons_self ..)]
    ·rw [HT.get_other _ _ _ _ h2, if_neg (fun q => by rcases List.mem_cons.1 q with q | q; exact h2 q.symm; exact h1 q)]
  ·exact (b i).trans (HT.has_set _ _ _ _)
theorem BRel.freeze {X : Option HB} {B : AB} (r : BRel X B) : BRel (X.bind HB.freeze) B.freeze := by
 cases X with
 | none =>
  rw [show B = .dead from r]
  rfl
 | some X =>
  cases X with
  | b C =>
   rw [show B = C from r]
   cases C <;> rfl
  | lp st pd F ps asg bd =>
   obtain ⟨fr, hF, rfl⟩ := r
   rfl
theorem HRel.mask {H : HP} {h : List AB} (r : HRel H h) {rs ws : List Nat} (hh : ∀ id ∈ rs ++ ws, id < h.length) : HRel (Y44 H rs ws) (YWe rs ws 0 h) := by
 have ht := r.top
 have hl := r.len
 have full : ∀ i, i < 16001 → (HT.full 14).has i := fun i hi => HT.full_has 14 i (by omega)
 obtain ⟨a1, a2⟩ := YdJ H.t rs (HT.full 14) (fun id hid => full id (by have := hh id (List.mem_append_left _ hid); omega))
 obtain ⟨b1, b2⟩ := Z0Y H.t ws (YVZ H.t rs (HT.full 14)) (fun id hid => (a2 id).2 (full id (by have := hh id (List.mem_append_right _ hid); omega)))
 refine ⟨by rw [Xfl]; exact r.len, ht, fun i hi => ?_, fun i B e => ?_, fun i hi => (b2 i).2 ((a2 i).2 (full i hi))⟩
 ·change H.len ≤ i at hi
  change (qde H.t ws (YVZ H.t rs (HT.full 14))).get i = none
  rw [b1, a1, if_neg (fun q => by have := hh i (List.mem_append_right _ q); omega), if_neg (fun q => by have := hh i (List.mem_append_left _ q); omega), HT.full_get]
 ·rw [qza, Nat.zero_add] at e
  obtain ⟨C, hC, rfl⟩ := Option.map_eq_some_iff.1 e
  change BRel ((qde H.t ws (YVZ H.t rs (HT.full 14))).get i) _
  rw [b1, a1, HT.full_get]
  have hb := r.blk i C hC
  split
  ·exact hb
  ·split
   ·exact hb.freeze
   ·rfl
theorem Xza (g : HT) : ∀ (ws : List Nat) (t : HT), JL7 g ws t = qde g ws t
 | [], _ => rfl
 | w :: ws, t => Xza g ws (t.set w (g.get w))
theorem YIw (g : HT) (lo : Nat) : ∀ (n : Nat) (t : HT), (∀ i, i < lo + n → t.has i) → (∀ i, (Qft g lo n t).get i = if lo ≤ i ∧ i < lo + n ∧ (g.get i).isSome = true then g.get i else t.get i) ∧ ∀ i, (Qft g lo n t).has i ↔ t.has i
 | 0, t, _ => ⟨fun i => by rw [if_neg (by omega)]; rfl, fun i => Iff.rfl⟩
 | n + 1, t, hh => by
  change (∀ i, (Qft g lo n (match g.get (Nat.add lo n) with | some B => t.set (Nat.add lo n) (some B) | none => t)).get i = _) ∧ ∀ i, (Qft g lo n (match g.get (Nat.add lo n) with | some B => t.set (Nat.add lo n) (some B) | none => t)).has i ↔ _
  have e0 : Nat.add lo n = lo + n := rfl
  rw [e0]
  cases hg : g.get (lo + n) with
  | none =>
   obtain ⟨a, b⟩ := YIw g lo n t (fun i hi => hh i (by omega))
   refine ⟨fun i => ?_, b⟩
   dsimp only
   rw [a i]
   by_cases hi : i = lo + n
   ·subst hi
    rw [hg, if_neg (by simp), if_neg (by simp)]
   ·by_cases h1 : lo ≤ i ∧ i < lo + n ∧ (g.get i).isSome = true
    ·rw [if_pos h1, if_pos ⟨h1.1, by omega, h1.2.2⟩]
    ·rw [if_neg h1, if_neg (fun q => h1 ⟨q.1, by omega, q.2.2⟩)]
  | some B =>
   obtain ⟨a, b⟩ := YIw g lo n (t.set (lo + n) (some B)) (fun i hi => (HT.has_set _ _ _ _).2 (hh i (by omega)))
   refine ⟨fun i => ?_, fun i => (b i).trans (HT.has_set _ _ _ _)⟩
   dsimp only
   rw [a i]
   by_cases hi : i = lo + n
   ·subst hi
    rw [if_neg (by omega), HT.get_same _ _ _ (hh _ (by omega)), if_pos ⟨by omega, by omega, by rw [hg]; rfl⟩, hg]
   ·rw [HT.get_other _ _ _ _ (Ne.symm hi)]
    by_cases h1 : lo ≤ i ∧ i < lo + n ∧ (g.get i).isSome = true
    ·rw [if_pos h1, if_pos ⟨h1.1, by omega, h1.2.2⟩]
    ·rw [if_neg h1, if_neg (fun q => h1 ⟨q.1, by omega, q.2.2⟩)]
theorem HRel.merge {H G : HP} {h g : List AB} (r : HRel H h) (s : HRel G g) {ws : List Nat} (hh : ∀ id ∈ ws, id < h.length) (hle : h.length ≤ g.length) : HRel (qRi ws G H) (Yjq ws g 0 h) := by
 have ht := r.top
 have hl := r.len
 have st := s.top
 have sl := s.len
 obtain ⟨a1, a2⟩ := Z0Y G.t ws H.t (fun id hid => r.has id (by have := hh id hid; omega))
 obtain ⟨b1, b2⟩ := YIw G.t H.len (G.len - H.len) (qde G.t ws H.t) (fun i hi => (a2 i).2 (r.has i (by omega)))
 have e : (qRi ws G H).t = Qft G.t H.len (G.len - H.len) (qde G.t ws H.t) := by
  simp only [qRi, Xza]
  rfl
 refine ⟨by rw [zCl]; change G.len = _; omega, st, fun i hi => ?_, fun i B q => ?_, fun i hi => ?_⟩
 ·change G.len ≤ i at hi
  rw [e, b1, if_neg (by omega), a1, if_neg (fun q => by have := hh i q; omega)]
  exact r.out i (by omega)
 ·rw [e, b1]
  rw [zcu, Nat.zero_add] at q
  by_cases h1 : i < h.length
  ·rw [if_neg (by omega), a1]
   rw [if_pos h1] at q
   by_cases h2 : i ∈ ws
   ·rw [if_pos h2] at q ⊢
    cases q
    rw [List.getElem?_eq_getElem (by omega : i < g.length)]
    exact s.blk i _ (List.getElem?_eq_getElem _)
   ·rw [if_neg h2] at q ⊢
    exact r.blk i B q
  ·rw [if_neg h1] at q
   have hi : i < g.length := (List.getElem?_eq_some_iff.1 q).1
   have hb := s.blk i B q
   by_cases h2 : (G.t.get i).isSome = true
   ·rw [if_pos ⟨by omega, by omega, h2⟩]
    exact hb
   ·rw [if_neg (fun z => h2 z.2.2), a1, if_neg (fun z => h1 (hh i z)), r.out i (by omega)]
    have hn : G.t.get i = none := by
     cases hq : G.t.get i with
     | none => rfl
     | some x => rw [hq] at h2; exact absurd rfl h2
    rw [hn] at hb
    exact hb
 ·rw [e]
  exact (b2 i).2 ((a2 i).2 (r.has i hi))
section
variable {P : Program}
structure DSx (P : Program) (len0 : Nat) (d : DOp) (k : Nat) (past : List Pt) (fr : List AV) (h : List AB) (v : AV) (h' : List AB) (past' : List Pt) (pt : Pt) : Prop where
 pk : pt.k = k
 pp : past' = pt :: past ∨ (past' = past ∧ pt.rs = [] ∧ pt.ws = [] ∧ pt.lo = 0 ∧ pt.hi = 0)
 ind : ∀ p ∈ past, XOE d.anc pt.rs pt.ws p = true
 vok : v.ok (qOk len0 pt.lo pt.hi d.anc past) = true
 cas : (h' = h ∧ pt.ws = [] ∧ pt.lo = 0 ∧ pt.hi = 0 ∧ (∀ i ∈ pt.rs, i < h.length) ∧
   ∀ frx hx, (∀ t ∈ d.o.tmps, nthA frx t = nthA fr t) → (∀ i ∈ pt.rs, hx[i]? = h[i]?) → ∀ (ops : Array Oper) (i : Nat) (o : Oper), ops[i]? = some o → XyB P ops o = some d.o → OpOk P ops i d.o.dst frx hx v hx) ∨
  (pt.lo = h.length ∧ pt.hi = h'.length ∧ (∀ t ∈ d.o.tmps, (nthA fr t).ok (fun i => decide (i < h.length)) = true) ∧
   (∀ i, i ∈ pt.rs ++ pt.ws → ∃ B, h[i]? = some B ∧ B.ok (fun i => decide (i < h.length)) = true) ∧
   ∃ G, h' = Yjq pt.ws G 0 h ∧ h.length ≤ G.length ∧
    (∀ id ∈ pt.ws, ((G[id]?).getD .dead).ok (qOk len0 pt.lo pt.hi d.anc past) = true) ∧ (∀ B ∈ G.drop h.length, B.ok (qOk len0 pt.lo pt.hi d.anc past) = true) ∧
    ∀ frx, (∀ t ∈ d.o.tmps, nthA frx t = nthA fr t) → ∀ (ops : Array Oper) (i : Nat) (o : Oper), ops[i]? = some o → XyB P ops o = some d.o → OpOk P ops i d.o.dst frx (YWe pt.rs pt.ws 0 h) v G)
theorem zmw {frx fr : List AV} {c : COper} (hx : ∀ t ∈ c.tmps, nthA frx t = nthA fr t) : Xyg frx c.guard = Xyg fr c.guard := by
 cases hg : c.guard with
 | none => rfl
 | some p =>
  obtain ⟨t, w⟩ := p
  simp only [Xyg]
  rw [hx t (by unfold COper.tmps; rw [hg]; exact List.mem_append_left _ (List.mem_singleton.2 rfl))]
theorem QO4 {fr : List AV} {c : COper} (hg : Xyg fr c.guard = some true) {q : Nat → Bool} (h : ∀ t ∈ c.op.tmps, (nthA fr t).ok q = true) : ∀ t ∈ c.tmps, (nthA fr t).ok q = true := fun t ht => by
 unfold COper.tmps at ht
 rcases List.mem_append.1 ht with ht | ht
 ·cases hgd : c.guard with
  | none => rw [hgd] at ht; simp at ht
  | some p =>
   obtain ⟨u, w⟩ := p
   rw [hgd] at ht hg
   obtain rfl : t = u := by simpa using ht
   simp only [Xyg] at hg
   split at hg
   ·rename_i x hx
    rw [hx]
    simp [AV.ok]
   ·cases hg
   ·cases hg
 ·exact h t ht
theorem qAG {T : TB} {E : RunT} (hT : zDq P T) (hE : SoundX P E) {len0 : Nat} {d : DOp} {k : Nat} {past : List Pt} {F : FR} {fr : List AV} {H H' : HP} {h : List AB} {rs ws : List Nat} {v : AV} {past' : List Pt} (hF : FRel F fr) (hH : HRel H h) (hg : Xyg fr d.o.guard = some true)
  (e : attT T E len0 k d.anc past F H d.o.op rs ws = some (v, H', past')) : ∃ h' pt, HRel H' h' ∧ DSx P len0 d k past fr h v h' past' pt := by
 have hl := hH.len
 unfold attT at e
 split at e
 ·cases e
 ·rename_i h1
  simp only [Bool.and_eq_true] at h1
  obtain ⟨⟨h1, h2⟩, h3⟩ := h1
  have hblk : ∀ i, i ∈ rs ++ ws → ∃ B, h[i]? = some B ∧ B.ok (fun i => decide (i < h.length)) = true := fun i hi => by
   have := List.all_eq_true.1 h2 i hi
   split at this
   ·rename_i X hX
    obtain ⟨B, hB, hr⟩ := hH.here hX
    rw [hl, JhD] at this
    exact ⟨B, hB, HB.ok_of hr this⟩
   ·cases this
  have hlt : ∀ i, i ∈ rs ++ ws → i < h.length := fun i hi => by
   obtain ⟨B, hB, _⟩ := hblk i hi
   exact (List.getElem?_eq_some_iff.1 hB).1
  split at e
  ·cases e
  ·rename_i v' G hrun
   obtain ⟨g, rG, did⟩ := Jnf hT hE (hH.mask hlt) hrun
   split at e
   ·rename_i h4
    simp only [Bool.and_eq_true] at h4
    obtain ⟨⟨⟨h4, h5⟩, h6⟩, h7⟩ := h4
    cases e
    have gl := rG.len
    have hle : h.length ≤ g.length := by
     rw [← hl, ← gl]
     simpa [Nat.ble_eq] using h5
    rw [hl, gl] at h4 h6 h7
    refine ⟨_, ⟨k, H.len, G.len, rs, ws⟩, hH.merge rG (fun id hid => hlt id (List.mem_append_right _ hid)) hle, rfl, .inl rfl, fun p hp => List.all_eq_true.1 h3 p hp, ?_, .inr ⟨hl, ?_, QO4 hg fun t ht => ?_, hblk, g, rfl, hle, fun id hid => ?_, fun B hB => ?_, fun frx hx ops i o ho hco => did frx (fun t ht => ?_) ?_ ops i o ho hco⟩⟩
    ·dsimp only
     rw [hl, gl]
     rw [YFu] at h4
     exact h4
    ·simp only [zCl]
     rw [gl]
     omega
    ·have := List.all_eq_true.1 h1 t ht
     rw [YFu, JhD, hF.get, hl] at this
     exact this
    ·dsimp only
     rw [hl, gl]
     have := List.all_eq_true.1 h6 id hid
     have hlt' := hlt id (List.mem_append_right _ hid)
     rw [List.getElem?_eq_getElem (by omega : id < g.length)]
     exact HB.ok_of (rG.blk id _ (List.getElem?_eq_getElem (by omega))) this
    ·dsimp only
     rw [hl, gl]
     obtain ⟨j, hj⟩ := List.mem_iff_getElem?.1 hB
     rw [List.getElem?_drop] at hj
     have hj' := (List.getElem?_eq_some_iff.1 hj).1
     exact HB.ok_of (rG.blk _ B hj) (KRT _ h7 j (by change j < g.length - h.length; omega))
    ·rw [hF.get]
     exact (hx t (List.mem_append_right _ ht)).symm
    ·rw [zmw hx]
     exact hg
   ·cases e
noncomputable def Q1q (T : TB) (E : RunT) (len0 : Nat) (d : DOp) (k : Nat) (past : List Pt) (F : FR) (H : HP) : Option (AV × HP × List Pt) :=
 match Kxd F d.o.guard with
 | none => none
 | some b => match b with
  | true => QJ3 T E len0 k d.anc past F H d.o.op
  | false => some (.tu [], H, past)
theorem XNp {T : TB} {E : RunT} {len0 : Nat} {d : DOp} {l : List DOp} {k : Nat} {past : List Pt} {F : FR} {H : HP} {r : FR × HP} (e : qhW T E len0 (d :: l) k past F H = some r) :
  ∃ v H' past', Q1q T E len0 d k past F H = some (v, H', past') ∧ qhW T E len0 l (k + 1) past' (F.put d.o.dst v) H' = some r := by
 change zDG T E len0 d (qhW T E len0 l) k past F H = some r at e
 unfold zDG at e
 unfold Q1q
 split at e
 ·cases e
 ·rename_i b hb
  rw [hb]
  cases b with
  | true =>
   simp only [YEJ] at e
   split at e
   ·cases e
   ·rename_i v h' past' hq
    exact ⟨v, h', past', hq, e⟩
  | false =>
   simp only at e
   exact ⟨_, _, _, rfl, e⟩
theorem Z8q {op : CO} (hm : op.mk = .free) {ev : Opd → AV} {g : GT} {n : Nat} {v : AV} {e : HE} (q : opE op ev g n = some (v, e)) (g' : GT) (n' : Nat) : opE op ev g' n' = some (v, e) := by
 cases op <;> first | (cases hm; done) | exact q
theorem zGB {T : TB} {E : RunT} (hT : zDq P T) (hE : SoundX P E) {len0 : Nat} {d : DOp} {k : Nat} {past : List Pt} {F : FR} {fr : List AV} {H H' : HP} {h : List AB} {v : AV} {past' : List Pt} (hF : FRel F fr) (hH : HRel H h)
  (e : Q1q T E len0 d k past F H = some (v, H', past')) : ∃ h' pt, HRel H' h' ∧ DSx P len0 d k past fr h v h' past' pt := by
 have triv : ∀ p : Pt, XOE d.anc [] [] p = true := fun p => by
  unfold XOE
  split <;> simp
 have hl := hH.len
 have plain : ∀ (hx : List AB) (e' : HE), d.o.op.isCall = none → e' = .z → opE d.o.op (Opd.evT F) (fun id => hx[id]?) hx.length = some (v, e') → ∀ frx, (∀ t ∈ d.o.tmps, nthA frx t = nthA fr t) → Xyg fr d.o.guard = some true → ∀ (ops : Array Oper) (i : Nat) (o : Oper), ops[i]? = some o → XyB P ops o = some d.o → OpOk P ops i d.o.dst frx hx v hx := by
  rintro hx e' hc rfl q frx hfx hg ops i o ho hco
  obtain ⟨a, _⟩ := JDo d.o.op hc (fun _ => rfl) q
  exact qQ4 (c := d.o) hc a frx (fun t ht => by rw [hF.get]; exact (hfx t (List.mem_append_right _ ht)).symm) (by rw [zmw hfx]; exact hg) ops i o ho hco
 unfold Q1q at e
 rw [ZQt d.o.guard (fun t w _ => hF.get t)] at e
 split at e
 ·cases e
 ·rename_i b hg
  cases b with
  | false =>
   simp only at e
   cases e
   exact ⟨h, ⟨k, 0, 0, [], []⟩, hH, rfl, .inr ⟨rfl, rfl, rfl, rfl, rfl⟩, fun p _ => triv p, rfl, .inl ⟨rfl, rfl, rfl, rfl, fun i hi => by simp at hi, fun frx hx hfx _ ops i o ho hco => quU ho hco hx (by rw [zmw hfx]; exact hg)⟩⟩
  | true =>
   simp only at e
   unfold QJ3 at e
   split at e
   ·rename_i hm
    have hc : d.o.op.isCall = none := by
     cases hop : d.o.op <;> rw [hop] at hm <;> first | (cases hm; done) | rfl
    unfold XnK at e
    split at e
    ·rename_i v' hq
     split at e
     ·rename_i hok
      cases e
      rw [YFu] at hok
      exact ⟨h, ⟨k, 0, 0, [], []⟩, hH, rfl, .inr ⟨rfl, rfl, rfl, rfl, rfl⟩, fun p _ => triv p, hok, .inl ⟨rfl, rfl, rfl, rfl, fun i hi => by simp at hi, fun frx hx hfx _ => plain hx .z hc rfl (Z8q hm hq _ _) frx hfx hg⟩⟩
     ·cases e
    ·cases e
   ·rename_i x hm
    have hop : ∃ n, d.o.op = .ld n x := by
     cases hop : d.o.op <;> rw [hop] at hm <;> cases hm
     exact ⟨_, rfl⟩
    obtain ⟨n, hop⟩ := hop
    unfold Jxe at e
    split at e
    ·rename_i hall
     split at e
     ·rename_i v' hq
      split at e
      ·rename_i hok
       cases e
       rw [YFu] at hok
       rw [hop] at hq
       change valG (ldG H.g n (Opd.evT F x)) = _ at hq
       rw [qOV (HP.g_blk hH)] at hq
       have hld : ldV h n (Opd.evT F x) = some v := by
        unfold valG at hq
        split at hq
        ·rename_i u hu
         cases hq
         exact hu
        ·cases hq
       refine ⟨h, ⟨k, 0, 0, idOf (Opd.evT F x), []⟩, hH, rfl, .inl rfl, fun p hp => List.all_eq_true.1 hall p hp, hok, .inl ⟨rfl, rfl, rfl, rfl, fun i hi => ?_, fun frx hx hfx hhx => plain hx .z (by rw [hop]; rfl) rfl ?_ frx hfx hg⟩⟩
       ·have key : ∀ {id : Nat} {xs : List AV}, JZy h id = some xs → id < h.length := fun {id xs} q => by
         unfold JZy at q
         split at q
         ·rename_i h1
          exact (List.getElem?_eq_some_iff.1 h1).1
         ·cases q
        dsimp only at hi
        cases hx : Opd.evT F x with
        | p id off =>
         rw [hx] at hi hld
         obtain rfl : i = id := by simpa [idOf] using hi
         cases n <;> simp only [ldV] at hld <;> obtain ⟨xs, hxs, _⟩ := Option.bind_eq_some_iff.1 hld <;> exact key hxs
        | _ => rw [hx] at hld; cases n <;> cases hld
       ·rw [hop]
        change valG (ldG (fun id => hx[id]?) n (Opd.evT F x)) = _
        rw [qOV (h := hx) (fun _ => rfl), Zjv hhx, hld]
        rfl
      ·cases e
     ·cases e
    ·cases e
   ·unfold ZCQ at e
    split at e
    ·rename_i r hr
     cases e
     exact qAG hT hE hF hH hg hr
    ·exact qAG hT hE hF hH hg e
   ·exact qAG hT hE hF hH hg e
theorem qld {T : TB} {E : RunT} (hT : zDq P T) (hE : SoundX P E) {len0 : Nat} : ∀ (l : List DOp) (k : Nat) (past : List Pt) (F : FR) (H : HP) (fr : List AV) (h : List AB) (r : FR × HP), FRel F fr → HRel H h → qhW T E len0 l k past F H = some r →
  ∃ (S : Nat → St) (V : Nat → AV) (PT : Nat → Pt), S 0 = ⟨fr, h, past⟩ ∧ (∀ j d, l[j]? = some d → DSx P len0 d (k + j) (S j).past (S j).fr (S j).h (V j) (S (j + 1)).h (S (j + 1)).past (PT j) ∧ (S (j + 1)).fr = put (S j).fr d.o.dst (V j)) ∧
   FRel r.1 (S l.length).fr ∧ HRel r.2 (S l.length).h
 | [], k, past, F, H, fr, h, r, hF, hH, e => by
  cases e
  exact ⟨fun _ => ⟨fr, h, past⟩, fun _ => .tu [], fun _ => ⟨0, 0, 0, [], []⟩, rfl, fun j d q => by simp at q, hF, hH⟩
 | d :: l, k, past, F, H, fr, h, r, hF, hH, e => by
  obtain ⟨v, H', past', hs, e⟩ := XNp e
  obtain ⟨h', pt, hH', hpt⟩ := zGB hT hE hF hH hs
  obtain ⟨S, V, PT, s0, s1, s2, s3⟩ := qld hT hE l (k + 1) past' _ H' _ h' r (hF.put d.o.dst v) hH' e
  refine ⟨fun j => Nat.casesOn j ⟨fr, h, past⟩ S, fun j => Nat.casesOn j v V, fun j => Nat.casesOn j pt PT, rfl, fun j d' hd => ?_, s2, s3⟩
  cases j with
  | zero =>
   cases hd
   refine ⟨?_, ?_⟩
   ·change DSx P len0 d (k + 0) past fr h v (S 0).h (S 0).past pt
    rw [s0]
    exact hpt
   ·change (S 0).fr = put fr d.o.dst v
    rw [s0]
  | succ j =>
   have := s1 j d' (by simpa using hd)
   rw [show k + 1 + j = k + (j + 1) by omega] at this
   exact this
theorem X3Y {T : TB} {E : RunT} (hT : zDq P T) (hE : SoundX P E) {ops : Array Oper} {l : List (COper × List Nat)} (hl : zgB P ops (List.range ops.size) = some l) (hok : KPd [] (clos [] l) (l.map (·.2)) = true)
  {F F' : FR} {H0 H' : HP} {fr : List AV} {h : List AB} (hF : FRel F fr) (hH : HRel H0 h) (e : qhW T E H0.len (clos [] l) 0 [] F H0 = some (F', H')) :
  ∃ (DS : Nat → DOp) (FR : Nat → List AV) (H : Nat → List AB) (V : Nat → AV) (PT : Nat → Pt), Can P ops ops.size h.length DS FR H V PT ∧ FR 0 = fr ∧ H 0 = h ∧ FRel F' (FR ops.size) ∧ HRel H' (H ops.size) := by
 rw [hH.len] at e
 obtain ⟨S, V, PT, s0, s1, s2, s3⟩ := qld hT hE (clos [] l) 0 [] F H0 fr h _ hF hH e
 obtain ⟨c1, c2⟩ := Ka1 hl
 rw [List.length_range] at c1
 have hlen : (clos [] l).length = ops.size := by rw [XBG, c1]
 rw [hlen] at s2 s3
 let DS : Nat → DOp := fun k => ((clos [] l)[k]?).getD ⟨⟨none, none, .stop⟩, 0, 0⟩
 have dget : ∀ k, k < ops.size → (clos [] l)[k]? = some (DS k) := fun k hk => by
  simp only [DS]
  rw [List.getElem?_eq_getElem (by omega)]
  rfl
 have K : ∀ k, k < ops.size → ∃ o, ops[k]? = some o ∧ XyB P ops o = some (DS k).o ∧ (DS k).us = KyQ (DS k).o.tmps ∧ l[k]? = some ((DS k).o, ZMj o) ∧
   (DS k).anc = (ZMj o).foldl (fun m x => Nat.lor m (Nat.lor (Nat.shiftLeft 1 x) (([] ++ ((clos [] l).map DOp.anc).take k).getD x 0))) 0 := fun k hk => by
  obtain ⟨c, deps, h1, h2, h3, h4⟩ := zUV l [] k (DS k) (dget k hk)
  obtain ⟨i, o, h5, h6, h7, rfl⟩ := c2 k c deps h1
  rw [List.getElem?_range hk] at h5
  cases h5
  exact ⟨o, h6, by rw [h2]; exact h7, by rw [h2]; exact h3, by rw [h2]; exact h1, h4⟩
 have T1 : ∀ k, k < ops.size → DSx P h.length (DS k) k (S k).past (S k).fr (S k).h (V k) (S (k + 1)).h (S (k + 1)).past (PT k) ∧ (S (k + 1)).fr = put (S k).fr (DS k).o.dst (V k) := fun k hk => by
  have := s1 k (DS k) (dget k hk)
  rw [Nat.zero_add] at this
  exact this
 have hdr := Xfe _ _ _ hok
 have D1 : ∀ k, k < ops.size → ∀ o, ops[k]? = some o → (∀ x ∈ ZMj o, bit x (DS k).anc = true) ∧ (DS k).anc < 2 ^ k ∧ QVr (DS k) 0 ((clos [] l).take k) = true := fun k hk o ho => by
  obtain ⟨o', h1, _, _, h4, _⟩ := K k hk
  rw [h1] at ho
  cases ho
  have := hdr.2 k (DS k) (ZMj o) (dget k hk) (by rw [List.getElem?_map, h4]; rfl)
  simpa using this
 have lt : ∀ k, k < ops.size → ∀ j, bit j (DS k).anc = true → j < k := fun k hk j hj => by
  obtain ⟨o', h1, _⟩ := K k hk
  exact zUg (D1 k hk o' h1).2.1 hj
 have past : ∀ k, k ≤ ops.size → (∀ p ∈ (S k).past, ∃ m, m < k ∧ p = PT m) ∧ (∀ m, m < k → PT m ∈ (S k).past ∨ ((PT m).rs = [] ∧ (PT m).ws = [] ∧ (PT m).lo = 0 ∧ (PT m).hi = 0)) := by
  intro k
  induction k with
  | zero =>
   intro _
   rw [s0]
   exact ⟨fun p hp => by simp at hp, fun m hm => by omega⟩
  | succ k ih =>
   intro hk
   obtain ⟨i1, i2⟩ := ih (by omega)
   have hd := (T1 k (by omega)).1
   rcases hd.pp with q | ⟨q, r⟩
   ·rw [q]
    refine ⟨fun p hp => ?_, fun m hm => ?_⟩
    ·rcases List.mem_cons.1 hp with rfl | hp
     ·exact ⟨k, by omega, rfl⟩
     ·obtain ⟨m, hm, rfl⟩ := i1 p hp
      exact ⟨m, by omega, rfl⟩
    ·by_cases e : m = k
     ·subst e
      exact .inl (List.mem_cons_self ..)
     ·exact (i2 m (by omega)).imp (List.mem_cons_of_mem _) (fun x => x)
   ·rw [q]
    refine ⟨fun p hp => ?_, fun m hm => ?_⟩
    ·obtain ⟨m, hm, rfl⟩ := i1 p hp
     exact ⟨m, by omega, rfl⟩
    ·by_cases e : m = k
     ·subst e
      exact .inr r
     ·exact i2 m (by omega)
 have pk : ∀ k, k < ops.size → (PT k).k = k := fun k hk => (T1 k hk).1.pk
 have own : ∀ k, k < ops.size → ∀ id, qOk h.length (PT k).lo (PT k).hi (DS k).anc (S k).past id = true → ownQ h.length PT (fun k => (DS k).anc) k id = true := fun k hk id hq => by
  simp only [qOk, Bool.or_eq_true, Bool.and_eq_true, Nat.blt_eq, Nat.ble_eq, List.any_eq_true] at hq
  simp only [ownQ, decide_eq_true_eq]
  rcases hq with (hq | hq) | ⟨p, hp, hq⟩
  ·exact .inl hq
  ·exact .inr ⟨k, Nat.le_refl _, .inl rfl, hq.1, hq.2⟩
  ·obtain ⟨m, hm, rfl⟩ := (past k (by omega)).1 p hp
   rw [pk m (by omega)] at hq
   exact .inr ⟨m, by omega, .inr hq.1.1, hq.1.2, hq.2⟩
 refine ⟨DS, fun k => (S k).fr, fun k => (S k).h, V, PT, ⟨rfl, fun k hk => (T1 k hk).2, fun k hk => ?_, by simp [s0], fun k hk => ?_, fun k hk i hi => ?_, fun k hk i hi => ?_, fun j k hjk hk => ?_, fun k hk => ?_, fun k hk i B hi hB => ?_, fun j k hjk hk => ?_, lt, fun k hk o ho => (D1 k hk o ho).1, fun k hk o ho m hm => ?_, fun k hk => ?_⟩, by simp [s0], by simp [s0], s2, s3⟩
 ·rcases (T1 k hk).1.cas with ⟨q, _⟩ | ⟨_, _, _, _, G, q, q2, _⟩
  ·rw [q]; exact Nat.le_refl _
  ·rw [q, zCl]; omega
 ·rcases (T1 k hk).1.cas with ⟨_, _, q, q', _⟩ | ⟨q, q', _⟩
  ·exact .inl ⟨q, q'⟩
  ·exact .inr ⟨q, q'⟩
 ·rcases (T1 k hk).1.cas with ⟨q, _⟩ | ⟨q, q', _, _, G, hG, q2, _⟩
  ·rw [q]
  ·have hn := YLl.1 hi
   rw [hG, zcu, Nat.zero_add, if_neg hn.1]
   split
   ·rfl
   ·rename_i hlt
    rw [hG, zCl] at q'
    rw [q, q'] at hn
    have h1 : G.length ≤ i := by have := hn.2; omega
    rw [List.getElem?_eq_none h1, List.getElem?_eq_none (by omega)]
 ·rcases (T1 k hk).1.cas with ⟨_, q, _, _, q', _⟩ | ⟨_, _, _, q, _⟩
  ·rw [q, List.append_nil] at hi
   exact q' i hi
  ·obtain ⟨B, hB, _⟩ := q i hi
   exact (List.getElem?_eq_some_iff.1 hB).1
 ·rcases (past k (by omega)).2 j hjk with q | ⟨q1, q2, q3, q4⟩
  ·have := (T1 k hk).1.ind _ q
   unfold XOE at this
   rw [pk j (by omega)] at this
   split at this
   ·rename_i hb
    exact .inl hb
   ·simp only [Bool.and_eq_true, List.all_eq_true, Bool.not_eq_true'] at this
    refine .inr ⟨fun i hi => this.1 i hi, fun i hi hm => ?_⟩
    have := this.2 i hi
    rw [zKV.2 hm] at this
    cases this
  ·refine .inr ⟨fun i _ => YLl.2 ⟨by rw [q2]; simp, by omega⟩, fun i _ hm => ?_⟩
   rw [q1, q2] at hm
   simp at hm
 ·exact AV.ok_mono (own k hk) _ (T1 k hk).1.vok
 ·rcases (T1 k hk).1.cas with ⟨_, q, q1, q2, _⟩ | ⟨q, q', _, hrw, G, hG, q2, q3, q4, _⟩
  ·exfalso
   rcases JUS.1 hi with u | u
   ·rw [q] at u; simp at u
   ·omega
  ·refine AB.ok_mono (own k hk) B ?_
   rw [hG, zcu, Nat.zero_add] at hB
   by_cases hw : i ∈ (PT k).ws
   ·have := q3 i hw
    have hlt : i < (S k).h.length := by
     obtain ⟨B', hB', _⟩ := hrw i (List.mem_append_right _ hw)
     exact (List.getElem?_eq_some_iff.1 hB').1
    rw [if_pos hlt, if_pos hw] at hB
    cases hB
    exact this
   ·have hr : (PT k).lo ≤ i ∧ i < (PT k).hi := (JUS.1 hi).resolve_left hw
    rw [q] at hr
    rw [if_neg (by omega)] at hB
    refine q4 B (List.mem_of_getElem? (i := i - (S k).h.length) ?_)
    rw [List.getElem?_drop, show (S k).h.length + (i - (S k).h.length) = i by omega]
    exact hB
 ·obtain ⟨o, ho, _⟩ := K k hk
  have := YOh _ _ (D1 k hk o ho).2.2 j (DS j) (by rw [List.getElem?_take, if_pos hjk]; exact dget j (by omega))
  rw [Nat.zero_add] at this
  exact this
 ·obtain ⟨o', ho', _, _, _, h5⟩ := K k hk
  rw [ho'] at ho
  cases ho
  rw [h5, ZTI, Y3W] at hm
  rcases hm with hm | ⟨x, hx, hm⟩
  ·cases hm
  ·refine ⟨x, hx, hm.imp (fun q => q) fun q => ?_⟩
   rw [List.nil_append, List.getD_eq_getElem?_getD, List.getElem?_take] at q
   split at q
   ·rename_i hxk
    rw [List.getElem?_map, dget x (by omega)] at q
    exact q
   ·rw [Option.getD_none, Y3W] at q
    cases q
 ·obtain ⟨o, ho, hc, hus, _⟩ := K k hk
  have hmem : ∀ {frx : List AV}, (∀ t, bit t (DS k).us = true → nthA frx t = nthA (S k).fr t) → ∀ t ∈ (DS k).o.tmps, nthA frx t = nthA (S k).fr t := fun {frx} hx t ht => hx t (by rw [hus]; exact (YXc t _).2 ht)
  rcases (T1 k hk).1.cas with ⟨q, q1, _, q2, q3, q4⟩ | ⟨q1, q2, q3, q4, G, hG, q5, q6, q7, q8⟩
  ·exact .inl ⟨q1, q2, fun frx hx hf hh => q4 frx hx (hmem hf) hh ops k o ho hc⟩
  ·refine .inr ⟨q1, q2, fun t ht => ?_, q4, G, ?_, fun i hi => ?_, fun frx hf => q8 frx (hmem hf) ops k o ho hc⟩
   ·rw [hus, YXc] at ht
    exact q3 t ht
   ·rw [hG, zCl]; omega
   ·rw [hG, zcu, Nat.zero_add]
    by_cases hw : i ∈ (PT k).ws
    ·have hlt : i < (S k).h.length := by
      obtain ⟨B', hB', _⟩ := q4 i (List.mem_append_right _ hw)
      exact (List.getElem?_eq_some_iff.1 hB').1
     rw [if_pos hlt, if_pos hw, List.getElem?_eq_getElem (by omega)]
     rfl
    ·have hr : (PT k).lo ≤ i ∧ i < (PT k).hi := (JUS.1 hi).resolve_left hw
     rw [q1] at hr
     rw [if_neg (by omega)]
theorem AM.drwT (hm : P.follows .mixedOrders = true) {T : TB} {E : RunT} (hT : zDq P T) (hE : SoundX P E) {p : Nat} {rd : Option Nat} {fn : FuncId} {id : Nat} {ds : List DOp} {k : List CI} {F F' : FR} {H0 H0' : HP} {fr : List AV} {h : List AB} {R : AV → List AB → Prop} (hF : FRel F fr) (hH : HRel H0 h)
  (e : qhW T E H0.len ds 0 [] F H0 = some (F', H0')) (g : ∀ fr' h', FRel F' fr' → HRel H0' h' → AM P p rd fn k fr' h' R) : AM P p rd fn (.code (.drw id ds) :: k) fr h R := by
 intro ρ w tmps items b cs ms hf hk hro hp hi hv hr hmk
 obtain ⟨c', its, rfl, hc, hi2⟩ := hi.code
 obtain ⟨ops, l, rfl, hl, rfl, hok⟩ := Q9l hc
 obtain ⟨DS, FR, H, V, PT, C, rfl, rfl, z1', z2'⟩ := X3Y hT hE hl hok hF hH e
 have hlen := C.mono (j := 0) (k := ops.size) (by omega) (Nat.le_refl _)
 obtain ⟨p1, p2, p3⟩ := hr.pad ((H ops.size).length - (H 0).length) (Nat.le_refl _)
 have f0 : ∀ (t : Nat) (a : AV), (FR 0)[t]? = some a → a.ok (fun i => decide (i < (H 0).length)) = true := fun t a ha => by
  obtain ⟨c, _, hc⟩ := hv.get ha
  exact hc.okLe (by rw [hr.len]; exact Nat.le_refl _)
 have h0 : ∀ (i : Nat) (B : AB), (H 0)[i]? = some B → B.ok (fun i => decide (i < (H 0).length)) = true := fun i B hB => by
  have := hr.okLen hB
  rw [hr.len] at this
  exact this
 have zero : ∀ j, (Array.replicate ops.size false).getD j false = false := fun j => by
  rw [Array.getD_eq_getD_getElem?, Array.getElem?_replicate]
  split <;> rfl
 have z1 : ∀ m, frD DS FR V (fun j => (Array.replicate ops.size false).getD j false) m = FR 0 := by
  intro m
  induction m with
  | zero => rfl
  | succ m ih =>
   simp only [frD, zero m, Bool.false_eq_true, if_false]
   exact ih
 have z2 : ∀ i m, hD H PT (fun j => (Array.replicate ops.size false).getD j false) i m = (H 0)[i]? := by
  intro i m
  induction m with
  | zero => rfl
  | succ m ih =>
   simp only [hD, zero m, Bool.false_and, Bool.false_eq_true, if_false]
   exact ih
 have z3 : hL H PT ops.size (fun j => (Array.replicate ops.size false).getD j false) = H 0 ++ List.replicate ((H ops.size).length - (H 0).length) .dead := by
  refine List.ext_getElem? fun i => ?_
  rw [q8H, z2]
  by_cases h1 : i < (H 0).length
  ·rw [if_pos (by omega), List.getElem?_append_left h1, List.getElem?_eq_getElem h1]
   rfl
  ·rw [List.getElem?_append_right (by omega), List.getElem?_replicate, List.getElem?_eq_none (by omega : (H 0).length ≤ i)]
   by_cases h2 : i < (H ops.size).length
   ·rw [if_pos h2, if_pos (by omega)]
    rfl
   ·rw [if_neg h2, if_neg (by omega)]
 have p1' : Rel (KC P) (ρ ++ List.replicate ((H ops.size).length - (H 0).length) (0, 0, 0)) (hL H PT ops.size (fun j => (Array.replicate ops.size false).getD j false)) { w with drawn := w.drawn + 1 } := by
  rw [z3]
  exact p1.heap rfl
 obtain ⟨tmps', w', ρ', st, v', r', e'⟩ := C.sched f0 h0 (Nat.le_refl _) its cs (ms.map mkD) hk ops.size (w.tape w.drawn (.order b.fn id)) (Array.replicate ops.size false) _ _ tmps (by simp) (by
  unfold unL
  refine Nat.le_trans (List.length_filter_le _ _) ?_
  simp) (fun j hj hd => by
  dsimp only at hd
  rw [zero j] at hd
  cases hd) (by rw [z1]; exact hv.ext p3) p1'
 rw [z3] at e'
 have eall := (p2.trans (EffP.drewn _ _ _ w)).trans e'
 have hend := g _ _ z1' z2' ρ' w' tmps' its b cs ms hf hk (hro.ext (eall.ext hr)) (by omega) hi2 v' r' (hmk.eff eall)
 refine Ret.steps ((Steps.one stepR_region_draw).trans ?_) ((hend.mono fun v w'' q => q.from (eall.weak hp) (fun r hr => .inl hr)))
 have hsch : Region.schedule (P.follows .mixedOrders) ops (w.tape w.drawn (.order b.fn id)) = Region.linearise.go .any ops ops.size (w.tape w.drawn (.order b.fn id)) (Array.replicate ops.size false) [] := by
  simp only [Region.schedule, hm, Bool.true_or, if_true]
  rfl
 rw [hsch]
 exact st.trans (.one stepR_region_end)
end
end Go.Proofs.YthhghdebjiiliaaDoor
end
section
namespace Go.Proofs.YthhghdebjiiliaaDoor
open Go.RowKit
theorem FRel.unique {F : FR} {a b : List AV} (h : FRel F a) (k : FRel F b) : a = b := by
 have hl : a.length = b.length := by rw [← h.len, ← k.len]
 refine List.ext_getElem? fun i => ?_
 by_cases hi : i < a.length
 ·have e1 := h.get i
  have e2 := k.get i
  rw [zjj, List.getElem?_eq_getElem hi] at e1
  rw [zjj, List.getElem?_eq_getElem (by omega : i < b.length)] at e2
  rw [List.getElem?_eq_getElem hi, List.getElem?_eq_getElem (by omega : i < b.length)]
  simp only [Option.getD_some] at e1 e2
  rw [← e1, ← e2]
 ·rw [List.getElem?_eq_none (by omega), List.getElem?_eq_none (by omega)]
theorem BRel.unique {X : Option HB} {B C : AB} (h : BRel X B) (k : BRel X C) : B = C := by
 cases X with
 | none => rw [show B = .dead from h, show C = .dead from k]
 | some X =>
  cases X with
  | b D => rw [show B = D from h, show C = D from k]
  | lp st pd F ps asg bd =>
   obtain ⟨fr, h1, rfl⟩ := h
   obtain ⟨fr', h2, rfl⟩ := k
   rw [h1.unique h2]
theorem HRel.unique {H : HP} {a b : List AB} (h : HRel H a) (k : HRel H b) : a = b := by
 have hl : a.length = b.length := by rw [← h.len, ← k.len]
 refine List.ext_getElem? fun i => ?_
 by_cases hi : i < a.length
 ·rw [List.getElem?_eq_getElem hi, List.getElem?_eq_getElem (by omega : i < b.length)]
  exact congrArg _ ((h.blk i _ (List.getElem?_eq_getElem hi)).unique (k.blk i _ (List.getElem?_eq_getElem (by omega))))
 ·rw [List.getElem?_eq_none (by omega), List.getElem?_eq_none (by omega)]
section
variable {P : Program}
theorem AM.drwE (hm : P.follows .mixedOrders = true) {T : TB} {E : RunT} (hT : zDq P T) (hE : SoundX P E) {ds : List DOp} {F F' : FR} {H0 H0' : HP} {fr : List AV} {h : List AB} (hF : FRel F fr) (hH : HRel H0 h)
  (e : qhW T E H0.len ds 0 [] F H0 = some (F', H0')) : ∃ fr' h', FRel F' fr' ∧ HRel H0' h' ∧ ∀ (p : Nat) (rd : Option Nat) (fn : FuncId) (id : Nat) (k : List CI) (R : AV → List AB → Prop), AM P p rd fn k fr' h' R → AM P p rd fn (.code (.drw id ds) :: k) fr h R := by
 obtain ⟨S, V, PT, _, _, s2, s3⟩ := qld hT hE ds 0 [] F H0 fr h _ hF hH e
 refine ⟨_, _, s2, s3, fun p rd fn id k R g => AM.drwT hm hT hE hF hH e fun fr' h' f1 f2 => ?_⟩
 rw [f1.unique s2, f2.unique s3]
 exact g
theorem JmA {rd : Option Nat} {fn : FuncId} {c : CC} {ia : FR → HP → OutT}
  (hia : ∀ {F F' : FR} {H H' : HP} {x : XE} {fr : List AV} {h : List AB}, FRel F fr → HRel H h → ia F H = some (x, F', H') → ∃ fr' h', FRel F' fr' ∧ HRel H' h' ∧ ∀ (p : Nat) (R : AV → List AB → Prop) (k : List CI), Left P p rd fn k R fr' h' x → AM P p rd fn (.code c :: k) fr h R) :
  ∀ (n : Nat) {F F' : FR} {H H' : HP} {x : XE} {fr : List AV} {h : List AB}, FRel F fr → HRel H h → zQx ia n F H = some (x, F', H') → ∃ fr' h', FRel F' fr' ∧ HRel H' h' ∧ ∀ (p : Nat) (R : AV → List AB → Prop) (k : List CI), Left P p rd fn k R fr' h' x → AM P p rd fn (.code c :: .lp c :: k) fr h R
 | 0, _, _, _, _, _, _, _, _, _, e => by cases e
 | n + 1, F, F', H, H', x, fr, h, hF, hH, e => by
  change (match ia F H with
   | none => none
   | some (x, fr', h') => match x with
    | .n => zQx ia n fr' h'
    | .x id => some (.x id, fr', h')
    | .r => some (.r, fr', h')) = some (x, F', H') at e
  split at e
  ·cases e
  ·rename_i x1 F1 H1 hx
   obtain ⟨fr1, h1, f1, f2, f3⟩ := hia hF hH hx
   cases x1 with
   | n =>
    simp only at e
    obtain ⟨fr', h', q1, q2, q3⟩ := JmA hia n f1 f2 e
    exact ⟨fr', h', q1, q2, fun p R k g => f3 p R (.lp c :: k) (AM.lp (q3 p R k g))⟩
   | x id =>
    simp only at e
    cases e
    exact ⟨fr1, h1, f1, f2, fun p R k g => f3 p R (.lp c :: k) (g.pass (fun q => nomatch q) (fun _ _ => rfl))⟩
   | r =>
    simp only at e
    cases e
    exact ⟨fr1, h1, f1, f2, fun p R k g => f3 p R (.lp c :: k) g⟩
theorem TB.cfs_some {T : TB} {g : Nat} {c : TC} (h : T.cfs g = some c) : ∃ cf, c = .cf cf ∧ T g = some (.cf cf) := by
 unfold TB.cfs at h
 split at h
 ·rename_i d hd
  cases d with
  | cf x => cases h; exact ⟨x, rfl, hd⟩
  | nv f => cases (show (none : Option TC) = _ from h)
 ·cases h
theorem Zwa (hm : P.follows .mixedOrders = true) {T : TB} {E : RunT} (hT : zDq P T) (hE : SoundX P E) {rd : Option Nat} {fn : FuncId} (c : CC) : ∀ {F F' : FR} {H H' : HP} {x : XE} {fr : List AV} {h : List AB}, FRel F fr → HRel H h →
  evCT T E rd.isSome c F H = some (x, F', H') → ∃ fr' h', FRel F' fr' ∧ HRel H' h' ∧ ∀ (p : Nat) (R : AV → List AB → Prop) (k : List CI), Left P p rd fn k R fr' h' x → AM P p rd fn (.code c :: k) fr h R := by
 induction c with
 | skip =>
  intro F F' H H' x fr h hF hH e
  cases e
  exact ⟨fr, h, hF, hH, fun p R k g => AM.go rfl g⟩
 | reg id l =>
  intro F F' H H' x fr h hF hH e
  change outT (JM7 T E l F H) = some (x, F', H') at e
  unfold outT at e
  split at e
  ·rename_i F1 H1 hr
   cases e
   obtain ⟨fr', h', q1, q2, q3⟩ := YLK hT hE l hF hH hr
   exact ⟨fr', h', q1, q2, fun p R k g => AM.go rfl (q3 p rd fn k R g)⟩
  ·cases e
 | drw id l =>
  intro F F' H H' x fr h hF hH e
  change outT (qhW T E H.len l 0 [] F H) = some (x, F', H') at e
  unfold outT at e
  split at e
  ·rename_i F1 H1 hr
   cases e
   obtain ⟨fr', h', q1, q2, q3⟩ := AM.drwE hm hT hE hF hH hr
   exact ⟨fr', h', q1, q2, fun p R k g => q3 p rd fn id k R g⟩
  ·cases e
 | seq a b iha ihb =>
  intro F F' H H' x fr h hF hH e
  change Ka8 (evCT T E rd.isSome a) (evCT T E rd.isSome b) F H = some (x, F', H') at e
  unfold Ka8 at e
  split at e
  ·cases e
  ·rename_i x1 F1 H1 hx
   obtain ⟨fr1, h1, f1, f2, f3⟩ := iha hF hH hx
   cases x1 with
   | n =>
    obtain ⟨fr', h', q1, q2, q3⟩ := ihb f1 f2 e
    exact ⟨fr', h', q1, q2, fun p R k g => AM.go rfl (f3 p R (.code b :: k) (q3 p R k g))⟩
   | x id =>
    cases e
    exact ⟨fr1, h1, f1, f2, fun p R k g => AM.go rfl (f3 p R (.code b :: k) (g.pass (fun q => nomatch q) (fun _ _ => rfl)))⟩
   | r =>
    cases e
    exact ⟨fr1, h1, f1, f2, fun p R k g => AM.go rfl (f3 p R (.code b :: k) g)⟩
 | cond q a b iha ihb =>
  intro F F' H H' x fr h hF hH e
  change Qhd q (evCT T E rd.isSome a) (evCT T E rd.isSome b) F H = some (x, F', H') at e
  unfold Qhd at e
  rw [X12 q (fun t _ => hF.get t)] at e
  split at e
  ·rename_i t ht
   cases t with
   | true =>
    obtain ⟨fr', h', q1, q2, q3⟩ := iha hF hH e
    exact ⟨fr', h', q1, q2, fun p R k g => AM.go (by simp only [qUa, ht]) (q3 p R k g)⟩
   | false =>
    obtain ⟨fr', h', q1, q2, q3⟩ := ihb hF hH e
    exact ⟨fr', h', q1, q2, fun p R k g => AM.go (by simp only [qUa, ht]) (q3 p R k g)⟩
  ·cases e
 | block id a iha =>
  intro F F' H H' x fr h hF hH e
  change XOX id (evCT T E rd.isSome a) F H = some (x, F', H') at e
  unfold XOX at e
  split at e
  ·cases e
  ·rename_i x1 F1 H1 hx
   obtain ⟨fr1, h1, f1, f2, f3⟩ := iha hF hH hx
   cases x1 with
   | n =>
    cases e
    exact ⟨fr1, h1, f1, f2, fun p R k g => AM.go rfl (f3 p R (.blk id :: k) (AM.go rfl g))⟩
   | x id' =>
    simp only at e
    by_cases hid : id = id'
    ·subst hid
     have : Nat.beq id id = true := by rw [Nat.beq_eq]
     rw [this] at e
     cases e
     exact ⟨fr1, h1, f1, f2, fun p R k g => AM.go rfl (f3 p R (.blk id :: k) (.inl ⟨k, by simp [YrY], g⟩))⟩
    ·have : Nat.beq id id' = false := by
      cases hb : Nat.beq id id' with
      | true => exact absurd (Nat.eq_of_beq_eq_true hb) hid
      | false => rfl
     rw [this] at e
     cases e
     exact ⟨fr1, h1, f1, f2, fun p R k g => AM.go rfl (f3 p R (.blk id :: k) (g.pass (fun q => nomatch q) (fun i q => by cases q; simp [YrY, hid])))⟩
   | r =>
    cases e
    exact ⟨fr1, h1, f1, f2, fun p R k g => AM.go rfl (f3 p R (.blk id :: k) g)⟩
 | loop a iha =>
  intro F F' H H' x fr h hF hH e
  change zQx (evCT T E rd.isSome a) 100000 F H = some (x, F', H') at e
  obtain ⟨fr', h', q1, q2, q3⟩ := JmA (P := P) (rd := rd) (fn := fn) (c := a) (fun hF hH e => iha hF hH e) 100000 hF hH e
  exact ⟨fr', h', q1, q2, fun p R k g => AM.loop (q3 p R k g)⟩
 | scope a iha =>
  intro F F' H H' x fr h hF hH e
  change evCT T E rd.isSome a F H = some (x, F', H') at e
  obtain ⟨fr', h', q1, q2, q3⟩ := iha hF hH e
  refine ⟨fr', h', q1, q2, fun p R k g => AM.go rfl (q3 p R (.sc :: k) ?_)⟩
  cases x with
  | n => exact AM.go rfl g
  | x id => exact g.pass (fun q => nomatch q) (fun _ _ => rfl)
  | r => exact g
 | exit id =>
  intro F F' H H' x fr h hF hH e
  cases e
  exact ⟨fr, h, hF, hH, fun p R k g => g.jump⟩
 | ret =>
  intro F F' H H' x fr h hF hH e
  cases e
  exact ⟨fr, h, hF, hH, fun p R k g => g k⟩
 | stop =>
  intro F F' H H' x fr h hF hH e
  cases e
 | rf q ps a b iha ihb =>
  intro F F' H H' x fr h hF hH e
  cases rd with
  | some l => cases e
  | none =>
   change eRfT T E q ps a b F H = some (x, F', H') at e
   unfold eRfT at e
   rw [X12 q (fun t _ => hF.get t)] at e
   split at e
   ·rename_i f0 fst cap hq
    split at e
    ·cases e
    ·rename_i H1 hpush
     have hH1 : HRel H1 (h ++ [AB.lp .ready .n fr ps a b]) := hH.push (X := some (.lp .ready .n F ps a b)) ⟨fr, hF, rfl⟩ hpush
     split at e
     ·cases e
     ·rename_i v H2 hcall
      simp only [YqP] at hcall
      split at hcall
      ·rename_i gid fst' cap' hq'
       cases hq'
       split at hcall
       ·rename_i c0 hcf
        obtain ⟨cf, rfl, hcf'⟩ := TB.cfs_some hcf
        obtain ⟨f, g1, g2⟩ := hT _ _ hcf'
        change (match Nat.ble (fst ++ [AV.y H.len] ++ cap).length cf.ntmps with
         | true => E (.fn cf) (Xi9 (fst ++ [AV.y H.len] ++ cap) 0 (FR.full cf.ntmps)) H1
         | false => none) = _ at hcall
        split at hcall
        ·rename_i hle
         have hle' : (fst ++ [AV.y H.len] ++ cap).length ≤ cf.ntmps := by simpa using hle
         obtain ⟨h2, r1, r2⟩ := hE.fn gid f cf _ _ _ _ _ _ g1 g2 (FRel.enter _ _ hle') hH1 hcall
         rw [hH.len] at r2 e
         split at e
         ·rename_i st pd F1 ps1 a1 b1 hlp
          obtain ⟨B, hB, fr1, hF1, rfl⟩ := r1.here hlp
          have hst : st ≠ .busy := fun z => by
           subst z
           cases e
          have e' : some (pd, F, (⟨H2.len, H2.t.set h.length none⟩ : HP)) = some (x, F', H') := by
           rw [← e]
           cases st <;> first | rfl | exact absurd rfl hst
          cases e'
          exact ⟨fr, h2.set h.length .dead, hF, r1.set (X := none) (B := .dead) (List.getElem?_eq_some_iff.1 hB).1 rfl, fun p R k g => AM.rf hq g1 g2 r2 hB hst g.jump⟩
         ·cases e
        ·cases hcall
       ·cases hcall
      ·rename_i id hq'
       cases hq'
      ·cases hcall
   ·cases e
theorem QBA {F : FR} {fr : List AV} {H : HP} {h : List AB} (hF : FRel F fr) (hH : HRel H h) (rs : List RC) : resT F H rs = resV fr h rs := by
 have one : ∀ r, ZVa F H r = qdM fr h r := fun r => by
  cases r with
  | t n =>
   simp only [ZVa, qdM]
   rw [hF.get, qiA]
  | cell n sz =>
   simp only [ZVa, qdM]
   rw [qOV (HP.g_blk hH), hF.get, qiA]
 have all : ∀ rs, qnu F H rs = JBx fr h rs := by
  intro rs
  induction rs with
  | nil => rfl
  | cons r rs ih =>
   simp only [qnu, JBx]
   rw [one, ih]
 unfold resT resV
 rw [all]
 rfl
theorem qDG (hm : P.follows .mixedOrders = true) {T : TB} (hT : zDq P T) : ∀ n, SoundX P (evTF T n)
 | 0 => ⟨fun g fn cf F fr H h v H' hf hc hF hH e => (by cases e), fun id asg bd F fr H h v H' hF hH e => (by cases e)⟩
 | n + 1 => by
  refine ⟨fun g fn cf F fr H h v H' hf hc hF hH e => ?_, fun id asg bd F fr H h v H' hF hH e => ?_⟩
  ·change finT cf (evCT T (evTF T n) false cf.body F H) = some (v, H') at e
   obtain ⟨_, body, hb, hcb, hres, _⟩ := QYr hc
   unfold finT at e
   split at e
   ·cases e
   ·rename_i x F1 H1 hx
    obtain ⟨fr1, h1, q1, q2, q3⟩ := Zwa (P := P) hm hT (qDG hm hT n) (rd := none) (fn := g) cf.body hF hH hx
    cases x with
    | x id => cases e
    | n =>
     simp only at e
     split at e
     ·rename_i u hu
      cases e
      rw [QBA q1 q2] at hu
      exact ⟨h1, q2, q3 _ _ [] (AM.fin hf hres hu ⟨rfl, rfl⟩)⟩
     ·cases e
    | r =>
     simp only at e
     split at e
     ·rename_i u hu
      cases e
      rw [QBA q1 q2] at hu
      exact ⟨h1, q2, q3 _ _ [] fun k' => AM.ret hf hres hu ⟨rfl, rfl⟩⟩
     ·cases e
  ·change YIO T (evTF T n) id asg bd F H = some (v, H') at e
   unfold YIO at e
   split at e
   ·rename_i F1 H1 hx
    split at e
    ·rename_i pd F0 ps a b hlp
     unfold qJt at e
     split at e
     ·cases e
     ·rename_i x F2 H2 hx2
      split at e
      ·rename_i st pd' F0' ps' a' b' hlp2
       have main : ∀ g, ∃ fr1 h1 fr2 h2 fr0 fr0', FRel F1 fr1 ∧ HRel H1 h1 ∧ h1[id]? = some (.lp .ready pd fr0 ps a b) ∧ HRel H2 h2 ∧ FRel F0' fr0' ∧ h2[id]? = some (.lp st pd' fr0' ps' a' b') ∧
         (∀ (p : Nat) (R : AV → List AB → Prop) (k : List CI), Left P p (some id) g k R fr1 h1 .n → AM P p (some id) g (.code asg :: k) fr h R) ∧
         (∀ (p : Nat) (R : AV → List AB → Prop) (k : List CI), Left P p (some id) g k R fr2 h2 x → AM P p (some id) g (.code bd :: k) fr1 (h1.set id (.lp .busy pd fr0 ps a b)) R) := fun g => by
        obtain ⟨fr1, h1, q1, q2, q3⟩ := Zwa (P := P) hm hT (qDG hm hT n) (rd := some id) (fn := g) asg hF hH hx
        obtain ⟨B, hB, fr0, hF0, rfl⟩ := q2.here hlp
        have q2' := q2.set (i := id) (X := some (.lp .busy pd F0 ps a b)) (B := .lp .busy pd fr0 ps a b) (List.getElem?_eq_some_iff.1 hB).1 ⟨fr0, hF0, rfl⟩
        obtain ⟨fr2, h2, z1, z2, z3⟩ := Zwa (P := P) hm hT (qDG hm hT n) (rd := some id) (fn := g) bd q1 q2' hx2
        obtain ⟨B2, hB2, fr0', hF0', rfl⟩ := z2.here hlp2
        exact ⟨fr1, h1, fr2, h2, fr0, fr0', q1, q2, hB, z2, hF0', hB2, q3, z3⟩
       obtain ⟨fr1, h1, fr2, h2, fr0, fr0', m1, m2, m3, m4, m5, m6, m7, m8⟩ := main 0
       have same : ∀ g, ∃ fr2', (∀ (p : Nat) (R : AV → List AB → Prop) (k : List CI), Left P p (some id) g k R fr1 h1 .n → AM P p (some id) g (.code asg :: k) fr h R) ∧
         (∀ (p : Nat) (R : AV → List AB → Prop) (k : List CI), Left P p (some id) g k R fr2' h2 x → AM P p (some id) g (.code bd :: k) fr1 (h1.set id (.lp .busy pd fr0 ps a b)) R) := fun g => by
        obtain ⟨fr1', h1', fr2', h2', fr0a, fr0b, n1, n2, n3, n4, n5, n6, n7, n8⟩ := main g
        have e1 := n1.unique m1
        have e2 := n2.unique m2
        have e3 := n4.unique m4
        subst e1; subst e2; subst e3
        rw [n3] at m3
        cases m3
        exact ⟨fr2', n7, n8⟩
       have hlt : id < h2.length := (List.getElem?_eq_some_iff.1 m6).1
       have fin : ∀ (st' : LoopState) (y : XE), HRel ⟨H2.len, H2.t.set id (some (.lp st' y F0' ps' a' b'))⟩ (h2.set id (.lp st' y fr0' ps' a' b')) := fun st' y => m4.set hlt ⟨fr0', m5, rfl⟩
       cases x with
       | n =>
        cases e
        refine ⟨_, fin .ready .n, fun g => ?_⟩
        obtain ⟨fr2', n7, n8⟩ := same g
        exact n7 _ _ [.br, .code bd] (AM.br m3 (n8 _ _ [] (AM.rend m6 ⟨rfl, rfl⟩)))
       | x y =>
        cases e
        refine ⟨_, fin .done (.x y), fun g => ?_⟩
        obtain ⟨fr2', n7, n8⟩ := same g
        exact n7 _ _ [.br, .code bd] (AM.br m3 (n8 _ _ [] (.inr ⟨rfl, fun k' hk => AM.rexit hk m6 ⟨rfl, rfl⟩⟩)))
       | r =>
        cases e
        refine ⟨_, fin .done .r, fun g => ?_⟩
        obtain ⟨fr2', n7, n8⟩ := same g
        exact n7 _ _ [.br, .code bd] (AM.br m3 (n8 _ _ [] fun k' => AM.rret m6 ⟨rfl, rfl⟩))
      ·cases e
    ·cases e
   ·cases e
theorem Calls.evTD (hm : P.follows .mixedOrders = true) {T : TB} (hT : zDq P T) (n g : Nat) {cf : CF} (hg : T g = some (.cf cf)) (e : runT T n cf = true) (w : World) (g0 : ∃ N, GG N w) :
  Calls P g #[] w (fun en w' => en = .returned (.bool true) ∧ Quietly w w' ∧ dr w ≤ dr w') := by
 intro cs
 obtain ⟨fn, hf, hc⟩ := hT g _ hg
 obtain ⟨_, body, hb, hcb, hres, hnt⟩ := QYr hc
 unfold runT isTT at e
 split at e
 ·rename_i H' he
  have h0 : HRel ⟨0, HT.full 14⟩ [] := ⟨rfl, by simp, fun i _ => HT.full_get 14 i, fun i B q => by simp at q, fun i hi => HT.full_has 14 i (by omega)⟩
  obtain ⟨h', _, am⟩ := (qDG hm hT n).fn g fn cf _ _ _ _ _ _ hf hc (FRel.full cf.ntmps) h0 he
  let bf : Frame := { (default : Frame) with fn := g, kind := .normal, roundOf := none }
  have henter : Frame.enter P g #[] .normal = bf.atR { tmps := Array.replicate fn.ntmps undef, defers := [] } [.code body] := by
   simp [Frame.enter, Frame.atR, hf, hb, bf]
  have hrel : Rel (KC P) [] [] w := ⟨rfl, fun i B b o n h => by simp at h, fun i j bi oi bj oj Bi Bj _ h => by simp at h, GL.nil g0⟩
  obtain ⟨v, w', ⟨a, h'', ρ', ⟨ha, _⟩, hv, _, heff⟩, frm, hst, hfn, hlv⟩ := am [] w (Array.replicate fn.ntmps undef) [.code body] bf cs [] rfl rfl rfl (Nat.le_refl _) (.mcode hcb trivial) (by rw [hnt]; exact YFB [] _) hrel ⟨List.nodup_nil, fun r h => by simp at h⟩
  subst ha
  cases hv
  refine ⟨.returned (.bool true), w', frm, ⟨rfl, ⟨heff.os, heff.tape, heff.output.1, heff.size, fun k hk => heff.p.keep k hk fun ho => ?_⟩, heff.output.2⟩, by rw [henter]; exact hst, hfn, hlv⟩
  obtain ⟨i, B, o, h1, _⟩ := ho
  simp at h1
 ·cases e
theorem FnC.closed (hm : P.follows .mixedOrders = true) {T : TB} (hT : zDq P T) (n g : Nat) {cf : CF} (hg : T g = some (.cf cf)) (e : runT T n cf = true) (h : List AB) : FnC P g [] h (.b true) h := by
 obtain ⟨fn, hf, hc⟩ := hT g _ hg
 obtain ⟨hname, body, hb, _⟩ := QYr hc
 refine ⟨⟨fn, body, hf, by simpa using hname, hb⟩, fun ρ w vals hr hv => ?_⟩
 obtain rfl : vals = #[] := Array.eq_empty_of_size_eq_zero hv.1.symm
 refine (Calls.evTD hm hT n g hg e w hr.gl.some).mono ?_
 rintro en w' ⟨rfl, q, hd⟩
 refine ⟨_, ρ, rfl, .b true, ⟨hr.len, fun i B bb o n h1 h2 => (hr.blk i B bb o n h1 h2).same (Ext.refl _) fun hl => q.block bb ((hr.blk i B bb o n h1 h2).lt hl), hr.sep, hr.gl.keep q.size (fun k hk _ => q.block k hk) fun _ z => .inl z⟩, ?_⟩
 have : Eff ρ h w ρ h w' := ⟨q.os, q.tape, ⟨q.output, hd⟩, q.size, fun k hk _ => q.block k hk, fun _ q => .inl q, fun _ _ q => .inl q⟩
 exact this.p (Ext.refl _) (by rw [hr.len]; exact Nat.le_refl _)
def AllN (P : Program) : Nat → List (Option TC) → Prop
 | _, [] => True
 | g, none :: l => AllN P (g + 1) l
 | g, some c :: l => c.Ok P g ∧ AllN P (g + 1) l
def AllNs (P : Program) : Nat → List (List (Option TC)) → Prop
 | _, [] => True
 | g, r :: l => AllN P g r ∧ AllNs P (g + 16) l
theorem AllN.cons {g : Nat} {fn : Func} {c : CF} {l : List (Option TC)} (h1 : P.funcs[g]? = some fn) (h2 : qXD P fn = some c) (h3 : AllN P (g + 1) l) : AllN P g (some (.cf c) :: l) := ⟨⟨fn, h1, h2⟩, h3⟩
theorem AllN.nv {g : Nat} {f : List AV → GT → Nat → Option (AV × HE)} {l : List (Option TC)} (h1 : NvOk P g f) (h3 : AllN P (g + 1) l) : AllN P g (some (.nv f) :: l) := ⟨h1, h3⟩
theorem AllN.skip {g : Nat} {l : List (Option TC)} (h3 : AllN P (g + 1) l) : AllN P g (none :: l) := h3
theorem AllNs.cons {g : Nat} {r : List (Option TC)} {l : List (List (Option TC))} (h1 : AllN P g r) (h2 : AllNs P (g + 16) l) : AllNs P g (r :: l) := ⟨h1, h2⟩
noncomputable def Jtv (l : List (Option TC)) : Nat → Option TC := List.rec (motive := fun _ => Nat → Option TC) (fun _ => none) (fun a _ ih n => Nat.rec (motive := fun _ => Option TC) a (fun m _ => ih m) n) l
noncomputable def qow (l : List (List (Option TC))) : Nat → List (Option TC) := List.rec (motive := fun _ => Nat → List (Option TC)) (fun _ => []) (fun a _ ih n => Nat.rec (motive := fun _ => List (Option TC)) a (fun m _ => ih m) n) l
noncomputable def tabn (tls : List (List (Option TC))) (g : Nat) : Option TC := Jtv (qow tls (Nat.div g 16)) (Nat.mod g 16)
theorem ZQ0 : ∀ (l : List (Option TC)) (g j : Nat) (c : TC), AllN P g l → Jtv l j = some c → c.Ok P (g + j)
 | [], _, _, _, _, e => by cases e
 | none :: l, g, 0, c, h, e => by cases e
 | some d :: l, g, 0, c, h, e => by
  cases e
  exact h.1
 | none :: l, g, j + 1, c, h, e => by
  have := ZQ0 l (g + 1) j c h e
  rw [show g + 1 + j = g + (j + 1) by omega] at this
  exact this
 | some d :: l, g, j + 1, c, h, e => by
  have := ZQ0 l (g + 1) j c h.2 e
  rw [show g + 1 + j = g + (j + 1) by omega] at this
  exact this
theorem QHm : ∀ (tls : List (List (Option TC))) (g b : Nat), AllNs P g tls → AllN P (g + 16 * b) (qow tls b)
 | [], _, _, _ => trivial
 | r :: l, g, 0, h => h.1
 | r :: l, g, b + 1, h => by
  have := QHm l (g + 16) b h.2
  rw [show g + 16 + 16 * b = g + 16 * (b + 1) by omega] at this
  exact this
theorem QrT (tls : List (List (Option TC))) (h : AllNs P 0 tls) : zDq P (tabn tls) := fun g c e => by
 have := ZQ0 _ _ _ _ (QHm tls 0 (g / 16) h) e
 have hg : 0 + 16 * (g / 16) + Nat.mod g 16 = g := by
  have : Nat.mod g 16 = g % 16 := rfl
  omega
 rw [hg] at this
 exact this
end
end Go.Proofs.YthhghdebjiiliaaDoor
end
