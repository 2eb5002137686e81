/- Part 11 of what the laws' proofs rest on. No condition. -/
import Derived.Test.YthhghdebjiiliaaDoorPb10
set_option linter.all false
section
namespace Go.Proofs.YthhghdebjiiliaaDoor
open Go.RowKit
section
variable {P : Program}
inductive DRel (P : Program) (len0 : Nat) : List DOp → Nat → List Pt → List AV → List AB → List AV → List AB → Prop
 | nil (k : Nat) (past : List Pt) (fr : List AV) (h : List AB) : DRel P len0 [] k past fr h fr h
 | cons (d : DOp) (l : List DOp) (k : Nat) (past past' : List Pt) (fr fr' : List AV) (h h1 h' : List AB) (v : AV) (pt : Pt) (s : DSx P len0 d k past fr h v h1 past' pt) (r : DRel P len0 l (k + 1) past' (put fr d.o.dst v) h1 fr' h') : DRel P len0 (d :: l) k past fr h fr' h'
theorem qls {len0 : Nat} {l : List DOp} {k : Nat} {past : List Pt} {fr fr' : List AV} {h h' : List AB} (r : DRel P len0 l k past fr h fr' h') :
  ∃ (S : Nat → St) (V : Nat → AV) (PT : Nat → Pt), S 0 = ⟨fr, h, past⟩ ∧ (∀ j d, l[j]? = some d → DSx P len0 d (k + j) (S j).past (S j).fr (S j).h (V j) (S (j + 1)).h (S (j + 1)).past (PT j) ∧ (S (j + 1)).fr = put (S j).fr d.o.dst (V j)) ∧
   (S l.length).fr = fr' ∧ (S l.length).h = h' := by
 induction r with
 | nil k past fr h => exact ⟨fun _ => ⟨fr, h, past⟩, fun _ => .tu [], fun _ => ⟨0, 0, 0, [], []⟩, rfl, fun j d q => by simp at q, rfl, rfl⟩
 | cons d l k past past' fr fr' h h1 h' v pt s _ ih =>
  obtain ⟨S, V, PT, s0, s1, s2, s3⟩ := ih
  refine ⟨fun j => Nat.casesOn j ⟨fr, h, past⟩ S, fun j => Nat.casesOn j v V, fun j => Nat.casesOn j pt PT, rfl, fun j d' hd => ?_, s2, s3⟩
  cases j with
  | zero =>
   cases hd
   refine ⟨?_, ?_⟩
   ·change DSx P len0 d (k + 0) past fr h v (S 0).h (S 0).past pt
    rw [s0]
    exact s
   ·change (S 0).fr = put fr d.o.dst v
    rw [s0]
  | succ j =>
   have := s1 j d' (by simpa using hd)
   rw [show k + 1 + j = k + (j + 1) by omega] at this
   exact this
theorem Z2L {ops : Array Oper} {l : List (COper × List Nat)} (hl : zgB P ops (List.range ops.size) = some l) (hok : KPd [] (clos [] l) (l.map (·.2)) = true)
  {fr fr' : List AV} {h h' : List AB} (e : DRel P h.length (clos [] l) 0 [] fr h fr' h') :
  ∃ (DS : Nat → DOp) (FR : Nat → List AV) (H : Nat → List AB) (V : Nat → AV) (PT : Nat → Pt), Can P ops ops.size h.length DS FR H V PT ∧ FR 0 = fr ∧ H 0 = h ∧ FR ops.size = fr' ∧ H ops.size = h' := by
 obtain ⟨S, V, PT, s0, s1, s2, s3⟩ := qls e
 obtain ⟨c1, c2⟩ := Ka1 hl
 rw [List.length_range] at c1
 have hlen : (clos [] l).length = ops.size := by rw [XBG, c1]
 rw [hlen] at s2 s3
 let DS : Nat → DOp := fun k => ((clos [] l)[k]?).getD ⟨⟨none, none, .stop⟩, 0, 0⟩
 have dget : ∀ k, k < ops.size → (clos [] l)[k]? = some (DS k) := fun k hk => by
  simp only [DS]
  rw [List.getElem?_eq_getElem (by omega)]
  rfl
 have K : ∀ k, k < ops.size → ∃ o, ops[k]? = some o ∧ XyB P ops o = some (DS k).o ∧ (DS k).us = KyQ (DS k).o.tmps ∧ l[k]? = some ((DS k).o, ZMj o) ∧
   (DS k).anc = (ZMj o).foldl (fun m x => Nat.lor m (Nat.lor (Nat.shiftLeft 1 x) (([] ++ ((clos [] l).map DOp.anc).take k).getD x 0))) 0 := fun k hk => by
  obtain ⟨c, deps, h1, h2, h3, h4⟩ := zUV l [] k (DS k) (dget k hk)
  obtain ⟨i, o, h5, h6, h7, rfl⟩ := c2 k c deps h1
  rw [List.getElem?_range hk] at h5
  cases h5
  exact ⟨o, h6, by rw [h2]; exact h7, by rw [h2]; exact h3, by rw [h2]; exact h1, h4⟩
 have T1 : ∀ k, k < ops.size → DSx P h.length (DS k) k (S k).past (S k).fr (S k).h (V k) (S (k + 1)).h (S (k + 1)).past (PT k) ∧ (S (k + 1)).fr = put (S k).fr (DS k).o.dst (V k) := fun k hk => by
  have := s1 k (DS k) (dget k hk)
  rw [Nat.zero_add] at this
  exact this
 have hdr := Xfe _ _ _ hok
 have D1 : ∀ k, k < ops.size → ∀ o, ops[k]? = some o → (∀ x ∈ ZMj o, bit x (DS k).anc = true) ∧ (DS k).anc < 2 ^ k ∧ QVr (DS k) 0 ((clos [] l).take k) = true := fun k hk o ho => by
  obtain ⟨o', h1, _, _, h4, _⟩ := K k hk
  rw [h1] at ho
  cases ho
  have := hdr.2 k (DS k) (ZMj o) (dget k hk) (by rw [List.getElem?_map, h4]; rfl)
  simpa using this
 have lt : ∀ k, k < ops.size → ∀ j, bit j (DS k).anc = true → j < k := fun k hk j hj => by
  obtain ⟨o', h1, _⟩ := K k hk
  exact zUg (D1 k hk o' h1).2.1 hj
 have past : ∀ k, k ≤ ops.size → (∀ p ∈ (S k).past, ∃ m, m < k ∧ p = PT m) ∧ (∀ m, m < k → PT m ∈ (S k).past ∨ ((PT m).rs = [] ∧ (PT m).ws = [] ∧ (PT m).lo = 0 ∧ (PT m).hi = 0)) := by
  intro k
  induction k with
  | zero =>
   intro _
   rw [s0]
   exact ⟨fun p hp => by simp at hp, fun m hm => by omega⟩
  | succ k ih =>
   intro hk
   obtain ⟨i1, i2⟩ := ih (by omega)
   have hd := (T1 k (by omega)).1
   rcases hd.pp with q | ⟨q, r⟩
   ·rw [q]
    refine ⟨fun p hp => ?_, fun m hm => ?_⟩
    ·rcases List.mem_cons.1 hp with rfl | hp
     ·exact ⟨k, by omega, rfl⟩
     ·obtain ⟨m, hm, rfl⟩ := i1 p hp
      exact ⟨m, by omega, rfl⟩
    ·by_cases e : m = k
     ·subst e
      exact .inl (List.mem_cons_self ..)
     ·exact (i2 m (by omega)).imp (List.mem_cons_of_mem _) (fun x => x)
   ·rw [q]
    refine ⟨fun p hp => ?_, fun m hm => ?_⟩
    ·obtain ⟨m, hm, rfl⟩ := i1 p hp
     exact ⟨m, by omega, rfl⟩
    ·by_cases e : m = k
     ·subst e
      exact .inr r
     ·exact i2 m (by omega)
 have pk : ∀ k, k < ops.size → (PT k).k = k := fun k hk => (T1 k hk).1.pk
 have own : ∀ k, k < ops.size → ∀ id, qOk h.length (PT k).lo (PT k).hi (DS k).anc (S k).past id = true → ownQ h.length PT (fun k => (DS k).anc) k id = true := fun k hk id hq => by
  simp only [qOk, Bool.or_eq_true, Bool.and_eq_true, Nat.blt_eq, Nat.ble_eq, List.any_eq_true] at hq
  simp only [ownQ, decide_eq_true_eq]
  rcases hq with (hq | hq) | ⟨p, hp, hq⟩
  ·exact .inl hq
  ·exact .inr ⟨k, Nat.le_refl _, .inl rfl, hq.1, hq.2⟩
  ·obtain ⟨m, hm, rfl⟩ := (past k (by omega)).1 p hp
   rw [pk m (by omega)] at hq
   exact .inr ⟨m, by omega, .inr hq.1.1, hq.1.2, hq.2⟩
 refine ⟨DS, fun k => (S k).fr, fun k => (S k).h, V, PT, ⟨rfl, fun k hk => (T1 k hk).2, fun k hk => ?_, by simp [s0], fun k hk => ?_, fun k hk i hi => ?_, fun k hk i hi => ?_, fun j k hjk hk => ?_, fun k hk => ?_, fun k hk i B hi hB => ?_, fun j k hjk hk => ?_, lt, fun k hk o ho => (D1 k hk o ho).1, fun k hk o ho m hm => ?_, fun k hk => ?_⟩, by simp [s0], by simp [s0], s2, s3⟩
 ·rcases (T1 k hk).1.cas with ⟨q, _⟩ | ⟨_, _, _, _, G, q, q2, _⟩
  ·rw [q]; exact Nat.le_refl _
  ·rw [q, zCl]; omega
 ·rcases (T1 k hk).1.cas with ⟨_, _, q, q', _⟩ | ⟨q, q', _⟩
  ·exact .inl ⟨q, q'⟩
  ·exact .inr ⟨q, q'⟩
 ·rcases (T1 k hk).1.cas with ⟨q, _⟩ | ⟨q, q', _, _, G, hG, q2, _⟩
  ·rw [q]
  ·have hn := YLl.1 hi
   rw [hG, zcu, Nat.zero_add, if_neg hn.1]
   split
   ·rfl
   ·rename_i hlt
    rw [hG, zCl] at q'
    rw [q, q'] at hn
    have h1 : G.length ≤ i := by have := hn.2; omega
    rw [List.getElem?_eq_none h1, List.getElem?_eq_none (by omega)]
 ·rcases (T1 k hk).1.cas with ⟨_, q, _, _, q', _⟩ | ⟨_, _, _, q, _⟩
  ·rw [q, List.append_nil] at hi
   exact q' i hi
  ·obtain ⟨B, hB, _⟩ := q i hi
   exact (List.getElem?_eq_some_iff.1 hB).1
 ·rcases (past k (by omega)).2 j hjk with q | ⟨q1, q2, q3, q4⟩
  ·have := (T1 k hk).1.ind _ q
   unfold XOE at this
   rw [pk j (by omega)] at this
   split at this
   ·rename_i hb
    exact .inl hb
   ·simp only [Bool.and_eq_true, List.all_eq_true, Bool.not_eq_true'] at this
    refine .inr ⟨fun i hi => this.1 i hi, fun i hi hm => ?_⟩
    have := this.2 i hi
    rw [zKV.2 hm] at this
    cases this
  ·refine .inr ⟨fun i _ => YLl.2 ⟨by rw [q2]; simp, by omega⟩, fun i _ hm => ?_⟩
   rw [q1, q2] at hm
   simp at hm
 ·exact AV.ok_mono (own k hk) _ (T1 k hk).1.vok
 ·rcases (T1 k hk).1.cas with ⟨_, q, q1, q2, _⟩ | ⟨q, q', _, hrw, G, hG, q2, q3, q4, _⟩
  ·exfalso
   rcases JUS.1 hi with u | u
   ·rw [q] at u; simp at u
   ·omega
  ·refine AB.ok_mono (own k hk) B ?_
   rw [hG, zcu, Nat.zero_add] at hB
   by_cases hw : i ∈ (PT k).ws
   ·have := q3 i hw
    have hlt : i < (S k).h.length := by
     obtain ⟨B', hB', _⟩ := hrw i (List.mem_append_right _ hw)
     exact (List.getElem?_eq_some_iff.1 hB').1
    rw [if_pos hlt, if_pos hw] at hB
    cases hB
    exact this
   ·have hr : (PT k).lo ≤ i ∧ i < (PT k).hi := (JUS.1 hi).resolve_left hw
    rw [q] at hr
    rw [if_neg (by omega)] at hB
    refine q4 B (List.mem_of_getElem? (i := i - (S k).h.length) ?_)
    rw [List.getElem?_drop, show (S k).h.length + (i - (S k).h.length) = i by omega]
    exact hB
 ·obtain ⟨o, ho, _⟩ := K k hk
  have := YOh _ _ (D1 k hk o ho).2.2 j (DS j) (by rw [List.getElem?_take, if_pos hjk]; exact dget j (by omega))
  rw [Nat.zero_add] at this
  exact this
 ·obtain ⟨o', ho', _, _, _, h5⟩ := K k hk
  rw [ho'] at ho
  cases ho
  rw [h5, ZTI, Y3W] at hm
  rcases hm with hm | ⟨x, hx, hm⟩
  ·cases hm
  ·refine ⟨x, hx, hm.imp (fun q => q) fun q => ?_⟩
   rw [List.nil_append, List.getD_eq_getElem?_getD, List.getElem?_take] at q
   split at q
   ·rename_i hxk
    rw [List.getElem?_map, dget x (by omega)] at q
    exact q
   ·rw [Option.getD_none, Y3W] at q
    cases q
 ·obtain ⟨o, ho, hc, hus, _⟩ := K k hk
  have hmem : ∀ {frx : List AV}, (∀ t, bit t (DS k).us = true → nthA frx t = nthA (S k).fr t) → ∀ t ∈ (DS k).o.tmps, nthA frx t = nthA (S k).fr t := fun {frx} hx t ht => hx t (by rw [hus]; exact (YXc t _).2 ht)
  rcases (T1 k hk).1.cas with ⟨q, q1, _, q2, q3, q4⟩ | ⟨q1, q2, q3, q4, G, hG, q5, q6, q7, q8⟩
  ·exact .inl ⟨q1, q2, fun frx hx hf hh => q4 frx hx (hmem hf) hh ops k o ho hc⟩
  ·refine .inr ⟨q1, q2, fun t ht => ?_, q4, G, ?_, fun i hi => ?_, fun frx hf => q8 frx (hmem hf) ops k o ho hc⟩
   ·rw [hus, YXc] at ht
    exact q3 t ht
   ·rw [hG, zCl]; omega
   ·rw [hG, zcu, Nat.zero_add]
    by_cases hw : i ∈ (PT k).ws
    ·have hlt : i < (S k).h.length := by
      obtain ⟨B', hB', _⟩ := q4 i (List.mem_append_right _ hw)
      exact (List.getElem?_eq_some_iff.1 hB').1
     rw [if_pos hlt, if_pos hw, List.getElem?_eq_getElem (by omega)]
     rfl
    ·have hr : (PT k).lo ≤ i ∧ i < (PT k).hi := (JUS.1 hi).resolve_left hw
     rw [q1] at hr
     rw [if_neg (by omega)]
theorem AM.drwR (hm : P.follows .mixedOrders = true) {p : Nat} {rd : Option Nat} {fn : FuncId} {id : Nat} {ds : List DOp} {k : List CI} {fr fr' : List AV} {h h' : List AB} {R : AV → List AB → Prop}
  (e : DRel P h.length ds 0 [] fr h fr' h') (g : AM P p rd fn k fr' h' R) : AM P p rd fn (.code (.drw id ds) :: k) fr h R := by
 intro ρ w tmps items b cs ms hf hk hro hp hi hv hr hmk
 obtain ⟨c', its, rfl, hc, hi2⟩ := hi.code
 obtain ⟨ops, l, rfl, hl, rfl, hok⟩ := Q9l hc
 obtain ⟨DS, FR, H, V, PT, C, rfl, rfl, rfl, rfl⟩ := Z2L hl hok e
 have hlen := C.mono (j := 0) (k := ops.size) (by omega) (Nat.le_refl _)
 obtain ⟨p1, p2, p3⟩ := hr.pad ((H ops.size).length - (H 0).length) (Nat.le_refl _)
 have f0 : ∀ (t : Nat) (a : AV), (FR 0)[t]? = some a → a.ok (fun i => decide (i < (H 0).length)) = true := fun t a ha => by
  obtain ⟨c, _, hc⟩ := hv.get ha
  exact hc.okLe (by rw [hr.len]; exact Nat.le_refl _)
 have h0 : ∀ (i : Nat) (B : AB), (H 0)[i]? = some B → B.ok (fun i => decide (i < (H 0).length)) = true := fun i B hB => by
  have := hr.okLen hB
  rw [hr.len] at this
  exact this
 have zero : ∀ j, (Array.replicate ops.size false).getD j false = false := fun j => by
  rw [Array.getD_eq_getD_getElem?, Array.getElem?_replicate]
  split <;> rfl
 have z1 : ∀ m, frD DS FR V (fun j => (Array.replicate ops.size false).getD j false) m = FR 0 := by
  intro m
  induction m with
  | zero => rfl
  | succ m ih =>
   simp only [frD, zero m, Bool.false_eq_true, if_false]
   exact ih
 have z2 : ∀ i m, hD H PT (fun j => (Array.replicate ops.size false).getD j false) i m = (H 0)[i]? := by
  intro i m
  induction m with
  | zero => rfl
  | succ m ih =>
   simp only [hD, zero m, Bool.false_and, Bool.false_eq_true, if_false]
   exact ih
 have z3 : hL H PT ops.size (fun j => (Array.replicate ops.size false).getD j false) = H 0 ++ List.replicate ((H ops.size).length - (H 0).length) .dead := by
  refine List.ext_getElem? fun i => ?_
  rw [q8H, z2]
  by_cases h1 : i < (H 0).length
  ·rw [if_pos (by omega), List.getElem?_append_left h1, List.getElem?_eq_getElem h1]
   rfl
  ·rw [List.getElem?_append_right (by omega), List.getElem?_replicate, List.getElem?_eq_none (by omega : (H 0).length ≤ i)]
   by_cases h2 : i < (H ops.size).length
   ·rw [if_pos h2, if_pos (by omega)]
    rfl
   ·rw [if_neg h2, if_neg (by omega)]
 have p1' : Rel (KC P) (ρ ++ List.replicate ((H ops.size).length - (H 0).length) (0, 0, 0)) (hL H PT ops.size (fun j => (Array.replicate ops.size false).getD j false)) { w with drawn := w.drawn + 1 } := by
  rw [z3]
  exact p1.heap rfl
 obtain ⟨tmps', w', ρ', st, v', r', e'⟩ := C.sched f0 h0 (Nat.le_refl _) its cs (ms.map mkD) hk ops.size (w.tape w.drawn (.order b.fn id)) (Array.replicate ops.size false) _ _ tmps (by simp) (by
  unfold unL
  refine Nat.le_trans (List.length_filter_le _ _) ?_
  simp) (fun j hj hd => by
  dsimp only at hd
  rw [zero j] at hd
  cases hd) (by rw [z1]; exact hv.ext p3) p1'
 rw [z3] at e'
 have eall := (p2.trans (EffP.drewn _ _ _ w)).trans e'
 have hend := g ρ' w' tmps' its b cs ms hf hk (hro.ext (eall.ext hr)) (by omega) hi2 v' r' (hmk.eff eall)
 refine Ret.steps ((Steps.one stepR_region_draw).trans ?_) ((hend.mono fun v w'' q => q.from (eall.weak hp) (fun r hr => .inl hr)))
 have hsch : Region.schedule (P.follows .mixedOrders) ops (w.tape w.drawn (.order b.fn id)) = Region.linearise.go .any ops ops.size (w.tape w.drawn (.order b.fn id)) (Array.replicate ops.size false) [] := by
  simp only [Region.schedule, hm, Bool.true_or, if_true]
  rfl
 rw [hsch]
 exact st.trans (.one stepR_region_end)
theorem OpAt.congr {op : CO} {fr frx : List AV} {h h' : List AB} {v : AV} (hx : ∀ t ∈ op.tmps, nthA frx t = nthA fr t) (e : OpAt P op fr h v h') : OpAt P op frx h v h' := by
 have one : ∀ x : Opd, (∀ t ∈ x.tmps, nthA frx t = nthA fr t) → Opd.ev frx x = Opd.ev fr x := fun x q => by
  cases x with
  | t n =>
   have := q n (by simp [Opd.tmps])
   rw [qiA, qiA] at this
   exact this
  | c v => rfl
 unfold OpAt at e ⊢
 split at e
 ·rename_i f args hcc
  have hop := Qs5 hcc
  rw [hop] at hx
  rw [one f (fun t q => hx t (List.mem_append_left _ q)), List.map_congr_left fun x hxm => one x fun t q => hx t (List.mem_append_right _ (List.mem_flatMap.2 ⟨x, hxm, q⟩))]
  exact e
 ·rename_i hcc
  rw [← e]
  refine qc1 h op (ev := Opd.ev frx) (ev' := Opd.ev fr) (fun v => rfl) fun t ht => ?_
  have := hx t ht
  rw [qiA, qiA] at this
  exact this
def qim (C : CO → List AV → List AB → AV → List AB → Prop) (len0 : Nat) : List DOp → Nat → List Pt → (List AV → List AB → Prop) → List AV → List AB → Prop
 | [], _, _, K, fr, h => K fr h
 | d :: l, k, past, K, fr, h => ZzY fr d.o.guard = true ∧ (YVO fr d.o.guard = false → qim C len0 l (k + 1) past K (put fr d.o.dst (.tu [])) h) ∧
   (YVO fr d.o.guard = true →
    (d.o.op.mk = .free ∧ ∃ v, d.o.op.run (Opd.ev fr) h = some (v, h) ∧ v.ok (qOk len0 0 0 d.anc past) = true ∧ qim C len0 l (k + 1) past K (put fr d.o.dst v) h) ∨
    (∃ n x v, d.o.op = .ld n x ∧ ldV h n (x.ev fr) = some v ∧ past.all (XOE d.anc (idOf (x.ev fr)) []) = true ∧ v.ok (qOk len0 0 0 d.anc past) = true ∧ qim C len0 l (k + 1) (⟨k, 0, 0, idOf (x.ev fr), []⟩ :: past) K (put fr d.o.dst v) h) ∨
    (∃ rs ws v G, (∀ t ∈ d.o.op.tmps, (nthA fr t).ok (fun i => decide (i < h.length)) = true) ∧ (∀ i, i ∈ rs ++ ws → ∃ B, h[i]? = some B ∧ B.ok (fun i => decide (i < h.length)) = true) ∧ past.all (XOE d.anc rs ws) = true ∧
     C d.o.op fr (YWe rs ws 0 h) v G ∧ h.length ≤ G.length ∧ v.ok (qOk len0 h.length G.length d.anc past) = true ∧ (∀ id ∈ ws, ((G[id]?).getD .dead).ok (qOk len0 h.length G.length d.anc past) = true) ∧
     (∀ B ∈ G.drop h.length, B.ok (qOk len0 h.length G.length d.anc past) = true) ∧ qim C len0 l (k + 1) (⟨k, h.length, G.length, rs, ws⟩ :: past) K (put fr d.o.dst v) (Yjq ws G 0 h)))
variable {C : CO → List AV → List AB → AV → List AB → Prop}
theorem YKZ (hC : XBD P C) {len0 : Nat} : ∀ (l : List DOp) {k : Nat} {past : List Pt} {K : List AV → List AB → Prop} {fr : List AV} {h : List AB}, qim C len0 l k past K fr h → ∃ fr' h', K fr' h' ∧ DRel P len0 l k past fr h fr' h'
 | [], k, past, K, fr, h, e => ⟨fr, h, e, .nil k past fr h⟩
 | d :: l, k, past, K, fr, h, e => by
  have triv : ∀ p : Pt, XOE d.anc [] [] p = true := fun p => by
   unfold XOE
   split <;> simp
  obtain ⟨hk, e0, e1⟩ := e
  have gx : ∀ {frx : List AV}, (∀ t ∈ d.o.tmps, nthA frx t = nthA fr t) → ZzY frx d.o.guard = ZzY fr d.o.guard ∧ YVO frx d.o.guard = YVO fr d.o.guard := fun {frx} hx => by
   cases hg : d.o.guard with
   | none => exact ⟨rfl, rfl⟩
   | some p =>
    obtain ⟨t, w⟩ := p
    have := hx t (by unfold COper.tmps; rw [hg]; exact List.mem_append_left _ (List.mem_singleton.2 rfl))
    rw [zjj, zjj] at this
    simp only [ZzY, YVO]
    cases h1 : frx[t]? with
    | none =>
     cases h2 : fr[t]? with
     | none => exact ⟨rfl, rfl⟩
     | some b =>
      rw [h1, h2] at this
      simp only [Option.getD_none, Option.getD_some] at this
      rw [← this]
      exact ⟨rfl, rfl⟩
    | some a =>
     cases h2 : fr[t]? with
     | none =>
      rw [h1, h2] at this
      simp only [Option.getD_none, Option.getD_some] at this
      rw [this]
      exact ⟨rfl, rfl⟩
     | some b =>
      rw [h1, h2] at this
      simp only [Option.getD_some] at this
      rw [this]
      exact ⟨rfl, rfl⟩
  have opm : ∀ {t : Nat}, t ∈ d.o.op.tmps → t ∈ d.o.tmps := fun {t} ht => List.mem_append_right _ ht
  cases hw : YVO fr d.o.guard with
  | false =>
   obtain ⟨fr', h', q1, q2⟩ := YKZ hC l (e0 hw)
   exact ⟨fr', h', q1, .cons d l k past past fr fr' h h h' (.tu []) ⟨k, 0, 0, [], []⟩ ⟨rfl, .inr ⟨rfl, rfl, rfl, rfl, rfl⟩, fun p _ => triv p, rfl, .inl ⟨rfl, rfl, rfl, rfl, fun i hi => by simp at hi, fun frx hx hfx _ ops i o ho hc => ZY3 ho hc (by rw [(gx hfx).1]; exact hk) (by rw [(gx hfx).2]; exact hw)⟩⟩ q2⟩
  | true =>
   rcases e1 hw with ⟨hm, v, hr, hok, e2⟩ | ⟨n, x, v, hop, hr, hall, hok, e2⟩ | ⟨rs, ws, v, G, hus, hblk, hall, hat, hle, hok, hws, hnew, e2⟩
   ·obtain ⟨fr', h', q1, q2⟩ := YKZ hC l e2
    refine ⟨fr', h', q1, .cons d l k past past fr fr' h h h' v ⟨k, 0, 0, [], []⟩ ⟨rfl, .inr ⟨rfl, rfl, rfl, rfl, rfl⟩, fun p _ => triv p, hok, .inl ⟨rfl, rfl, rfl, rfl, fun i hi => by simp at hi, fun frx hx hfx _ ops i o ho hc => ?_⟩⟩ q2⟩
    have hc0 : d.o.op.isCall = none := by
     cases hop : d.o.op <;> rw [hop] at hm <;> first | (cases hm; done) | rfl
    have hat : OpAt P d.o.op fr hx v hx := by
     unfold OpAt
     rw [hc0]
     dsimp only
     rw [Q6y hm] at hr ⊢
     obtain ⟨r, hr1, hr2⟩ := Option.map_eq_some_iff.1 hr
     cases hr2
     rw [hr1]
     rfl
    exact XUu ho hc (by rw [(gx hfx).1]; exact hk) (by rw [(gx hfx).2]; exact hw) (hat.congr fun t ht => hfx t (opm ht))
   ·obtain ⟨fr', h', q1, q2⟩ := YKZ hC l e2
    refine ⟨fr', h', q1, .cons d l k past _ fr fr' h h h' v ⟨k, 0, 0, idOf (x.ev fr), []⟩ ⟨rfl, .inl rfl, fun p hp => List.all_eq_true.1 hall p hp, hok, .inl ⟨rfl, rfl, rfl, rfl, fun i hi => ?_, fun frx hx hfx hhx ops i o ho hc => ?_⟩⟩ q2⟩
    ·have key : ∀ {id : Nat} {xs : List AV}, JZy h id = some xs → id < h.length := fun {id xs} q => by
      unfold JZy at q
      split at q
      ·rename_i h1
       exact (List.getElem?_eq_some_iff.1 h1).1
      ·cases q
     dsimp only at hi
     cases hx : x.ev fr with
     | p id off =>
      rw [hx] at hi hr
      obtain rfl : i = id := by simpa [idOf] using hi
      cases n <;> simp only [ldV] at hr <;> obtain ⟨xs, hxs, _⟩ := Option.bind_eq_some_iff.1 hr <;> exact key hxs
     | _ => rw [hx] at hr; cases n <;> cases hr
    ·have hat : OpAt P d.o.op fr hx v hx := by
      unfold OpAt
      rw [hop]
      simp only [CO.isCall, CO.run]
      rw [Zjv hhx, hr]
      rfl
     exact XUu ho hc (by rw [(gx hfx).1]; exact hk) (by rw [(gx hfx).2]; exact hw) (hat.congr fun t ht => hfx t (opm ht))
   ·obtain ⟨fr', h', q1, q2⟩ := YKZ hC l e2
    refine ⟨fr', h', q1, .cons d l k past _ fr fr' h _ h' v ⟨k, h.length, G.length, rs, ws⟩ ⟨rfl, .inl rfl, fun p hp => List.all_eq_true.1 hall p hp, hok, .inr ⟨rfl, ?_, fun t ht => ?_, hblk, G, rfl, hle, hws, hnew, fun frx hfx ops i o ho hc => XUu ho hc (by rw [(gx hfx).1]; exact hk) (by rw [(gx hfx).2]; exact hw) ((hC hat).congr fun t ht => hfx t (opm ht))⟩⟩ q2⟩
    ·simp only [zCl]
     omega
    ·unfold COper.tmps at ht
     rcases List.mem_append.1 ht with ht | ht
     ·cases hgd : d.o.guard with
      | none => rw [hgd] at ht; simp at ht
      | some p =>
       obtain ⟨u, w⟩ := p
       rw [hgd] at ht hw
       obtain rfl : t = u := by simpa using ht
       simp only [YVO] at hw
       rw [zjj]
       split at hw
       ·rename_i x hx
        rw [hx]
        simp [AV.ok]
       ·cases hw
     ·exact hus t ht
theorem DrwAt.of (hC : XBD P C) (hm : P.follows .mixedOrders = true) {ds : List DOp} {K : List AV → List AB → Prop} {fr : List AV} {h : List AB} (w : qim C h.length ds 0 [] K fr h) : ∃ fr' h', DrwAt P ds fr h fr' h' ∧ K fr' h' :=
 let ⟨fr', h', q1, q2⟩ := YKZ hC ds w
 ⟨fr', h', fun _ _ _ _ _ _ g => AM.drwR hm q2 g, q1⟩
end
end Go.Proofs.YthhghdebjiiliaaDoor
end
section
namespace Go.Proofs.YthhghdebjiiliaaDoor
open Go.RowKit
structure Con where
 n : Nat
 f : List AV → List AB → Option (AV × List AB)
 ws : List AV → List Nat := fun _ => []
abbrev Tab := List Con
def Tab.at : Tab → Nat → List AV → List AB → Option (AV × List AB)
 | [], _, _, _ => none
 | c :: l, g, a, h => if c.n = g then c.f a h else Tab.at l g a h
def Tab.ws : Tab → Nat → List AV → List Nat
 | [], _, _ => []
 | c :: l, g, a => if c.n = g then c.ws a else Tab.ws l g a
theorem Tab.at_nil (g : Nat) (a : List AV) (h : List AB) : Tab.at [] g a h = none := by rw [Tab.at]
theorem Tab.at_cons (c : Con) (g : Nat) (l : Tab) (a : List AV) (h : List AB) : Tab.at (c :: l) g a h = if c.n = g then c.f a h else Tab.at l g a h := by rw [Tab.at]
theorem Tab.ws_nil (g : Nat) (a : List AV) : Tab.ws [] g a = [] := by rw [Tab.ws]
theorem Tab.ws_cons (c : Con) (g : Nat) (l : Tab) (a : List AV) : Tab.ws (c :: l) g a = if c.n = g then c.ws a else Tab.ws l g a := by rw [Tab.ws]
def Spec (P : Program) (g : Nat) (f : List AV → List AB → Option (AV × List AB)) : Prop := ∀ args h v h', f args h = some (v, h') → FnC P g args h v h'
def JCi (P : Program) (id : Nat) (f : List AV → List AB → Option (AV × List AB)) : Prop := ∀ args h v h', f args h = some (v, h') → Q1m P id args h v h'
structure Env where
 fns : Tab
 rds : Tab
def Qkp (S : Nat → (List AV → List AB → Option (AV × List AB)) → Prop) : Tab → Prop
 | [] => True
 | c :: l => S c.n c.f ∧ Qkp S l
theorem Tab.at_ok {S : Nat → (List AV → List AB → Option (AV × List AB)) → Prop} {R : Nat → List AV → List AB → AV → List AB → Prop} (hS : ∀ n f, S n f → ∀ a h v h', f a h = some (v, h') → R n a h v h') : ∀ (l : Tab), Qkp S l → ∀ g a h v h', l.at g a h = some (v, h') → R g a h v h'
 | [], _, g, a, h, v, h', e => by rw [Tab.at] at e; cases e
 | c :: l, ok, g, a, h, v, h', e => by
  rw [Tab.at] at e
  split at e
  ·rename_i hn
   subst hn
   exact hS c.n c.f ok.1 a h v h' e
  ·exact Tab.at_ok hS l ok.2 g a h v h' e
structure Env.Ok (P : Program) (T : Env) : Prop where
 fns : Qkp (Spec P) T.fns
 rds : Qkp (JCi P) T.rds
def QPB (T : Env) (f : AV) (args : List AV) (h : List AB) : Option (AV × List AB) :=
 match f with
 | .f (.func g) fst cap => T.fns.at g (fst ++ args ++ cap) h
 | .y id => T.rds.at id args h
 | _ => none
def opR (T : Env) (op : CO) (fr : List AV) (h : List AB) : Option (AV × List AB) :=
 match op.isCall with
 | some (f, args) => QPB T (f.ev fr) (args.map (Opd.ev fr)) h
 | none => op.run (Opd.ev fr) h
def opC (T : Env) (op : CO) (fr : List AV) (h : List AB) (v : AV) (h' : List AB) : Prop := opR T op fr h = some (v, h')
section
variable {P : Program}
theorem Z8o {T : Env} (hT : T.Ok P) : XBD P (opC T) := by
 intro op fr h v h' e
 unfold opC opR at e
 unfold OpAt
 split at e
 ·rename_i f args hc
  rw [hc]
  dsimp only
  unfold QPB at e
  unfold KGv
  split at e
  ·rename_i g fst cap hf
   rw [hf]
   exact Tab.at_ok (S := Spec P) (R := FnC P) (fun n f hs => hs) _ hT.fns _ _ _ _ _ e
  ·rename_i id hf
   rw [hf]
   exact Tab.at_ok (S := JCi P) (R := Q1m P) (fun n f hs => hs) _ hT.rds _ _ _ _ _ e
  ·cases e
 ·rename_i hc
  rw [hc]
  exact e
end
def seen (len0 anc : Nat) (past : List Pt) (n : Nat) : List Nat := (List.range n).filter (qOk len0 0 0 anc past)
def wsC (T : Env) (ev : Opd → AV) : CO → List Nat
 | .call f args => match ev f with
  | .f (.func g) fst cap => T.fns.ws g (fst ++ args.map ev ++ cap)
  | .y id => T.rds.ws id (args.map ev)
  | _ => []
 | .st _ x _ => idOf (ev x)
 | .app _ _ _ _ s _ => idOf (ev s)
 | .cpy _ _ d _ => idOf (ev d)
 | .clr _ x => idOf (ev x)
 | .nxt x => idOf (ev x)
 | .s2s x => idOf (ev x)
 | _ => []
def qUm (len0 anc : Nat) (past : List Pt) (ws : List Nat) (p : Pt) : Bool :=
 bit p.k anc || (p.ws.all (fun id => !qOk len0 0 0 anc past id) && (Nat.ble p.hi p.lo || (Nat.ble len0 p.lo && past.all fun p' => !bit p'.k anc || Nat.ble p'.hi p.lo || Nat.ble p.hi p'.lo)) && ws.all fun id => !X72 p id && !memN id (p.rs ++ p.ws))
def Msk (T : Env) (len0 k anc : Nat) (op : CO) (past : List Pt) (fr : List AV) (h : List AB) (Kt : AV → List AB → Pt → Prop) : Prop :=
 ∃ v G, okL (fun i => decide (i < h.length)) (op.tmps.map (nthA fr)) = true ∧ HOk h ∧ past.all (qUm len0 anc past (wsC T (Opd.ev fr) op)) = true ∧ ((wsC T (Opd.ev fr) op).all fun id => decide (id < h.length)) = true ∧
  opR T op fr (YWe (seen len0 anc past h.length) (wsC T (Opd.ev fr) op) 0 h) = some (v, G) ∧ h.length ≤ G.length ∧ v.ok (qOk len0 h.length G.length anc past) = true ∧
  ((wsC T (Opd.ev fr) op).all fun id => (G.getD id .dead).ok (qOk len0 h.length G.length anc past)) = true ∧ ((G.drop h.length).all fun B => B.ok (qOk len0 h.length G.length anc past)) = true ∧
  Kt v (Yjq (wsC T (Opd.ev fr) op) G 0 h) ⟨k, h.length, G.length, seen len0 anc past h.length, wsC T (Opd.ev fr) op⟩
def _root_.Go.Proofs.YthhghdebjiiliaaDoor.CO.nw : CO → Option (Bool × List AV)
 | .new fl zs => some (fl, zs)
 | _ => none
def _root_.Go.Proofs.YthhghdebjiiliaaDoor.CO.isM : CO → Bool
 | .new _ _ => false
 | op => match op.mk with
  | .mem => true
  | _ => false
theorem KsW {op : CO} (h : op.isM = true) : op.mk = .mem ∧ op.nw = none := by cases op <;> first | exact ⟨rfl, rfl⟩ | (simp [CO.isM, CO.mk] at h)
theorem zqh {op : CO} (h : op.mk = .free) : op.nw = none := by cases op <;> first | rfl | (simp [CO.mk] at h)
theorem KA5 {op : CO} {x : Bool × List AV} (h : op.nw = some x) : op = .new x.1 x.2 := by
 cases op <;> first | (simp [CO.nw] at h; done) | (injection h with h; subst h; rfl)
def wpD (T : Env) (len0 : Nat) : List DOp → Nat → List Pt → (List AV → List AB → Prop) → List AV → List AB → Prop
  | [], _, _, K, fr, h => K fr h
  | d :: l, k, past, K, fr, h => ZzY fr d.o.guard = true ∧ (YVO fr d.o.guard = true → match d.o.op.nw with
        | some x => x.2.all (wrOk x.1) = true ∧ (AB.blk x.1 true x.2).ok (qOk len0 h.length (h.length + 1) d.anc past) = true ∧ wpD T len0 l (k + 1) (⟨k, h.length, h.length + 1, [], []⟩ :: past) K (put fr d.o.dst (.p h.length 0)) (h ++ [.blk x.1 true x.2])
        | none => match d.o.op.mk with
        | .free => ∃ v h', opR T d.o.op fr h = some (v, h') ∧ v.ok (qOk len0 0 0 d.anc past) = true ∧ wpD T len0 l (k + 1) past K (put fr d.o.dst v) h
        | .ld x => ∃ v h', opR T d.o.op fr h = some (v, h') ∧ (if past.all (qUm len0 d.anc past []) = true then True else past.all (XOE d.anc (idOf (x.ev fr)) []) = true) ∧ (x.ev fr).ok (qOk len0 0 0 d.anc past) = true ∧ v.ok (qOk len0 0 0 d.anc past) = true ∧ wpD T len0 l (k + 1) (⟨k, 0, 0, idOf (x.ev fr), []⟩ :: past) K (put fr d.o.dst v) h
        | _ => Msk T len0 k d.anc d.o.op past fr h fun v hh pt => wpD T len0 l (k + 1) (pt :: past) K (put fr d.o.dst v) hh) ∧
      (YVO fr d.o.guard = false → wpD T len0 l (k + 1) past K (put fr d.o.dst (.tu [])) h)
theorem ZD1 {len0 anc n : Nat} {past : List Pt} {ws : List Nat} {p : Pt} (e : qUm len0 anc past ws p = true) : XOE anc (seen len0 anc past n) ws p = true := by
 unfold qUm at e
 unfold XOE
 split
 ·rfl
 ·rename_i hb
  simp only [hb, Bool.false_or, Bool.and_eq_true, List.all_eq_true, Bool.not_eq_true', Bool.or_eq_true, Nat.ble_eq] at e
  obtain ⟨⟨e1, e2⟩, e3⟩ := e
  simp only [Bool.and_eq_true, List.all_eq_true, Bool.not_eq_true', List.mem_append]
  refine ⟨fun id hid => ?_, fun id hid => (e3 id hid).2⟩
  rcases hid with hid | hid
  ·unfold seen at hid
   obtain ⟨_, hq⟩ := List.mem_filter.1 hid
   refine YLl.2 ⟨fun hw => ?_, fun ⟨h1, h2⟩ => ?_⟩
   ·rw [e1 id hw] at hq
    cases hq
   ·rcases e2 with e2 | ⟨e2, e4⟩
    ·omega
    ·simp only [qOk, Bool.or_eq_true, Bool.and_eq_true, Nat.blt_eq, Nat.ble_eq, List.any_eq_true] at hq
     rcases hq with (hq | hq) | ⟨p', hp', hq⟩
     ·omega
     ·omega
     ·rcases e4 p' hp' with (h | h) | h
      ·rw [hq.1.1] at h
       cases h
      ·omega
      ·omega
  ·exact (e3 id hid).1
theorem zF4 {T : Env} {op : CO} (h : op.isCall = none) (fr : List AV) (hp : List AB) : opR T op fr hp = op.run (Opd.ev fr) hp := by
 unfold opR
 rw [h]
theorem KbI {op : CO} (h : op.mk = .free) : op.isCall = none := by cases op <;> first | rfl | cases h
theorem Q5k {op : CO} {x : Opd} (h : op.mk = .ld x) : ∃ n, op = .ld n x := by
 cases op <;> cases h
 exact ⟨_, rfl⟩
theorem X2T {q : Nat → Bool} {v : AV} {id off : Nat} (hv : v = .p id off) (h : v.ok q = true) : ∀ i ∈ idOf v, q i = true := by
 subst hv
 intro i hi
 simp only [idOf, List.mem_singleton] at hi
 subst hi
 exact h
theorem ZOJ {T : Env} {len0 : Nat} : ∀ (l : List DOp) {k : Nat} {past : List Pt} {K : List AV → List AB → Prop} {fr : List AV} {h : List AB}, wpD T len0 l k past K fr h → qim (opC T) len0 l k past K fr h
 | [], k, past, K, fr, h, e => e
 | d :: l, k, past, K, fr, h, e => by
  obtain ⟨h1, h3, h2⟩ := e
  refine ⟨h1, fun hw => ZOJ l (h2 hw), fun hw => ?_⟩
  have h4 := h3 hw
  split at h4
  ·rename_i x hx
   obtain ⟨q1, q2, q3⟩ := h4
   have hop := KA5 hx
   refine .inr (.inr ⟨[], [], .p h.length 0, YWe [] [] 0 h ++ [.blk x.1 true x.2], fun t ht => ?_, fun i hi => by simp at hi, List.all_eq_true.2 fun p _ => by unfold XOE; split <;> simp, ?_, ?_, ?_, fun id hid => by simp at hid, fun B hB => ?_, ?_⟩)
   ·rw [hop] at ht
    simp [CO.tmps] at ht
   ·unfold opC
    rw [hop, zF4 rfl]
    simp only [CO.run, newB]
    rw [if_pos q1, Xfl]
   ·rw [List.length_append, Xfl]; omega
   ·rw [List.length_append, Xfl]
    simp [AV.ok, qOk]
   ·rw [List.drop_left' (Xfl _ _ _ _), List.mem_singleton] at hB
    rw [hB, List.length_append, Xfl]
    exact q2
   ·have e2 : Yjq [] (YWe [] [] 0 h ++ [AB.blk x.1 true x.2]) 0 h = h ++ [.blk x.1 true x.2] := by
     refine List.ext_getElem? fun i => ?_
     rw [zcu]
     split
     ·rename_i hi
      rw [if_neg (by simp), List.getElem?_append_left hi]
     ·rename_i hi
      rw [Nat.zero_add, List.getElem?_append_right (by rw [Xfl]; omega), List.getElem?_append_right (by omega), Xfl]
    rw [e2, List.length_append, Xfl]
    exact ZOJ l q3
  split at h4
  ·rename_i hm
   obtain ⟨v, h', q1, q3, q4⟩ := h4
   rw [zF4 (KbI hm), Q6y hm] at q1
   obtain ⟨v', hv', e'⟩ := Option.map_eq_some_iff.1 q1
   cases e'
   refine .inl ⟨hm, _, ?_, q3, ZOJ l q4⟩
   rw [Q6y hm, hv']
   rfl
  ·rename_i x hm
   obtain ⟨n, hop⟩ := Q5k hm
   obtain ⟨v, h', q1, q2, q2', q3, q4⟩ := h4
   rw [hop, zF4 rfl] at q1
   simp only [CO.run] at q1
   obtain ⟨v', hv', e'⟩ := Option.map_eq_some_iff.1 q1
   cases e'
   refine .inr (.inl ⟨n, x, v, hop, hv', List.all_eq_true.2 fun p hp => ?_, q3, ZOJ l q4⟩)
   by_cases qc : past.all (qUm len0 d.anc past []) = true
   case neg =>
    rw [if_neg qc] at q2
    exact List.all_eq_true.1 q2 p hp
   have hp' := ZD1 (n := h.length) (List.all_eq_true.1 qc p hp)
   unfold XOE at hp' ⊢
   split
   ·rfl
   ·rename_i hb
    rw [if_neg hb] at hp'
    simp only [Bool.and_eq_true, List.all_eq_true, Bool.not_eq_true', List.append_nil] at hp' ⊢
    refine ⟨fun id hid => hp'.1 id ?_, fun id hid => by simp at hid⟩
    obtain ⟨i0, o0, hx⟩ : ∃ i0 o0, x.ev fr = .p i0 o0 := by
     cases hx : x.ev fr with
     | p i0 o0 => exact ⟨i0, o0, rfl⟩
     | _ => rw [hx] at hv'; cases n <;> cases hv'
    have hlt : id < h.length := by
     rw [hx] at hid hv'
     simp only [idOf, List.mem_singleton] at hid
     subst hid
     cases n <;> simp only [ldV] at hv' <;> obtain ⟨xs, hxs, _⟩ := Option.bind_eq_some_iff.1 hv' <;> unfold JZy at hxs <;> split at hxs <;> first | (cases hxs; done) | (rename_i hh; exact (List.getElem?_eq_some_iff.1 hh).1)
    exact List.mem_filter.2 ⟨List.mem_range.2 hlt, X2T hx q2' id hid⟩
  ·obtain ⟨v, G, q1, q2, q3, q4, q5, q6, q7, q8, q9, q10⟩ := h4
   refine .inr (.inr ⟨_, _, v, G, fun t ht => ?_, fun i hi => ?_, List.all_eq_true.2 fun p hp => ZD1 (List.all_eq_true.1 q3 p hp), q5, q6, q7, fun id hid => ?_, fun B hB => List.all_eq_true.1 q9 B hB, ZOJ l q10⟩)
   ·obtain ⟨j, hj⟩ := List.mem_iff_getElem?.1 ht
    exact K7j.1 q1 j _ (by rw [List.getElem?_map, hj]; rfl)
   ·have hlt : i < h.length := by
     rcases List.mem_append.1 hi with hi | hi
     ·unfold seen at hi
      exact List.mem_range.1 (List.mem_filter.1 hi).1
     ·exact of_decide_eq_true (List.all_eq_true.1 q4 i hi)
    exact ⟨h[i], List.getElem?_eq_getElem hlt, q2 i _ (List.getElem?_eq_getElem hlt)⟩
   ·have := List.all_eq_true.1 q8 id hid
    rw [List.getD_eq_getElem?_getD] at this
    exact this
def smT (T : Env) : Sm := ⟨opC T, fun ds K fr h => wpD T h.length ds 0 [] K fr h⟩
theorem QLb {P : Program} (hm : P.follows .mixedOrders = true) {T : Env} (hT : T.Ok P) : Fits P (smT T) := ⟨Z8o hT, fun e =>
 let ⟨fr', h', q1, q2⟩ := DrwAt.of (Z8o hT) hm (ZOJ _ e)
 ⟨fr', h', q1, q2⟩⟩
inductive IT where
 | code (c : CC)
 | blk (id : Nat)
 | ops (l : List COper)
 | op (d : Option Nat) (r : Option (AV × List AB))
 | grd (v : AV) (t : Nat) (w : Bool) (d : Option Nat) (op : CO)
 | cnd (v : AV) (a b : CC)
 | drw (len0 k : Nat) (past : List Pt) (l : List DOp)
 | dgr (v : AV) (t : Nat) (w : Bool) (len0 k : Nat) (past : List Pt) (d : DOp) (l : List DOp)
 | dop (len0 k : Nat) (past : List Pt) (d : DOp) (l : List DOp)
 | dfr (r : Option (AV × List AB)) (len0 k anc : Nat) (past : List Pt) (d : Option Nat) (l : List DOp)
 | dld (r : Option (AV × List AB)) (x : AV) (len0 k anc : Nat) (past : List Pt) (d : Option Nat) (l : List DOp)
 | dmk (ws : List Nat) (vs : List AV) (r : Option (AV × List AB)) (len0 k anc : Nat) (past : List Pt) (d : Option Nat) (l : List DOp)
 | lpe (J : List AV → List AB → Prop)
structure Ctx where
 P : Program
 T : Env
 rb : Bool
 p : Nat
 K : XE → List AV → List AB → Prop
def gv (fr : List AV) (t : Nat) : AV := fr.getD t (.tu [])
def _root_.Go.Proofs.YthhghdebjiiliaaDoor.DOp.one (c : Ctx) (K : XE → List AV → List AB → Prop) (d : DOp) (len0 k : Nat) (past : List Pt) (l : List DOp) (fr : List AV) (h : List AB) : Prop :=
 match d.o.op.nw with
 | some x => x.2.all (wrOk x.1) = true ∧ (AB.blk x.1 true x.2).ok (qOk len0 h.length (h.length + 1) d.anc past) = true ∧ wpD c.T len0 l (k + 1) (⟨k, h.length, h.length + 1, [], []⟩ :: past) (K .n) (put fr d.o.dst (.p h.length 0)) (h ++ [.blk x.1 true x.2])
 | none => match d.o.op.mk with
 | .free => ∃ v h', opR c.T d.o.op fr h = some (v, h') ∧ v.ok (qOk len0 0 0 d.anc past) = true ∧ wpD c.T len0 l (k + 1) past (K .n) (put fr d.o.dst v) h
 | .ld x => ∃ v h', opR c.T d.o.op fr h = some (v, h') ∧ (if past.all (qUm len0 d.anc past []) = true then True else past.all (XOE d.anc (idOf (x.ev fr)) []) = true) ∧ (x.ev fr).ok (qOk len0 0 0 d.anc past) = true ∧ v.ok (qOk len0 0 0 d.anc past) = true ∧ wpD c.T len0 l (k + 1) (⟨k, 0, 0, idOf (x.ev fr), []⟩ :: past) (K .n) (put fr d.o.dst v) h
 | _ => Msk c.T len0 k d.anc d.o.op past fr h fun v hh pt => wpD c.T len0 l (k + 1) (pt :: past) (K .n) (put fr d.o.dst v) hh
def IT.wp (c : Ctx) (K : XE → List AV → List AB → Prop) : IT → List AV → List AB → Prop
 | .code a, fr, h => wpC c.P (smT c.T) c.rb c.p a K fr h
 | .blk _, fr, h => K .n fr h
 | .ops l, fr, h => Ql3 (opC c.T) l (K .n) fr h
 | .op d r, fr, _ => ∃ v h', r = some (v, h') ∧ K .n (put fr d v) h'
 | .grd v t w d oo, fr, h => gv fr t = v ∧ v.known = true ∧ (v = .b w → ∃ v' h', opR c.T oo fr h = some (v', h') ∧ K .n (put fr d v') h') ∧ (v ≠ .b w → K .n (put fr d (.tu [])) h)
 | .cnd v a b, fr, h => ∃ t, v = .b t ∧ (t = true → wpC c.P (smT c.T) c.rb c.p a K fr h) ∧ (t = false → wpC c.P (smT c.T) c.rb c.p b K fr h)
 | .drw len0 k past l, fr, h => wpD c.T len0 l k past (K .n) fr h
 | .dgr v t w len0 k past d l, fr, h => gv fr t = v ∧ v.known = true ∧ (v = .b w → d.one c K len0 k past l fr h) ∧ (v ≠ .b w → wpD c.T len0 l (k + 1) past (K .n) (put fr d.o.dst (.tu [])) h)
 | .dop len0 k past d l, fr, h => d.one c K len0 k past l fr h
 | .dfr r len0 k anc past d l, fr, h => ∃ v h', r = some (v, h') ∧ v.ok (qOk len0 0 0 anc past) = true ∧ wpD c.T len0 l (k + 1) past (K .n) (put fr d v) h
 | .dld r x len0 k anc past d l, fr, h => ∃ v h', r = some (v, h') ∧ (if past.all (qUm len0 anc past []) = true then True else past.all (XOE anc (idOf x) []) = true) ∧ x.ok (qOk len0 0 0 anc past) = true ∧ v.ok (qOk len0 0 0 anc past) = true ∧ wpD c.T len0 l (k + 1) (⟨k, 0, 0, idOf x, []⟩ :: past) (K .n) (put fr d v) h
 | .dmk ws vs r len0 k anc past d l, fr, h => ∃ v G, okL (fun i => decide (i < h.length)) vs = true ∧ HOk h ∧ past.all (qUm len0 anc past ws) = true ∧ (ws.all fun id => decide (id < h.length)) = true ∧ r = some (v, G) ∧ h.length ≤ G.length ∧ v.ok (qOk len0 h.length G.length anc past) = true ∧
   (ws.all fun id => (G.getD id .dead).ok (qOk len0 h.length G.length anc past)) = true ∧ ((G.drop h.length).all fun B => B.ok (qOk len0 h.length G.length anc past)) = true ∧
   wpD c.T len0 l (k + 1) (⟨k, h.length, G.length, seen len0 anc past h.length, ws⟩ :: past) (K .n) (put fr d v) (Yjq ws G 0 h)
 | .lpe J, fr, h => J fr h
def Lv (c : Ctx) : List IT → XE → List AV → List AB → Prop
 | [], x, fr, h => c.K x fr h
 | it :: k, .n, fr, h => it.wp c (Lv c k) fr h
 | .blk i :: k, .x j, fr, h => if j = i then Lv c k .n fr h else Lv c k (.x j) fr h
 | _ :: k, x, fr, h => Lv c k x fr h
def W (c : Ctx) (k : List IT) (fr : List AV) (h : List AB) : Prop := Lv c k .n fr h
section
variable {c : Ctx} {k : List IT} {fr : List AV} {h : List AB}
theorem Lv_n (it : IT) : Lv c (it :: k) .n fr h = it.wp c (Lv c k) fr h := by cases it <;> rfl
theorem Y2j (i j : Nat) : Lv c (.blk i :: k) (.x j) fr h = if j = i then W c k fr h else Lv c k (.x j) fr h := _root_.id rfl
theorem Lv_r (it : IT) : Lv c (it :: k) .r fr h = Lv c k .r fr h := by cases it <;> rfl
theorem JIa : ∀ (k : List IT), Lv c k .r fr h = c.K .r fr h
 | [] => rfl
 | it :: k => by rw [Lv_r, JIa k]
theorem KXI (a : CC) (j : Nat) : Lv c (.code a :: k) (.x j) fr h = Lv c k (.x j) fr h := _root_.id rfl
theorem Yv8 (a : List COper) (j : Nat) : Lv c (.ops a :: k) (.x j) fr h = Lv c k (.x j) fr h := _root_.id rfl
theorem JsW (J) (j : Nat) : Lv c (.lpe J :: k) (.x j) fr h = Lv c k (.x j) fr h := _root_.id rfl
theorem JY2 (j : Nat) : Lv c [] (.x j) fr h = c.K (.x j) fr h := _root_.id rfl
theorem qsb : W c [] fr h = c.K .n fr h := _root_.id rfl
theorem Q3N : W c (.code .skip :: k) fr h = W c k fr h := by simp only [W, Lv_n, IT.wp, wpC]
theorem Xko (i : Nat) (l : List COper) : W c (.code (.reg i l) :: k) fr h = W c (.ops l :: k) fr h := by simp only [W, Lv_n, IT.wp, wpC, smT]
theorem KBX (a b : CC) : W c (.code (.seq a b) :: k) fr h = W c (.code a :: .code b :: k) fr h := by
 simp only [W, Lv_n, IT.wp, wpC]
 congr 1
 funext x fr h
 cases x <;> rfl
theorem QUN (q : Opd) (a b : CC) : W c (.code (.cond q a b) :: k) fr h = W c (.cnd (q.ev fr) a b :: k) fr h := by simp only [W, Lv_n, IT.wp, wpC]
theorem YJJ (a b : CC) : W c (.cnd (.b true) a b :: k) fr h = W c (.code a :: k) fr h := by simp [W, Lv_n, IT.wp]
theorem KnJ (a b : CC) : W c (.cnd (.b false) a b :: k) fr h = W c (.code b :: k) fr h := by simp [W, Lv_n, IT.wp]
theorem zlx (t : Prop) [Decidable t] (a b : CC) : W c (.cnd (.b (decide t)) a b :: k) fr h = ((t → W c (.code a :: k) fr h) ∧ (¬ t → W c (.code b :: k) fr h)) := by
 by_cases ht : t <;> simp [W, Lv_n, IT.wp, ht]
theorem zSp (i : Nat) (a : CC) : W c (.code (.block i a) :: k) fr h = W c (.code a :: .blk i :: k) fr h := by
 simp only [W, Lv_n, IT.wp, wpC]
 congr 1
 funext x fr h
 cases x with
 | n => rfl
 | x j => simp only [Y2j, W]
 | r => rfl
theorem Zcq (i : Nat) : W c (.blk i :: k) fr h = W c k fr h := _root_.id rfl
theorem X7t (a : CC) : W c (.code (.scope a) :: k) fr h = W c (.code a :: k) fr h := by simp only [W, Lv_n, IT.wp, wpC]
theorem Yyv (j : Nat) : W c (.code (.exit j) :: k) fr h = Lv c k (.x j) fr h := by simp only [W, Lv_n, IT.wp, wpC]
theorem J20 : W c (.code .ret :: k) fr h = c.K .r fr h := by
 simp only [W, Lv_n, IT.wp, wpC]
 exact JIa k
theorem ZDY (J) : W c (.lpe J :: k) fr h = J fr h := _root_.id rfl
theorem ZeF : W c (.ops [] :: k) fr h = W c k fr h := by simp only [W, Lv_n, IT.wp, Ql3]
theorem W_op (d : Option Nat) (v : AV) (h' : List AB) : W c (.op d (some (v, h')) :: k) fr h = W c k (put fr d v) h' := by
 simp only [W, Lv_n, IT.wp, Option.some.injEq, Prod.mk.injEq]
 exact propext ⟨fun ⟨_, _, ⟨e1, e2⟩, q⟩ => by rw [e1, e2]; exact q, fun q => ⟨v, h', ⟨rfl, rfl⟩, q⟩⟩
theorem K14 (d : Option Nat) (t : Prop) [Decidable t] (r : AV × List AB) : W c (.op d (if t then some r else none) :: k) fr h = (t ∧ W c (.op d (some r) :: k) fr h) := by
 by_cases ht : t <;> simp [W, Lv_n, IT.wp, ht]
theorem XLj (d : Option Nat) (t : Prop) [Decidable t] (r : AV × List AB) : W c (.op d (if t then none else some r) :: k) fr h = (¬ t ∧ W c (.op d (some r) :: k) fr h) := by
 by_cases ht : t <;> simp [W, Lv_n, IT.wp, ht]
theorem KFv (d : Option Nat) : W c (.op d none :: k) fr h = False := by simp [W, Lv_n, IT.wp]
theorem z5f (d : Option Nat) (op : CO) (l : List COper) : W c (.ops (⟨d, none, op⟩ :: l) :: k) fr h = W c (.op d (opR c.T op fr h) :: .ops l :: k) fr h := by
 simp only [W, Lv_n, IT.wp, Ql3, ZzY, YVO, opC, true_and, true_implies, reduceCtorEq, false_implies, and_true]
theorem Y1x {t : Nat} {x : Bool} (hg : gv fr t = .b x) : fr[t]? = some (.b x) := by
 unfold gv at hg
 rw [List.getD_eq_getElem?_getD] at hg
 cases hq : fr[t]? with
 | none => rw [hq] at hg; cases hg
 | some v => rw [hq] at hg; exact congrArg some hg
theorem zqe {t : Nat} {v : AV} (hg : fr[t]? = some v) : fr.set t v = fr := by
 refine List.ext_getElem? fun i => ?_
 rw [List.getElem?_set]
 split
 ·rename_i e
  subst e
  obtain ⟨h1, h2⟩ := List.getElem?_eq_some_iff.1 hg
  rw [if_pos h1, hg]
 ·rfl
theorem JOV (d : Option Nat) (t : Nat) (w : Bool) (op : CO) (l : List COper) : W c (.ops (⟨d, some (t, w), op⟩ :: l) :: k) fr h = W c (.grd (gv fr t) t w d op :: .ops l :: k) fr h := by
 have e1 : ZzY fr (some (t, w)) = (gv fr t).known := by
  unfold ZzY gv
  rw [List.getD_eq_getElem?_getD]
  dsimp only
  cases fr[t]? <;> rfl
 have e2 : (YVO fr (some (t, w)) = true) = (gv fr t = .b w) := by
  unfold YVO gv
  rw [List.getD_eq_getElem?_getD]
  dsimp only
  cases fr[t]? with
  | none => simp
  | some v => cases v <;> simp
 have e3 : (YVO fr (some (t, w)) = false) = (gv fr t ≠ .b w) := by rw [← Bool.not_eq_true, e2]
 simp only [W, Lv_n, IT.wp, Ql3, opC, true_and, e1, e2, e3]
theorem K3W (t : Nat) (w : Bool) (d : Option Nat) (op : CO) : W c (.grd (.b w) t w d op :: k) fr h = (gv fr t = .b w ∧ W c (.op d (opR c.T op fr h) :: k) fr h) := by
 simp [W, Lv_n, IT.wp, AV.known]
theorem z87 (t : Nat) (d : Option Nat) (op : CO) : W c (.grd (.b true) t true d op :: k) fr h = (gv fr t = .b true ∧ W c (.op d (opR c.T op fr h) :: k) fr h) := K3W t true d op
theorem X7q (t : Nat) (d : Option Nat) (op : CO) : W c (.grd (.b false) t false d op :: k) fr h = (gv fr t = .b false ∧ W c (.op d (opR c.T op fr h) :: k) fr h) := K3W t false d op
theorem JOK (t : Nat) (d : Option Nat) (op : CO) : W c (.grd (.b true) t false d op :: k) fr h = (gv fr t = .b true ∧ W c k (put fr d (.tu [])) h) := by
 simp [W, Lv_n, IT.wp, AV.known]
theorem QF3 (t : Nat) (d : Option Nat) (op : CO) : W c (.grd (.b false) t true d op :: k) fr h = (gv fr t = .b false ∧ W c k (put fr d (.tu [])) h) := by
 simp [W, Lv_n, IT.wp, AV.known]
theorem KQf (t : Nat) (w : Bool) (d : Option Nat) (op : CO) : W c (.grd (.tu []) t w d op :: k) fr h = (gv fr t = .tu [] ∧ W c k (put fr d (.tu [])) h) := by
 simp [W, Lv_n, IT.wp, AV.known]
theorem XFA (x : Prop) [Decidable x] (t : Nat) (d : Option Nat) (op : CO) : W c (.grd (.b (decide x)) t true d op :: k) fr h = (gv fr t = .b (decide x) ∧ (x → W c (.op d (opR c.T op (fr.set t (.b true)) h) :: k) (fr.set t (.b true)) h) ∧ (¬ x → W c k (put (fr.set t (.b false)) d (.tu [])) h)) := by
 by_cases hg : gv fr t = .b (decide x)
 ·by_cases hx : x <;> simp only [hx, decide_true, decide_false] at hg ⊢ <;> simp [W, Lv_n, IT.wp, hg, zqe (Y1x hg), AV.known]
 ·simp [W, Lv_n, IT.wp, hg]
theorem YGT (x : Prop) [Decidable x] (t : Nat) (d : Option Nat) (op : CO) : W c (.grd (.b (decide x)) t false d op :: k) fr h = (gv fr t = .b (decide x) ∧ (x → W c k (put (fr.set t (.b true)) d (.tu [])) h) ∧ (¬ x → W c (.op d (opR c.T op (fr.set t (.b false)) h) :: k) (fr.set t (.b false)) h)) := by
 by_cases hg : gv fr t = .b (decide x)
 ·by_cases hx : x <;> simp only [hx, decide_true, decide_false] at hg ⊢ <;> simp [W, Lv_n, IT.wp, hg, zqe (Y1x hg), AV.known]
 ·simp [W, Lv_n, IT.wp, hg]
theorem qGN (t : Nat) (w : Bool) : ZzY fr (some (t, w)) = (gv fr t).known := by
 unfold ZzY gv
 rw [List.getD_eq_getElem?_getD]
 dsimp only
 cases fr[t]? <;> rfl
theorem zBb (t : Nat) (w : Bool) : (YVO fr (some (t, w)) = true) = (gv fr t = .b w) := by
 unfold YVO gv
 rw [List.getD_eq_getElem?_getD]
 dsimp only
 cases fr[t]? with
 | none => simp
 | some v => cases v <;> simp
theorem Qbg (t : Nat) (w : Bool) : (YVO fr (some (t, w)) = false) = (gv fr t ≠ .b w) := by rw [← Bool.not_eq_true, zBb]
variable {len0 n : Nat} {past : List Pt} {l : List DOp} {d : Option Nat} {anc us : Nat} {op : CO}
theorem ZGX (i : Nat) (ds : List DOp) : W c (.code (.drw i ds) :: k) fr h = W c (.drw h.length 0 [] ds :: k) fr h := by simp only [W, Lv_n, IT.wp, wpC, smT]
theorem YhU : W c (.drw len0 n past [] :: k) fr h = W c k fr h := by simp only [W, Lv_n, IT.wp, wpD]
theorem YOS : W c (.drw len0 n past (⟨⟨d, none, op⟩, anc, us⟩ :: l) :: k) fr h = W c (.dop len0 n past ⟨⟨d, none, op⟩, anc, us⟩ l :: k) fr h := by
 simp only [W, Lv_n, IT.wp, wpD, DOp.one, ZzY, YVO, true_and, true_implies, reduceCtorEq, false_implies, and_true]
theorem ZKY (t : Nat) (w : Bool) : W c (.drw len0 n past (⟨⟨d, some (t, w), op⟩, anc, us⟩ :: l) :: k) fr h = W c (.dgr (gv fr t) t w len0 n past ⟨⟨d, none, op⟩, anc, us⟩ l :: k) fr h := by
 simp only [W, Lv_n, IT.wp, wpD, DOp.one, qGN, zBb, Qbg, true_and]
theorem QSL (t : Nat) (d : DOp) : W c (.dgr (.b true) t true len0 n past d l :: k) fr h = (gv fr t = .b true ∧ W c (.dop len0 n past d l :: k) fr h) := by simp [W, Lv_n, IT.wp, AV.known]
theorem qwP (t : Nat) (d : DOp) : W c (.dgr (.b false) t false len0 n past d l :: k) fr h = (gv fr t = .b false ∧ W c (.dop len0 n past d l :: k) fr h) := by simp [W, Lv_n, IT.wp, AV.known]
theorem ZnH (t : Nat) (d : DOp) : W c (.dgr (.b true) t false len0 n past d l :: k) fr h = (gv fr t = .b true ∧ W c (.drw len0 (n + 1) past l :: k) (put fr d.o.dst (.tu [])) h) := by simp [W, Lv_n, IT.wp, AV.known]
theorem YBr (t : Nat) (d : DOp) : W c (.dgr (.b false) t true len0 n past d l :: k) fr h = (gv fr t = .b false ∧ W c (.drw len0 (n + 1) past l :: k) (put fr d.o.dst (.tu [])) h) := by simp [W, Lv_n, IT.wp, AV.known]
theorem QeR (t : Nat) (w : Bool) (d : DOp) : W c (.dgr (.tu []) t w len0 n past d l :: k) fr h = (gv fr t = .tu [] ∧ W c (.drw len0 (n + 1) past l :: k) (put fr d.o.dst (.tu [])) h) := by simp [W, Lv_n, IT.wp, AV.known]
theorem Km4 (x : Prop) [Decidable x] (t : Nat) (d : DOp) : W c (.dgr (.b (decide x)) t true len0 n past d l :: k) fr h = (gv fr t = .b (decide x) ∧ (x → W c (.dop len0 n past d l :: k) (fr.set t (.b true)) h) ∧ (¬ x → W c (.drw len0 (n + 1) past l :: k) (put (fr.set t (.b false)) d.o.dst (.tu [])) h)) := by
 by_cases hg : gv fr t = .b (decide x)
 ·by_cases hx : x <;> simp only [hx, decide_true, decide_false] at hg ⊢ <;> simp [W, Lv_n, IT.wp, hg, zqe (Y1x hg), AV.known]
 ·simp [W, Lv_n, IT.wp, hg]
theorem KVl (x : Prop) [Decidable x] (t : Nat) (d : DOp) : W c (.dgr (.b (decide x)) t false len0 n past d l :: k) fr h = (gv fr t = .b (decide x) ∧ (x → W c (.drw len0 (n + 1) past l :: k) (put (fr.set t (.b true)) d.o.dst (.tu [])) h) ∧ (¬ x → W c (.dop len0 n past d l :: k) (fr.set t (.b false)) h)) := by
 by_cases hg : gv fr t = .b (decide x)
 ·by_cases hx : x <;> simp only [hx, decide_true, decide_false] at hg ⊢ <;> simp [W, Lv_n, IT.wp, hg, zqe (Y1x hg), AV.known]
 ·simp [W, Lv_n, IT.wp, hg]
theorem X3E (g) (hm : op.mk = .free) : W c (.dop len0 n past ⟨⟨d, g, op⟩, anc, us⟩ l :: k) fr h = W c (.dfr (opR c.T op fr h) len0 n anc past d l :: k) fr h := by
 simp only [W, Lv_n, IT.wp, DOp.one, hm, zqh hm]
theorem ZL7 (g) (m : Option Nat) (x : Opd) : W c (.dop len0 n past ⟨⟨d, g, .ld m x⟩, anc, us⟩ l :: k) fr h = W c (.dld (opR c.T (.ld m x) fr h) (x.ev fr) len0 n anc past d l :: k) fr h := by
 simp only [W, Lv_n, IT.wp, DOp.one, CO.mk, CO.nw]
theorem KuD (g) (hm : op.isM = true) : W c (.dop len0 n past ⟨⟨d, g, op⟩, anc, us⟩ l :: k) fr h = W c (.dmk (wsC c.T (Opd.ev fr) op) (op.tmps.map (nthA fr)) (opR c.T op fr (YWe (seen len0 anc past h.length) (wsC c.T (Opd.ev fr) op) 0 h)) len0 n anc past d l :: k) fr h := by
 simp only [W, Lv_n, IT.wp, DOp.one, (KsW hm).1, (KsW hm).2, Msk]
theorem JXA (g) (f : Opd) (args : List Opd) : W c (.dop len0 n past ⟨⟨d, g, .call f args⟩, anc, us⟩ l :: k) fr h = W c (.dmk (wsC c.T (Opd.ev fr) (.call f args)) ((CO.tmps (.call f args)).map (nthA fr)) (opR c.T (.call f args) fr (YWe (seen len0 anc past h.length) (wsC c.T (Opd.ev fr) (.call f args)) 0 h)) len0 n anc past d l :: k) fr h := by
 simp only [W, Lv_n, IT.wp, DOp.one, CO.mk, CO.nw, Msk]
theorem zoe (g) (fl : Bool) (zs : List AV) : W c (.dop len0 n past ⟨⟨d, g, .new fl zs⟩, anc, us⟩ l :: k) fr h = (zs.all (wrOk fl) = true ∧ (AB.blk fl true zs).ok (qOk len0 h.length (h.length + 1) anc past) = true ∧ W c (.drw len0 (n + 1) (⟨n, h.length, h.length + 1, [], []⟩ :: past) l :: k) (put fr d (.p h.length 0)) (h ++ [.blk fl true zs])) := by
 simp only [W, Lv_n, IT.wp, DOp.one, CO.nw]
theorem ex2 {α β : Type} {Q : α → β → Prop} {v : α} {g : β} : (∃ v' g', some (v, g) = some (v', g') ∧ Q v' g') = Q v g := by
 simp only [Option.some.injEq, Prod.mk.injEq]
 exact propext ⟨fun ⟨_, _, ⟨e1, e2⟩, q⟩ => by rw [e1, e2]; exact q, fun q => ⟨v, g, ⟨rfl, rfl⟩, q⟩⟩
theorem Qw4 (v : AV) (h' : List AB) : W c (.dfr (some (v, h')) len0 n anc past d l :: k) fr h = (v.ok (qOk len0 0 0 anc past) = true ∧ W c (.drw len0 (n + 1) past l :: k) (put fr d v) h) := by
 simp only [W, Lv_n, IT.wp, ex2]
theorem K7G (t : Prop) [Decidable t] (r : AV × List AB) : W c (.dfr (if t then some r else none) len0 n anc past d l :: k) fr h = (t ∧ W c (.dfr (some r) len0 n anc past d l :: k) fr h) := by
 by_cases ht : t <;> simp [W, Lv_n, IT.wp, ht]
theorem KvZ (v : AV) (h' : List AB) (x : AV) : W c (.dld (some (v, h')) x len0 n anc past d l :: k) fr h = ((if past.all (qUm len0 anc past []) = true then True else past.all (XOE anc (idOf x) []) = true) ∧ x.ok (qOk len0 0 0 anc past) = true ∧ v.ok (qOk len0 0 0 anc past) = true ∧ W c (.drw len0 (n + 1) (⟨n, 0, 0, idOf x, []⟩ :: past) l :: k) (put fr d v) h) := by
 simp only [W, Lv_n, IT.wp, ex2]
theorem Y3n (ws : List Nat) (vs : List AV) (v : AV) (G : List AB) : W c (.dmk ws vs (some (v, G)) len0 n anc past d l :: k) fr h = (okL (fun i => decide (i < h.length)) vs = true ∧ HOk h ∧ past.all (qUm len0 anc past ws) = true ∧ (ws.all fun id => decide (id < h.length)) = true ∧ h.length ≤ G.length ∧ v.ok (qOk len0 h.length G.length anc past) = true ∧
      (ws.all fun id => (G.getD id .dead).ok (qOk len0 h.length G.length anc past)) = true ∧ ((G.drop h.length).all fun B => B.ok (qOk len0 h.length G.length anc past)) = true ∧
      W c (.drw len0 (n + 1) (⟨n, h.length, G.length, seen len0 anc past h.length, ws⟩ :: past) l :: k) (put fr d v) (Yjq ws G 0 h)) := by
  simp only [W, Lv_n, IT.wp]
  refine propext ⟨fun ⟨v', G', q1, q2, q3, q4, q5, q⟩ => ?_, fun ⟨q1, q2, q3, q4, q⟩ => ⟨v, G, q1, q2, q3, q4, rfl, q⟩⟩
  cases q5
  exact ⟨q1, q2, q3, q4, q⟩
theorem Y4q (ws : List Nat) (vs : List AV) (t : Prop) [Decidable t] (r : AV × List AB) : W c (.dmk ws vs (if t then some r else none) len0 n anc past d l :: k) fr h = (t ∧ W c (.dmk ws vs (some r) len0 n anc past d l :: k) fr h) := by
 by_cases ht : t <;> simp [W, Lv_n, IT.wp, ht]
def Back (c : Ctx) (I : Nat → List AV → List AB → Prop) (n : Nat) (fr : List AV) (h : List AB) : Prop := ∃ m fr' h', m < n ∧ Bt c.P c.p fr h fr' h' ∧ I m fr' h'
theorem ZG6 {a : CC} (I : Nat → List AV → List AB → Prop) (n : Nat) (fr' : List AV) (h' : List AB) (hg : Bt c.P c.p fr h fr' h') (h0 : I n fr' h') (hs : ∀ n fr h, I n fr h → W c (.code a :: .lpe (Back c I n) :: k) fr h) : W c (.code (.loop a) :: k) fr h := by
 simp only [W, Lv_n, IT.wp, wpC]
 refine ⟨I, ⟨n, fr', h', hg, h0⟩, fun n fr h hi => ?_⟩
 have := hs n fr h hi
 simp only [W, Lv_n, IT.wp] at this
 refine cast ?_ this
 congr 1
 funext x fr h
 cases x <;> rfl
end
theorem FnAt.run {P : Program} (hm : P.follows .mixedOrders = true) {T : Env} (hT : T.Ok P) {g : Nat} {fn : Func} {cf : CF} (hf : P.funcs[g]? = some fn) (hc : qXD P fn = some cf) {args : List AV} {h : List AB} {a : AV} {h' : List AB}
  (w : okL (fun i => decide (i < h.length)) args = true → HOk h → W ⟨P, T, false, h.length, Fin P h.length cf.res a h'⟩ [.code cf.body] (args ++ List.replicate (cf.ntmps - args.length) (.tu [])) (h ++ [])) : FnAt P g args h a h' := by
 refine FnAt.fin (QLb hm hT) hf hc fun h1 h2 => ?_
 have := w h1 h2
 rw [List.append_nil] at this
 simp only [W, Lv_n, IT.wp] at this
 refine cast ?_ this
 congr 1
end Go.Proofs.YthhghdebjiiliaaDoor
end
