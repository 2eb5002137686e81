/- Part 14 of what the laws' proofs rest on. No condition. -/
import Derived.Test.YthllkjhommnocaaDoorPb13
set_option linter.all false
section
namespace Go.Proofs.YthllkjhommnocaaDoor
open Go.RowKit
structure Con where
 n : Nat
 f : List AV → List AB → Option (AV × List AB)
 ws : List AV → List Nat := fun _ => []
abbrev Tab := List Con
def Tab.at : Tab → Nat → List AV → List AB → Option (AV × List AB)
 | [], _, _, _ => none
 | c :: l, g, a, h => if c.n = g then c.f a h else Tab.at l g a h
def Tab.ws : Tab → Nat → List AV → List Nat
 | [], _, _ => []
 | c :: l, g, a => if c.n = g then c.ws a else Tab.ws l g a
theorem Tab.at_nil (g : Nat) (a : List AV) (h : List AB) : Tab.at [] g a h = none := by rw [Tab.at]
theorem Tab.at_cons (c : Con) (g : Nat) (l : Tab) (a : List AV) (h : List AB) : Tab.at (c :: l) g a h = if c.n = g then c.f a h else Tab.at l g a h := by rw [Tab.at]
theorem Tab.ws_nil (g : Nat) (a : List AV) : Tab.ws [] g a = [] := by rw [Tab.ws]
theorem Tab.ws_cons (c : Con) (g : Nat) (l : Tab) (a : List AV) : Tab.ws (c :: l) g a = if c.n = g then c.ws a else Tab.ws l g a := by rw [Tab.ws]
def Spec (P : Program) (g : Nat) (f : List AV → List AB → Option (AV × List AB)) : Prop := ∀ args h v h', f args h = some (v, h') → FnC P g args h v h'
def JCi (P : Program) (id : Nat) (f : List AV → List AB → Option (AV × List AB)) : Prop := ∀ args h v h', f args h = some (v, h') → Q1m P id args h v h'
structure Env where
 fns : Tab
 rds : Tab
def Qkp (S : Nat → (List AV → List AB → Option (AV × List AB)) → Prop) : Tab → Prop
 | [] => True
 | c :: l => S c.n c.f ∧ Qkp S l
theorem Tab.at_ok {S : Nat → (List AV → List AB → Option (AV × List AB)) → Prop} {R : Nat → List AV → List AB → AV → List AB → Prop} (hS : ∀ n f, S n f → ∀ a h v h', f a h = some (v, h') → R n a h v h') : ∀ (l : Tab), Qkp S l → ∀ g a h v h', l.at g a h = some (v, h') → R g a h v h'
 | [], _, g, a, h, v, h', e => by rw [Tab.at] at e; cases e
 | c :: l, ok, g, a, h, v, h', e => by
  rw [Tab.at] at e
  split at e
  ·rename_i hn
   subst hn
   exact hS c.n c.f ok.1 a h v h' e
  ·exact Tab.at_ok hS l ok.2 g a h v h' e
structure Env.Ok (P : Program) (T : Env) : Prop where
 fns : Qkp (Spec P) T.fns
 rds : Qkp (JCi P) T.rds
def QPB (T : Env) (f : AV) (args : List AV) (h : List AB) : Option (AV × List AB) :=
 match f with
 | .f (.func g) fst cap => T.fns.at g (fst ++ args ++ cap) h
 | .y id => T.rds.at id args h
 | _ => none
def opR (T : Env) (op : CO) (fr : List AV) (h : List AB) : Option (AV × List AB) :=
 match op.isCall with
 | some (f, args) => QPB T (f.ev fr) (args.map (Opd.ev fr)) h
 | none => op.run (Opd.ev fr) h
def opC (T : Env) (op : CO) (fr : List AV) (h : List AB) (v : AV) (h' : List AB) : Prop := opR T op fr h = some (v, h')
section
variable {P : Program}
theorem Z8o {T : Env} (hT : T.Ok P) : XBD P (opC T) := by
 intro op fr h v h' e
 unfold opC opR at e
 unfold OpAt
 split at e
 ·rename_i f args hc
  rw [hc]
  dsimp only
  unfold QPB at e
  unfold KGv
  split at e
  ·rename_i g fst cap hf
   rw [hf]
   exact Tab.at_ok (S := Spec P) (R := FnC P) (fun n f hs => hs) _ hT.fns _ _ _ _ _ e
  ·rename_i id hf
   rw [hf]
   exact Tab.at_ok (S := JCi P) (R := Q1m P) (fun n f hs => hs) _ hT.rds _ _ _ _ _ e
  ·cases e
 ·rename_i hc
  rw [hc]
  exact e
end
def seen (len0 anc : Nat) (past : List Pt) (n : Nat) : List Nat := (List.range n).filter (qOk len0 0 0 anc past)
def wsC (T : Env) (ev : Opd → AV) : CO → List Nat
 | .call f args => match ev f with
  | .f (.func g) fst cap => T.fns.ws g (fst ++ args.map ev ++ cap)
  | .y id => T.rds.ws id (args.map ev)
  | _ => []
 | .st _ x _ => idOf (ev x)
 | .app _ _ _ _ s _ => idOf (ev s)
 | .cpy _ _ d _ => idOf (ev d)
 | .clr _ x => idOf (ev x)
 | .nxt x => idOf (ev x)
 | .s2s x => idOf (ev x)
 | .mup _ _ x _ _ => idOf (ev x)
 | .mdl _ _ x _ => idOf (ev x)
 | .mnx x => idOf (ev x)
 | _ => []
def qUm (len0 anc : Nat) (past : List Pt) (ws : List Nat) (p : Pt) : Bool :=
 bit p.k anc || (p.ws.all (fun id => !qOk len0 0 0 anc past id) && (Nat.ble p.hi p.lo || (Nat.ble len0 p.lo && past.all fun p' => !bit p'.k anc || Nat.ble p'.hi p.lo || Nat.ble p.hi p'.lo)) && ws.all fun id => !X72 p id && !memN id (p.rs ++ p.ws))
def Msk (T : Env) (len0 k anc : Nat) (op : CO) (past : List Pt) (fr : List AV) (h : List AB) (Kt : AV → List AB → Pt → Prop) : Prop :=
 ∃ v G, okL (fun i => decide (i < h.length)) (op.tmps.map (nthA fr)) = true ∧ HOk h ∧ past.all (qUm len0 anc past (wsC T (Opd.ev fr) op)) = true ∧ ((wsC T (Opd.ev fr) op).all fun id => decide (id < h.length)) = true ∧
  opR T op fr (YWe (seen len0 anc past h.length) (wsC T (Opd.ev fr) op) 0 h) = some (v, G) ∧ h.length ≤ G.length ∧ v.ok (qOk len0 h.length G.length anc past) = true ∧
  ((wsC T (Opd.ev fr) op).all fun id => (G.getD id .dead).ok (qOk len0 h.length G.length anc past)) = true ∧ ((G.drop h.length).all fun B => B.ok (qOk len0 h.length G.length anc past)) = true ∧
  Kt v (Yjq (wsC T (Opd.ev fr) op) G 0 h) ⟨k, h.length, G.length, seen len0 anc past h.length, wsC T (Opd.ev fr) op⟩
def _root_.Go.Proofs.YthllkjhommnocaaDoor.CO.nw : CO → Option (Bool × List AV)
 | .new fl zs => some (fl, zs)
 | _ => none
def _root_.Go.Proofs.YthllkjhommnocaaDoor.CO.isM : CO → Bool
 | .new _ _ => false
 | op => match op.mk with
  | .mem => true
  | _ => false
theorem KsW {op : CO} (h : op.isM = true) : op.mk = .mem ∧ op.nw = none := by cases op <;> first | exact ⟨rfl, rfl⟩ | (simp [CO.isM, CO.mk] at h)
theorem zqh {op : CO} (h : op.mk = .free) : op.nw = none := by cases op <;> first | rfl | (simp [CO.mk] at h)
theorem KA5 {op : CO} {x : Bool × List AV} (h : op.nw = some x) : op = .new x.1 x.2 := by
 cases op <;> first | (simp [CO.nw] at h; done) | (injection h with h; subst h; rfl)
def wpD (T : Env) (len0 : Nat) : List DOp → Nat → List Pt → (List AV → List AB → Prop) → List AV → List AB → Prop
  | [], _, _, K, fr, h => K fr h
  | d :: l, k, past, K, fr, h => ZzY fr d.o.guard = true ∧ (YVO fr d.o.guard = true → match d.o.op.nw with
        | some x => x.2.all (wrOk x.1) = true ∧ (AB.blk x.1 true x.2).ok (qOk len0 h.length (h.length + 1) d.anc past) = true ∧ wpD T len0 l (k + 1) (⟨k, h.length, h.length + 1, [], []⟩ :: past) K (put fr d.o.dst (.p h.length 0)) (h ++ [.blk x.1 true x.2])
        | none => match d.o.op.mk with
        | .free => ∃ v h', opR T d.o.op fr h = some (v, h') ∧ v.ok (qOk len0 0 0 d.anc past) = true ∧ wpD T len0 l (k + 1) past K (put fr d.o.dst v) h
        | .ld x => ∃ v h', opR T d.o.op fr h = some (v, h') ∧ (if past.all (qUm len0 d.anc past []) = true then True else past.all (XOE d.anc (idOf (x.ev fr)) []) = true) ∧ (x.ev fr).ok (qOk len0 0 0 d.anc past) = true ∧ v.ok (qOk len0 0 0 d.anc past) = true ∧ wpD T len0 l (k + 1) (⟨k, 0, 0, idOf (x.ev fr), []⟩ :: past) K (put fr d.o.dst v) h
        | _ => Msk T len0 k d.anc d.o.op past fr h fun v hh pt => wpD T len0 l (k + 1) (pt :: past) K (put fr d.o.dst v) hh) ∧
      (YVO fr d.o.guard = false → wpD T len0 l (k + 1) past K (put fr d.o.dst (.tu [])) h)
theorem ZD1 {len0 anc n : Nat} {past : List Pt} {ws : List Nat} {p : Pt} (e : qUm len0 anc past ws p = true) : XOE anc (seen len0 anc past n) ws p = true := by
 unfold qUm at e
 unfold XOE
 split
 ·rfl
 ·rename_i hb
  simp only [hb, Bool.false_or, Bool.and_eq_true, List.all_eq_true, Bool.not_eq_true', Bool.or_eq_true, Nat.ble_eq] at e
  obtain ⟨⟨e1, e2⟩, e3⟩ := e
  simp only [Bool.and_eq_true, List.all_eq_true, Bool.not_eq_true', List.mem_append]
  refine ⟨fun id hid => ?_, fun id hid => (e3 id hid).2⟩
  rcases hid with hid | hid
  ·unfold seen at hid
   obtain ⟨_, hq⟩ := List.mem_filter.1 hid
   refine YLl.2 ⟨fun hw => ?_, fun ⟨h1, h2⟩ => ?_⟩
   ·rw [e1 id hw] at hq
    cases hq
   ·rcases e2 with e2 | ⟨e2, e4⟩
    ·omega
    ·simp only [qOk, Bool.or_eq_true, Bool.and_eq_true, Nat.blt_eq, Nat.ble_eq, List.any_eq_true] at hq
     rcases hq with (hq | hq) | ⟨p', hp', hq⟩
     ·omega
     ·omega
     ·rcases e4 p' hp' with (h | h) | h
      ·rw [hq.1.1] at h
       cases h
      ·omega
      ·omega
  ·exact (e3 id hid).1
theorem zF4 {T : Env} {op : CO} (h : op.isCall = none) (fr : List AV) (hp : List AB) : opR T op fr hp = op.run (Opd.ev fr) hp := by
 unfold opR
 rw [h]
theorem KbI {op : CO} (h : op.mk = .free) : op.isCall = none := by cases op <;> first | rfl | cases h
theorem Q5k {op : CO} {x : Opd} (h : op.mk = .ld x) : ∃ n, op = .ld n x := by
 cases op <;> cases h
 exact ⟨_, rfl⟩
theorem X2T {q : Nat → Bool} {v : AV} {id off : Nat} (hv : v = .p id off) (h : v.ok q = true) : ∀ i ∈ idOf v, q i = true := by
 subst hv
 intro i hi
 simp only [idOf, List.mem_singleton] at hi
 subst hi
 exact h
theorem ZOJ {T : Env} {len0 : Nat} : ∀ (l : List DOp) {k : Nat} {past : List Pt} {K : List AV → List AB → Prop} {fr : List AV} {h : List AB}, wpD T len0 l k past K fr h → qim (opC T) len0 l k past K fr h
 | [], k, past, K, fr, h, e => e
 | d :: l, k, past, K, fr, h, e => by
  obtain ⟨h1, h3, h2⟩ := e
  refine ⟨h1, fun hw => ZOJ l (h2 hw), fun hw => ?_⟩
  have h4 := h3 hw
  split at h4
  ·rename_i x hx
   obtain ⟨q1, q2, q3⟩ := h4
   have hop := KA5 hx
   refine .inr (.inr ⟨[], [], .p h.length 0, YWe [] [] 0 h ++ [.blk x.1 true x.2], fun t ht => ?_, fun i hi => by simp at hi, List.all_eq_true.2 fun p _ => by unfold XOE; split <;> simp, ?_, ?_, ?_, fun id hid => by simp at hid, fun B hB => ?_, ?_⟩)
   ·rw [hop] at ht
    simp [CO.tmps] at ht
   ·unfold opC
    rw [hop, zF4 rfl]
    simp only [CO.run, newB]
    rw [if_pos q1, Xfl]
   ·rw [List.length_append, Xfl]; omega
   ·rw [List.length_append, Xfl]
    simp [AV.ok, qOk]
   ·rw [List.drop_left' (Xfl _ _ _ _), List.mem_singleton] at hB
    rw [hB, List.length_append, Xfl]
    exact q2
   ·have e2 : Yjq [] (YWe [] [] 0 h ++ [AB.blk x.1 true x.2]) 0 h = h ++ [.blk x.1 true x.2] := by
     refine List.ext_getElem? fun i => ?_
     rw [zcu]
     split
     ·rename_i hi
      rw [if_neg (by simp), List.getElem?_append_left hi]
     ·rename_i hi
      rw [Nat.zero_add, List.getElem?_append_right (by rw [Xfl]; omega), List.getElem?_append_right (by omega), Xfl]
    rw [e2, List.length_append, Xfl]
    exact ZOJ l q3
  split at h4
  ·rename_i hm
   obtain ⟨v, h', q1, q3, q4⟩ := h4
   rw [zF4 (KbI hm), Q6y hm] at q1
   obtain ⟨v', hv', e'⟩ := Option.map_eq_some_iff.1 q1
   cases e'
   refine .inl ⟨hm, _, ?_, q3, ZOJ l q4⟩
   rw [Q6y hm, hv']
   rfl
  ·rename_i x hm
   obtain ⟨n, hop⟩ := Q5k hm
   obtain ⟨v, h', q1, q2, q2', q3, q4⟩ := h4
   rw [hop, zF4 rfl] at q1
   simp only [CO.run] at q1
   obtain ⟨v', hv', e'⟩ := Option.map_eq_some_iff.1 q1
   cases e'
   refine .inr (.inl ⟨n, x, v, hop, hv', List.all_eq_true.2 fun p hp => ?_, q3, ZOJ l q4⟩)
   by_cases qc : past.all (qUm len0 d.anc past []) = true
   case neg =>
    rw [if_neg qc] at q2
    exact List.all_eq_true.1 q2 p hp
   have hp' := ZD1 (n := h.length) (List.all_eq_true.1 qc p hp)
   unfold XOE at hp' ⊢
   split
   ·rfl
   ·rename_i hb
    rw [if_neg hb] at hp'
    simp only [Bool.and_eq_true, List.all_eq_true, Bool.not_eq_true', List.append_nil] at hp' ⊢
    refine ⟨fun id hid => hp'.1 id ?_, fun id hid => by simp at hid⟩
    obtain ⟨i0, o0, hx⟩ : ∃ i0 o0, x.ev fr = .p i0 o0 := by
     cases hx : x.ev fr with
     | p i0 o0 => exact ⟨i0, o0, rfl⟩
     | _ => rw [hx] at hv'; cases n <;> cases hv'
    have hlt : id < h.length := by
     rw [hx] at hid hv'
     simp only [idOf, List.mem_singleton] at hid
     subst hid
     cases n <;> simp only [ldV] at hv' <;> obtain ⟨xs, hxs, _⟩ := Option.bind_eq_some_iff.1 hv' <;> unfold JZy at hxs <;> split at hxs <;> first | (cases hxs; done) | (rename_i hh; exact (List.getElem?_eq_some_iff.1 hh).1)
    exact List.mem_filter.2 ⟨List.mem_range.2 hlt, X2T hx q2' id hid⟩
  ·obtain ⟨v, G, q1, q2, q3, q4, q5, q6, q7, q8, q9, q10⟩ := h4
   refine .inr (.inr ⟨_, _, v, G, fun t ht => ?_, fun i hi => ?_, List.all_eq_true.2 fun p hp => ZD1 (List.all_eq_true.1 q3 p hp), q5, q6, q7, fun id hid => ?_, fun B hB => List.all_eq_true.1 q9 B hB, ZOJ l q10⟩)
   ·obtain ⟨j, hj⟩ := List.mem_iff_getElem?.1 ht
    exact K7j.1 q1 j _ (by rw [List.getElem?_map, hj]; rfl)
   ·have hlt : i < h.length := by
     rcases List.mem_append.1 hi with hi | hi
     ·unfold seen at hi
      exact List.mem_range.1 (List.mem_filter.1 hi).1
     ·exact of_decide_eq_true (List.all_eq_true.1 q4 i hi)
    exact ⟨h[i], List.getElem?_eq_getElem hlt, q2 i _ (List.getElem?_eq_getElem hlt)⟩
   ·have := List.all_eq_true.1 q8 id hid
    rw [List.getD_eq_getElem?_getD] at this
    exact this
theorem JhH {T : Env} {len0 : Nat} : ∀ (l : List DOp) {k : Nat} {past : List Pt} {K K' : List AV → List AB → Prop} (_ : ∀ fr h, K fr h → K' fr h) {fr : List AV} {h : List AB}, wpD T len0 l k past K fr h → wpD T len0 l k past K' fr h
 | [], _, _, _, _, hk, _, _, e => hk _ _ e
 | d :: l, k, past, K, K', hk, fr, h, e => by
  obtain ⟨h1, h3, h2⟩ := e
  refine ⟨h1, fun hw => ?_, fun hw => JhH l hk (h2 hw)⟩
  have h4 := h3 hw
  split at h4
  ·obtain ⟨q1, q2, q3⟩ := h4
   exact ⟨q1, q2, JhH l hk q3⟩
  split at h4
  ·obtain ⟨v, h', q1, q2, q3⟩ := h4
   exact ⟨v, h', q1, q2, JhH l hk q3⟩
  ·obtain ⟨v, h', q1, q2, q3, q4, q5⟩ := h4
   exact ⟨v, h', q1, q2, q3, q4, JhH l hk q5⟩
  ·obtain ⟨v, G, q1, q2, q3, q4, q5, q6, q7, q8, q9, q10⟩ := h4
   exact ⟨v, G, q1, q2, q3, q4, q5, q6, q7, q8, q9, JhH l hk q10⟩
def smT (T : Env) : Sm := ⟨opC T, fun ds K fr h => wpD T h.length ds 0 [] K fr h⟩
theorem QLb {P : Program} (hm : P.follows .mixedOrders = true) {T : Env} (hT : T.Ok P) : Fits P (smT T) := ⟨Z8o hT, fun e =>
 let ⟨fr', h', q1, q2⟩ := DrwAt.of (Z8o hT) hm (ZOJ _ e)
 ⟨fr', h', q1, q2⟩⟩
inductive IT where
 | code (c : CC)
 | blk (id : Nat)
 | ops (l : List COper)
 | op (d : Option Nat) (r : Option (AV × List AB))
 | grd (v : AV) (t : Nat) (w : Bool) (d : Option Nat) (op : CO)
 | cnd (v : AV) (a b : CC)
 | drw (len0 k : Nat) (past : List Pt) (l : List DOp)
 | dgr (v : AV) (t : Nat) (w : Bool) (len0 k : Nat) (past : List Pt) (d : DOp) (l : List DOp)
 | dop (len0 k : Nat) (past : List Pt) (d : DOp) (l : List DOp)
 | dfr (r : Option (AV × List AB)) (len0 k anc : Nat) (past : List Pt) (d : Option Nat) (l : List DOp)
 | dld (r : Option (AV × List AB)) (x : AV) (len0 k anc : Nat) (past : List Pt) (d : Option Nat) (l : List DOp)
 | dmk (ws : List Nat) (vs : List AV) (r : Option (AV × List AB)) (len0 k anc : Nat) (past : List Pt) (d : Option Nat) (l : List DOp)
 | lpe (J : List AV → List AB → Prop)
structure Ctx where
 P : Program
 T : Env
 rb : Bool
 p : Nat
 K : XE → List AV → List AB → Prop
def gv (fr : List AV) (t : Nat) : AV := fr.getD t (.tu [])
def _root_.Go.Proofs.YthllkjhommnocaaDoor.DOp.one (c : Ctx) (K : XE → List AV → List AB → Prop) (d : DOp) (len0 k : Nat) (past : List Pt) (l : List DOp) (fr : List AV) (h : List AB) : Prop :=
 match d.o.op.nw with
 | some x => x.2.all (wrOk x.1) = true ∧ (AB.blk x.1 true x.2).ok (qOk len0 h.length (h.length + 1) d.anc past) = true ∧ wpD c.T len0 l (k + 1) (⟨k, h.length, h.length + 1, [], []⟩ :: past) (K .n) (put fr d.o.dst (.p h.length 0)) (h ++ [.blk x.1 true x.2])
 | none => match d.o.op.mk with
 | .free => ∃ v h', opR c.T d.o.op fr h = some (v, h') ∧ v.ok (qOk len0 0 0 d.anc past) = true ∧ wpD c.T len0 l (k + 1) past (K .n) (put fr d.o.dst v) h
 | .ld x => ∃ v h', opR c.T d.o.op fr h = some (v, h') ∧ (if past.all (qUm len0 d.anc past []) = true then True else past.all (XOE d.anc (idOf (x.ev fr)) []) = true) ∧ (x.ev fr).ok (qOk len0 0 0 d.anc past) = true ∧ v.ok (qOk len0 0 0 d.anc past) = true ∧ wpD c.T len0 l (k + 1) (⟨k, 0, 0, idOf (x.ev fr), []⟩ :: past) (K .n) (put fr d.o.dst v) h
 | _ => Msk c.T len0 k d.anc d.o.op past fr h fun v hh pt => wpD c.T len0 l (k + 1) (pt :: past) (K .n) (put fr d.o.dst v) hh
def IT.wp (c : Ctx) (K : XE → List AV → List AB → Prop) : IT → List AV → List AB → Prop
 | .code a, fr, h => wpC c.P (smT c.T) c.rb c.p a K fr h
 | .blk _, fr, h => K .n fr h
 | .ops l, fr, h => Ql3 (opC c.T) l (K .n) fr h
 | .op d r, fr, _ => ∃ v h', r = some (v, h') ∧ K .n (put fr d v) h'
 | .grd v t w d oo, fr, h => gv fr t = v ∧ v.known = true ∧ (v = .b w → ∃ v' h', opR c.T oo fr h = some (v', h') ∧ K .n (put fr d v') h') ∧ (v ≠ .b w → K .n (put fr d (.tu [])) h)
 | .cnd v a b, fr, h => ∃ t, v = .b t ∧ (t = true → wpC c.P (smT c.T) c.rb c.p a K fr h) ∧ (t = false → wpC c.P (smT c.T) c.rb c.p b K fr h)
 | .drw len0 k past l, fr, h => wpD c.T len0 l k past (K .n) fr h
 | .dgr v t w len0 k past d l, fr, h => gv fr t = v ∧ v.known = true ∧ (v = .b w → d.one c K len0 k past l fr h) ∧ (v ≠ .b w → wpD c.T len0 l (k + 1) past (K .n) (put fr d.o.dst (.tu [])) h)
 | .dop len0 k past d l, fr, h => d.one c K len0 k past l fr h
 | .dfr r len0 k anc past d l, fr, h => ∃ v h', r = some (v, h') ∧ v.ok (qOk len0 0 0 anc past) = true ∧ wpD c.T len0 l (k + 1) past (K .n) (put fr d v) h
 | .dld r x len0 k anc past d l, fr, h => ∃ v h', r = some (v, h') ∧ (if past.all (qUm len0 anc past []) = true then True else past.all (XOE anc (idOf x) []) = true) ∧ x.ok (qOk len0 0 0 anc past) = true ∧ v.ok (qOk len0 0 0 anc past) = true ∧ wpD c.T len0 l (k + 1) (⟨k, 0, 0, idOf x, []⟩ :: past) (K .n) (put fr d v) h
 | .dmk ws vs r len0 k anc past d l, fr, h => ∃ v G, okL (fun i => decide (i < h.length)) vs = true ∧ HOk h ∧ past.all (qUm len0 anc past ws) = true ∧ (ws.all fun id => decide (id < h.length)) = true ∧ r = some (v, G) ∧ h.length ≤ G.length ∧ v.ok (qOk len0 h.length G.length anc past) = true ∧
   (ws.all fun id => (G.getD id .dead).ok (qOk len0 h.length G.length anc past)) = true ∧ ((G.drop h.length).all fun B => B.ok (qOk len0 h.length G.length anc past)) = true ∧
   wpD c.T len0 l (k + 1) (⟨k, h.length, G.length, seen len0 anc past h.length, ws⟩ :: past) (K .n) (put fr d v) (Yjq ws G 0 h)
 | .lpe J, fr, h => J fr h
def Lv (c : Ctx) : List IT → XE → List AV → List AB → Prop
 | [], x, fr, h => c.K x fr h
 | it :: k, .n, fr, h => it.wp c (Lv c k) fr h
 | .blk i :: k, .x j, fr, h => if j = i then Lv c k .n fr h else Lv c k (.x j) fr h
 | _ :: k, x, fr, h => Lv c k x fr h
def W (c : Ctx) (k : List IT) (fr : List AV) (h : List AB) : Prop := Lv c k .n fr h
section
variable {c : Ctx} {k : List IT} {fr : List AV} {h : List AB}
theorem Lv_n (it : IT) : Lv c (it :: k) .n fr h = it.wp c (Lv c k) fr h := by cases it <;> rfl
theorem Y2j (i j : Nat) : Lv c (.blk i :: k) (.x j) fr h = if j = i then W c k fr h else Lv c k (.x j) fr h := _root_.id rfl
theorem Lv_r (it : IT) : Lv c (it :: k) .r fr h = Lv c k .r fr h := by cases it <;> rfl
theorem JIa : ∀ (k : List IT), Lv c k .r fr h = c.K .r fr h
 | [] => rfl
 | it :: k => by rw [Lv_r, JIa k]
theorem KXI (a : CC) (j : Nat) : Lv c (.code a :: k) (.x j) fr h = Lv c k (.x j) fr h := _root_.id rfl
theorem Yv8 (a : List COper) (j : Nat) : Lv c (.ops a :: k) (.x j) fr h = Lv c k (.x j) fr h := _root_.id rfl
theorem JsW (J) (j : Nat) : Lv c (.lpe J :: k) (.x j) fr h = Lv c k (.x j) fr h := _root_.id rfl
theorem JY2 (j : Nat) : Lv c [] (.x j) fr h = c.K (.x j) fr h := _root_.id rfl
theorem qsb : W c [] fr h = c.K .n fr h := _root_.id rfl
theorem Q3N : W c (.code .skip :: k) fr h = W c k fr h := by simp only [W, Lv_n, IT.wp, wpC]
theorem Xko (i : Nat) (l : List COper) : W c (.code (.reg i l) :: k) fr h = W c (.ops l :: k) fr h := by simp only [W, Lv_n, IT.wp, wpC, smT]
theorem KBX (a b : CC) : W c (.code (.seq a b) :: k) fr h = W c (.code a :: .code b :: k) fr h := by
 simp only [W, Lv_n, IT.wp, wpC]
 congr 1
 funext x fr h
 cases x <;> rfl
theorem QUN (q : Opd) (a b : CC) : W c (.code (.cond q a b) :: k) fr h = W c (.cnd (q.ev fr) a b :: k) fr h := by simp only [W, Lv_n, IT.wp, wpC]
theorem YJJ (a b : CC) : W c (.cnd (.b true) a b :: k) fr h = W c (.code a :: k) fr h := by simp [W, Lv_n, IT.wp]
theorem KnJ (a b : CC) : W c (.cnd (.b false) a b :: k) fr h = W c (.code b :: k) fr h := by simp [W, Lv_n, IT.wp]
theorem zlx (t : Prop) [Decidable t] (a b : CC) : W c (.cnd (.b (decide t)) a b :: k) fr h = ((t → W c (.code a :: k) fr h) ∧ (¬ t → W c (.code b :: k) fr h)) := by
 by_cases ht : t <;> simp [W, Lv_n, IT.wp, ht]
theorem zSp (i : Nat) (a : CC) : W c (.code (.block i a) :: k) fr h = W c (.code a :: .blk i :: k) fr h := by
 simp only [W, Lv_n, IT.wp, wpC]
 congr 1
 funext x fr h
 cases x with
 | n => rfl
 | x j => simp only [Y2j, W]
 | r => rfl
theorem Zcq (i : Nat) : W c (.blk i :: k) fr h = W c k fr h := _root_.id rfl
theorem X7t (a : CC) : W c (.code (.scope a) :: k) fr h = W c (.code a :: k) fr h := by simp only [W, Lv_n, IT.wp, wpC]
theorem Yyv (j : Nat) : W c (.code (.exit j) :: k) fr h = Lv c k (.x j) fr h := by simp only [W, Lv_n, IT.wp, wpC]
theorem J20 : W c (.code .ret :: k) fr h = c.K .r fr h := by
 simp only [W, Lv_n, IT.wp, wpC]
 exact JIa k
theorem ZDY (J) : W c (.lpe J :: k) fr h = J fr h := _root_.id rfl
theorem ZeF : W c (.ops [] :: k) fr h = W c k fr h := by simp only [W, Lv_n, IT.wp, Ql3]
theorem W_op (d : Option Nat) (v : AV) (h' : List AB) : W c (.op d (some (v, h')) :: k) fr h = W c k (put fr d v) h' := by
 simp only [W, Lv_n, IT.wp, Option.some.injEq, Prod.mk.injEq]
 exact propext ⟨fun ⟨_, _, ⟨e1, e2⟩, q⟩ => by rw [e1, e2]; exact q, fun q => ⟨v, h', ⟨rfl, rfl⟩, q⟩⟩
theorem K14 (d : Option Nat) (t : Prop) [Decidable t] (r : AV × List AB) : W c (.op d (if t then some r else none) :: k) fr h = (t ∧ W c (.op d (some r) :: k) fr h) := by
 by_cases ht : t <;> simp [W, Lv_n, IT.wp, ht]
theorem XLj (d : Option Nat) (t : Prop) [Decidable t] (r : AV × List AB) : W c (.op d (if t then none else some r) :: k) fr h = (¬ t ∧ W c (.op d (some r) :: k) fr h) := by
 by_cases ht : t <;> simp [W, Lv_n, IT.wp, ht]
theorem KFv (d : Option Nat) : W c (.op d none :: k) fr h = False := by simp [W, Lv_n, IT.wp]
theorem z5f (d : Option Nat) (op : CO) (l : List COper) : W c (.ops (⟨d, none, op⟩ :: l) :: k) fr h = W c (.op d (opR c.T op fr h) :: .ops l :: k) fr h := by
 simp only [W, Lv_n, IT.wp, Ql3, ZzY, YVO, opC, true_and, true_implies, reduceCtorEq, false_implies, and_true]
theorem Y1x {t : Nat} {x : Bool} (hg : gv fr t = .b x) : fr[t]? = some (.b x) := by
 unfold gv at hg
 rw [List.getD_eq_getElem?_getD] at hg
 cases hq : fr[t]? with
 | none => rw [hq] at hg; cases hg
 | some v => rw [hq] at hg; exact congrArg some hg
theorem zqe {t : Nat} {v : AV} (hg : fr[t]? = some v) : fr.set t v = fr := by
 refine List.ext_getElem? fun i => ?_
 rw [List.getElem?_set]
 split
 ·rename_i e
  subst e
  obtain ⟨h1, h2⟩ := List.getElem?_eq_some_iff.1 hg
  rw [if_pos h1, hg]
 ·rfl
theorem JOV (d : Option Nat) (t : Nat) (w : Bool) (op : CO) (l : List COper) : W c (.ops (⟨d, some (t, w), op⟩ :: l) :: k) fr h = W c (.grd (gv fr t) t w d op :: .ops l :: k) fr h := by
 have e1 : ZzY fr (some (t, w)) = (gv fr t).known := by
  unfold ZzY gv
  rw [List.getD_eq_getElem?_getD]
  dsimp only
  cases fr[t]? <;> rfl
 have e2 : (YVO fr (some (t, w)) = true) = (gv fr t = .b w) := by
  unfold YVO gv
  rw [List.getD_eq_getElem?_getD]
  dsimp only
  cases fr[t]? with
  | none => simp
  | some v => cases v <;> simp
 have e3 : (YVO fr (some (t, w)) = false) = (gv fr t ≠ .b w) := by rw [← Bool.not_eq_true, e2]
 simp only [W, Lv_n, IT.wp, Ql3, opC, true_and, e1, e2, e3]
theorem K3W (t : Nat) (w : Bool) (d : Option Nat) (op : CO) : W c (.grd (.b w) t w d op :: k) fr h = (gv fr t = .b w ∧ W c (.op d (opR c.T op fr h) :: k) fr h) := by
 simp [W, Lv_n, IT.wp, AV.known]
theorem z87 (t : Nat) (d : Option Nat) (op : CO) : W c (.grd (.b true) t true d op :: k) fr h = (gv fr t = .b true ∧ W c (.op d (opR c.T op fr h) :: k) fr h) := K3W t true d op
theorem X7q (t : Nat) (d : Option Nat) (op : CO) : W c (.grd (.b false) t false d op :: k) fr h = (gv fr t = .b false ∧ W c (.op d (opR c.T op fr h) :: k) fr h) := K3W t false d op
theorem JOK (t : Nat) (d : Option Nat) (op : CO) : W c (.grd (.b true) t false d op :: k) fr h = (gv fr t = .b true ∧ W c k (put fr d (.tu [])) h) := by
 simp [W, Lv_n, IT.wp, AV.known]
theorem QF3 (t : Nat) (d : Option Nat) (op : CO) : W c (.grd (.b false) t true d op :: k) fr h = (gv fr t = .b false ∧ W c k (put fr d (.tu [])) h) := by
 simp [W, Lv_n, IT.wp, AV.known]
theorem KQf (t : Nat) (w : Bool) (d : Option Nat) (op : CO) : W c (.grd (.tu []) t w d op :: k) fr h = (gv fr t = .tu [] ∧ W c k (put fr d (.tu [])) h) := by
 simp [W, Lv_n, IT.wp, AV.known]
theorem XFA (x : Prop) [Decidable x] (t : Nat) (d : Option Nat) (op : CO) : W c (.grd (.b (decide x)) t true d op :: k) fr h = (gv fr t = .b (decide x) ∧ (x → W c (.op d (opR c.T op (fr.set t (.b true)) h) :: k) (fr.set t (.b true)) h) ∧ (¬ x → W c k (put (fr.set t (.b false)) d (.tu [])) h)) := by
 by_cases hg : gv fr t = .b (decide x)
 ·by_cases hx : x <;> simp only [hx, decide_true, decide_false] at hg ⊢ <;> simp [W, Lv_n, IT.wp, hg, zqe (Y1x hg), AV.known]
 ·simp [W, Lv_n, IT.wp, hg]
theorem YGT (x : Prop) [Decidable x] (t : Nat) (d : Option Nat) (op : CO) : W c (.grd (.b (decide x)) t false d op :: k) fr h = (gv fr t = .b (decide x) ∧ (x → W c k (put (fr.set t (.b true)) d (.tu [])) h) ∧ (¬ x → W c (.op d (opR c.T op (fr.set t (.b false)) h) :: k) (fr.set t (.b false)) h)) := by
 by_cases hg : gv fr t = .b (decide x)
 ·by_cases hx : x <;> simp only [hx, decide_true, decide_false] at hg ⊢ <;> simp [W, Lv_n, IT.wp, hg, zqe (Y1x hg), AV.known]
 ·simp [W, Lv_n, IT.wp, hg]
theorem qGN (t : Nat) (w : Bool) : ZzY fr (some (t, w)) = (gv fr t).known := by
 unfold ZzY gv
 rw [List.getD_eq_getElem?_getD]
 dsimp only
 cases fr[t]? <;> rfl
theorem zBb (t : Nat) (w : Bool) : (YVO fr (some (t, w)) = true) = (gv fr t = .b w) := by
 unfold YVO gv
 rw [List.getD_eq_getElem?_getD]
 dsimp only
 cases fr[t]? with
 | none => simp
 | some v => cases v <;> simp
theorem Qbg (t : Nat) (w : Bool) : (YVO fr (some (t, w)) = false) = (gv fr t ≠ .b w) := by rw [← Bool.not_eq_true, zBb]
variable {len0 n : Nat} {past : List Pt} {l : List DOp} {d : Option Nat} {anc us : Nat} {op : CO}
theorem ZGX (i : Nat) (ds : List DOp) : W c (.code (.drw i ds) :: k) fr h = W c (.drw h.length 0 [] ds :: k) fr h := by simp only [W, Lv_n, IT.wp, wpC, smT]
theorem YhU : W c (.drw len0 n past [] :: k) fr h = W c k fr h := by simp only [W, Lv_n, IT.wp, wpD]
theorem YOS : W c (.drw len0 n past (⟨⟨d, none, op⟩, anc, us⟩ :: l) :: k) fr h = W c (.dop len0 n past ⟨⟨d, none, op⟩, anc, us⟩ l :: k) fr h := by
 simp only [W, Lv_n, IT.wp, wpD, DOp.one, ZzY, YVO, true_and, true_implies, reduceCtorEq, false_implies, and_true]
theorem ZKY (t : Nat) (w : Bool) : W c (.drw len0 n past (⟨⟨d, some (t, w), op⟩, anc, us⟩ :: l) :: k) fr h = W c (.dgr (gv fr t) t w len0 n past ⟨⟨d, none, op⟩, anc, us⟩ l :: k) fr h := by
 simp only [W, Lv_n, IT.wp, wpD, DOp.one, qGN, zBb, Qbg, true_and]
theorem QSL (t : Nat) (d : DOp) : W c (.dgr (.b true) t true len0 n past d l :: k) fr h = (gv fr t = .b true ∧ W c (.dop len0 n past d l :: k) fr h) := by simp [W, Lv_n, IT.wp, AV.known]
theorem qwP (t : Nat) (d : DOp) : W c (.dgr (.b false) t false len0 n past d l :: k) fr h = (gv fr t = .b false ∧ W c (.dop len0 n past d l :: k) fr h) := by simp [W, Lv_n, IT.wp, AV.known]
theorem ZnH (t : Nat) (d : DOp) : W c (.dgr (.b true) t false len0 n past d l :: k) fr h = (gv fr t = .b true ∧ W c (.drw len0 (n + 1) past l :: k) (put fr d.o.dst (.tu [])) h) := by simp [W, Lv_n, IT.wp, AV.known]
theorem YBr (t : Nat) (d : DOp) : W c (.dgr (.b false) t true len0 n past d l :: k) fr h = (gv fr t = .b false ∧ W c (.drw len0 (n + 1) past l :: k) (put fr d.o.dst (.tu [])) h) := by simp [W, Lv_n, IT.wp, AV.known]
theorem QeR (t : Nat) (w : Bool) (d : DOp) : W c (.dgr (.tu []) t w len0 n past d l :: k) fr h = (gv fr t = .tu [] ∧ W c (.drw len0 (n + 1) past l :: k) (put fr d.o.dst (.tu [])) h) := by simp [W, Lv_n, IT.wp, AV.known]
theorem Km4 (x : Prop) [Decidable x] (t : Nat) (d : DOp) : W c (.dgr (.b (decide x)) t true len0 n past d l :: k) fr h = (gv fr t = .b (decide x) ∧ (x → W c (.dop len0 n past d l :: k) (fr.set t (.b true)) h) ∧ (¬ x → W c (.drw len0 (n + 1) past l :: k) (put (fr.set t (.b false)) d.o.dst (.tu [])) h)) := by
 by_cases hg : gv fr t = .b (decide x)
 ·by_cases hx : x <;> simp only [hx, decide_true, decide_false] at hg ⊢ <;> simp [W, Lv_n, IT.wp, hg, zqe (Y1x hg), AV.known]
 ·simp [W, Lv_n, IT.wp, hg]
theorem KVl (x : Prop) [Decidable x] (t : Nat) (d : DOp) : W c (.dgr (.b (decide x)) t false len0 n past d l :: k) fr h = (gv fr t = .b (decide x) ∧ (x → W c (.drw len0 (n + 1) past l :: k) (put (fr.set t (.b true)) d.o.dst (.tu [])) h) ∧ (¬ x → W c (.dop len0 n past d l :: k) (fr.set t (.b false)) h)) := by
 by_cases hg : gv fr t = .b (decide x)
 ·by_cases hx : x <;> simp only [hx, decide_true, decide_false] at hg ⊢ <;> simp [W, Lv_n, IT.wp, hg, zqe (Y1x hg), AV.known]
 ·simp [W, Lv_n, IT.wp, hg]
theorem X3E (g) (hm : op.mk = .free) : W c (.dop len0 n past ⟨⟨d, g, op⟩, anc, us⟩ l :: k) fr h = W c (.dfr (opR c.T op fr h) len0 n anc past d l :: k) fr h := by
 simp only [W, Lv_n, IT.wp, DOp.one, hm, zqh hm]
theorem ZL7 (g) (m : Option Nat) (x : Opd) : W c (.dop len0 n past ⟨⟨d, g, .ld m x⟩, anc, us⟩ l :: k) fr h = W c (.dld (opR c.T (.ld m x) fr h) (x.ev fr) len0 n anc past d l :: k) fr h := by
 simp only [W, Lv_n, IT.wp, DOp.one, CO.mk, CO.nw]
theorem KuD (g) (hm : op.isM = true) : W c (.dop len0 n past ⟨⟨d, g, op⟩, anc, us⟩ l :: k) fr h = W c (.dmk (wsC c.T (Opd.ev fr) op) (op.tmps.map (nthA fr)) (opR c.T op fr (YWe (seen len0 anc past h.length) (wsC c.T (Opd.ev fr) op) 0 h)) len0 n anc past d l :: k) fr h := by
 simp only [W, Lv_n, IT.wp, DOp.one, (KsW hm).1, (KsW hm).2, Msk]
theorem JXA (g) (f : Opd) (args : List Opd) : W c (.dop len0 n past ⟨⟨d, g, .call f args⟩, anc, us⟩ l :: k) fr h = W c (.dmk (wsC c.T (Opd.ev fr) (.call f args)) ((CO.tmps (.call f args)).map (nthA fr)) (opR c.T (.call f args) fr (YWe (seen len0 anc past h.length) (wsC c.T (Opd.ev fr) (.call f args)) 0 h)) len0 n anc past d l :: k) fr h := by
 simp only [W, Lv_n, IT.wp, DOp.one, CO.mk, CO.nw, Msk]
theorem zoe (g) (fl : Bool) (zs : List AV) : W c (.dop len0 n past ⟨⟨d, g, .new fl zs⟩, anc, us⟩ l :: k) fr h = (zs.all (wrOk fl) = true ∧ (AB.blk fl true zs).ok (qOk len0 h.length (h.length + 1) anc past) = true ∧ W c (.drw len0 (n + 1) (⟨n, h.length, h.length + 1, [], []⟩ :: past) l :: k) (put fr d (.p h.length 0)) (h ++ [.blk fl true zs])) := by
 simp only [W, Lv_n, IT.wp, DOp.one, CO.nw]
theorem ex2 {α β : Type} {Q : α → β → Prop} {v : α} {g : β} : (∃ v' g', some (v, g) = some (v', g') ∧ Q v' g') = Q v g := by
 simp only [Option.some.injEq, Prod.mk.injEq]
 exact propext ⟨fun ⟨_, _, ⟨e1, e2⟩, q⟩ => by rw [e1, e2]; exact q, fun q => ⟨v, g, ⟨rfl, rfl⟩, q⟩⟩
theorem Qw4 (v : AV) (h' : List AB) : W c (.dfr (some (v, h')) len0 n anc past d l :: k) fr h = (v.ok (qOk len0 0 0 anc past) = true ∧ W c (.drw len0 (n + 1) past l :: k) (put fr d v) h) := by
 simp only [W, Lv_n, IT.wp, ex2]
theorem K7G (t : Prop) [Decidable t] (r : AV × List AB) : W c (.dfr (if t then some r else none) len0 n anc past d l :: k) fr h = (t ∧ W c (.dfr (some r) len0 n anc past d l :: k) fr h) := by
 by_cases ht : t <;> simp [W, Lv_n, IT.wp, ht]
theorem KvZ (v : AV) (h' : List AB) (x : AV) : W c (.dld (some (v, h')) x len0 n anc past d l :: k) fr h = ((if past.all (qUm len0 anc past []) = true then True else past.all (XOE anc (idOf x) []) = true) ∧ x.ok (qOk len0 0 0 anc past) = true ∧ v.ok (qOk len0 0 0 anc past) = true ∧ W c (.drw len0 (n + 1) (⟨n, 0, 0, idOf x, []⟩ :: past) l :: k) (put fr d v) h) := by
 simp only [W, Lv_n, IT.wp, ex2]
theorem Y3n (ws : List Nat) (vs : List AV) (v : AV) (G : List AB) : W c (.dmk ws vs (some (v, G)) len0 n anc past d l :: k) fr h = (okL (fun i => decide (i < h.length)) vs = true ∧ HOk h ∧ past.all (qUm len0 anc past ws) = true ∧ (ws.all fun id => decide (id < h.length)) = true ∧ h.length ≤ G.length ∧ v.ok (qOk len0 h.length G.length anc past) = true ∧
      (ws.all fun id => (G.getD id .dead).ok (qOk len0 h.length G.length anc past)) = true ∧ ((G.drop h.length).all fun B => B.ok (qOk len0 h.length G.length anc past)) = true ∧
      W c (.drw len0 (n + 1) (⟨n, h.length, G.length, seen len0 anc past h.length, ws⟩ :: past) l :: k) (put fr d v) (Yjq ws G 0 h)) := by
  simp only [W, Lv_n, IT.wp]
  refine propext ⟨fun ⟨v', G', q1, q2, q3, q4, q5, q⟩ => ?_, fun ⟨q1, q2, q3, q4, q⟩ => ⟨v, G, q1, q2, q3, q4, rfl, q⟩⟩
  cases q5
  exact ⟨q1, q2, q3, q4, q⟩
theorem Y4q (ws : List Nat) (vs : List AV) (t : Prop) [Decidable t] (r : AV × List AB) : W c (.dmk ws vs (if t then some r else none) len0 n anc past d l :: k) fr h = (t ∧ W c (.dmk ws vs (some r) len0 n anc past d l :: k) fr h) := by
 by_cases ht : t <;> simp [W, Lv_n, IT.wp, ht]
def Back (c : Ctx) (I : Nat → List AV → List AB → Prop) (n : Nat) (fr : List AV) (h : List AB) : Prop := ∃ m fr' h', m < n ∧ Bt c.P c.p fr h fr' h' ∧ I m fr' h'
theorem ZG6 {a : CC} (I : Nat → List AV → List AB → Prop) (n : Nat) (fr' : List AV) (h' : List AB) (hg : Bt c.P c.p fr h fr' h') (h0 : I n fr' h') (hs : ∀ n fr h, I n fr h → W c (.code a :: .lpe (Back c I n) :: k) fr h) : W c (.code (.loop a) :: k) fr h := by
 simp only [W, Lv_n, IT.wp, wpC]
 refine ⟨I, ⟨n, fr', h', hg, h0⟩, fun n fr h hi => ?_⟩
 have := hs n fr h hi
 simp only [W, Lv_n, IT.wp] at this
 refine cast ?_ this
 congr 1
 funext x fr h
 cases x <;> rfl
end
theorem FnAt.run {P : Program} (hm : P.follows .mixedOrders = true) {T : Env} (hT : T.Ok P) {g : Nat} {fn : Func} {cf : CF} (hf : P.funcs[g]? = some fn) (hc : qXD P fn = some cf) {args : List AV} {h : List AB} {a : AV} {h' : List AB}
  (w : okL (fun i => decide (i < h.length)) args = true → HOk h → W ⟨P, T, false, h.length, Fin P h.length cf.res a h'⟩ [.code cf.body] (args ++ List.replicate (cf.ntmps - args.length) (.tu [])) (h ++ [])) : FnAt P g args h a h' := by
 refine FnAt.fin (QLb hm hT) hf hc fun h1 h2 => ?_
 have := w h1 h2
 rw [List.append_nil] at this
 simp only [W, Lv_n, IT.wp] at this
 refine cast ?_ this
 congr 1
end Go.Proofs.YthllkjhommnocaaDoor
end
section
namespace Go.Proofs.YthllkjhommnocaaDoor
open Go.RowKit
section
variable {T : Env} {fr : List AV} {h : List AB}
theorem QiT (v : AV) : put fr none v = fr := _root_.id rfl
theorem JcR (d : Nat) (v : AV) : put fr (some d) v = fr.set d v := _root_.id rfl
theorem KWy (a : AV) (l : List AV) (v : AV) : (a :: l).set 0 v = v :: l := _root_.id rfl
theorem QPT (a : AV) (l : List AV) (n : Nat) (v : AV) : (a :: l).set (n + 1) v = a :: l.set n v := _root_.id rfl
def pl : List AV → Nat → AV
 | [], _ => .tu []
 | a :: _, 0 => a
 | _ :: l, n + 1 => pl l n
theorem Jnt : ∀ (l : List AV) (n : Nat), l.getD n (.tu []) = pl l n
 | [], n => by simp [pl]
 | a :: l, 0 => by simp [pl]
 | a :: l, n + 1 => by simpa [pl] using Jnt l n
theorem pl_0 (a : AV) (l : List AV) : pl (a :: l) 0 = a := _root_.id rfl
theorem pl_s (a : AV) (l : List AV) (n : Nat) : pl (a :: l) (n + 1) = pl l n := _root_.id rfl
theorem ev_t (n : Nat) : Opd.ev fr (.t n) = pl fr n := Jnt fr n
theorem ev_c (v : AV) : Opd.ev fr (.c v) = v := _root_.id rfl
theorem XHP (n : Nat) : gv fr n = pl fr n := Jnt fr n
theorem Ymx (x : Opd) : opR T (.mv x) fr h = some (x.ev fr, h) := _root_.id rfl
theorem XUs (op : BinOp) (x y : Opd) : opR T (.bin op x y) fr h = (binV op (x.ev fr) (y.ev fr)).map (·, h) := _root_.id rfl
theorem YC9 (op : UnOp) (x : Opd) : opR T (.un op x) fr h = (unV op (x.ev fr)).map (·, h) := _root_.id rfl
def qMb (c a b : AV) : Option AV := match c with
 | .b t => some (if t then a else b)
 | _ => none
theorem JGW (c a b : Opd) : opR T (.pick c a b) fr h = (qMb (c.ev fr) (a.ev fr) (b.ev fr)).map (·, h) := by
 show (match Opd.ev fr c with | .b t => some (if t then Opd.ev fr a else Opd.ev fr b, h) | _ => none) = _
 unfold qMb
 cases Opd.ev fr c <;> rfl
theorem qVx (a b : AV) : qMb (.b true) a b = some a := _root_.id rfl
theorem X2B (a b : AV) : qMb (.b false) a b = some b := _root_.id rfl
theorem K5A (s : Bool) (x : Opd) : opR T (.len s x) fr h = if (x.ev fr).isStr = s then (lenV (x.ev fr)).map fun n => (.i .i64 n, h) else none := _root_.id rfl
theorem Qlt (x : Opd) (i : Nat) : opR T (.ext x i) fr h = (match x.ev fr with | .tu l => (l[i]?).map (·, h) | _ => none) := _root_.id rfl
theorem zsQ (m : Bool) (x y : Opd) : opR T (.mm m x y) fr h = (mmV m (x.ev fr) (y.ev fr)).map (·, h) := _root_.id rfl
theorem z6c (n : Option Nat) (x : Opd) : opR T (.ld n x) fr h = (ldV h n (x.ev fr)).map (·, h) := _root_.id rfl
theorem XUh (o : Nat) (x : Opd) : opR T (.fad o x) fr h = (match x.ev fr with | .p id q => some (.p id (q + o), h) | _ => none) := _root_.id rfl
theorem Qfd {α β : Type} (f : α → β) (a : α) : Option.map f (some a) = some (f a) := _root_.id rfl
theorem zxb {α β : Type} (f : α → β) : Option.map f none = none := _root_.id rfl
theorem QdC {α β : Type} (f : α → β) (t : Prop) [Decidable t] (a : α) : Option.map f (if t then some a else none) = if t then some (f a) else none := by split <;> rfl
theorem YGS (k : IntKind) (a b : Int) : binV .lss (.i k a) (.i k b) = some (.b (decide (a < b))) := by simp [binV, binI]
theorem QZe (k : IntKind) (a b : Int) : binV .leq (.i k a) (.i k b) = some (.b (decide (a ≤ b))) := by simp [binV, binI]
theorem Yul (k : IntKind) (a b : Int) : binV .gtr (.i k a) (.i k b) = some (.b (decide (b < a))) := by simp [binV, binI]
theorem Yqh (k : IntKind) (a b : Int) : binV .geq (.i k a) (.i k b) = some (.b (decide (b ≤ a))) := by simp [binV, binI]
theorem QSa (k : IntKind) (a b : Int) : binV .eql (.i k a) (.i k b) = some (.b (decide (a = b))) := by simp [binV, binI, BEq.beq]
theorem zOS (k : IntKind) (a b : Int) : binV .neq (.i k a) (.i k b) = some (.b (decide (¬ a = b))) := by simp [binV, binI, bne, BEq.beq]
theorem YC1 (k : IntKind) (a b : Int) : binV .add (.i k a) (.i k b) = some (.i k (k.wrap (a + b))) := by simp [binV, binI]
theorem JGa (k : IntKind) (a b : Int) : binV .sub (.i k a) (.i k b) = some (.i k (k.wrap (a - b))) := by simp [binV, binI]
theorem JnF (k : IntKind) (a b : Int) : mmV true (.i k a) (.i k b) = some (.i k (max a b)) := by
 simp only [mmV, if_true, Option.some.injEq, AV.i.injEq, true_and]
 omega
theorem Yrn (k : IntKind) (a b : Int) : mmV false (.i k a) (.i k b) = some (.i k (min a b)) := by
 simp only [mmV, Bool.false_eq_true, if_false, Option.some.injEq, AV.i.injEq, true_and]
 omega
def In64 (a : Int) : Prop := -9223372036854775808 ≤ a ∧ a < 9223372036854775808
theorem Jeb {a : Int} (h : In64 a) : IntKind.i64.wrap a = a := IntWalk.i64_in _ (by unfold In64 at h; omega)
def AV.isSl : AV → Bool
 | .ns | .se | .sl _ _ _ _ _ => true
 | _ => false
def rdS (h : List AB) (sz : Nat) : AV → Option (Nat × List AV)
 | .ns | .se => some (0, [])
 | .sl id off len _ _ => if len = 0 then some (0, []) else (JZy h id).bind fun xs => if off + len * sz ≤ xs.length then some (len, (xs.drop off).take (len * sz)) else none
 | _ => none
def elP (sz : Nat) (s : AV) (n j : Nat) : AV :=
 match s with
 | .sl id off _ _ _ => .p id (off + n * sz + j)
 | _ => .np
theorem QtI {s : AV} (e : s.isSl = true) : s.isStr = false := by cases s <;> first | rfl | cases e
theorem ZYZ {s : AV} (e : s.isSl = true) : s.one = true := by cases s <;> first | rfl | cases e
theorem qVX {s : AV} (e : s.isSl = true) : s.known = true := by cases s <;> first | rfl | cases e
theorem KXj {s : AV} (e : s.isSl = true) : s.cells = [s] := by cases s <;> first | rfl | cases e
theorem J6R (sz : Nat) (x i : Opd) : opR T (.iad sz x i) fr h = (match x.ev fr, i.ev fr with
  | .sl id off k _ _, .i _ n => if 0 ≤ n ∧ n < k then some (.p id (off + n.toNat * sz), h) else none
  | _, _ => none) := rfl
def iadV (sz : Nat) (s i : AV) : Option AV :=
 match s, i with
 | .sl id off k _ _, .i _ n => if 0 ≤ n ∧ n < k then some (.p id (off + n.toNat * sz)) else none
 | _, _ => none
theorem Kw9 (sz : Nat) (x i : Opd) : opR T (.iad sz x i) fr h = (iadV sz (x.ev fr) (i.ev fr)).map (·, h) := by
 rw [J6R]
 unfold iadV
 split
 ·split <;> rfl
 ·rfl
def fadV (o : Nat) : AV → Option AV
 | .p id q => some (.p id (q + o))
 | _ => none
structure Row (α : Type) where
 f : α → List AV
 sz : Nat
 len : ∀ x, (f x).length = sz
 pos : 0 < sz
 d : α
 inj : ∀ x y, f x = f y → x = y
def Row.cells {α : Type} (r : Row α) (l : List α) : List AV := l.flatMap r.f
theorem Row.cells_len {α : Type} (r : Row α) (l : List α) : (r.cells l).length = l.length * r.sz := by
 induction l with
 | nil => simp [Row.cells]
 | cons a l ih =>
  simp only [Row.cells, List.flatMap_cons, List.length_append, List.length_cons] at ih ⊢
  rw [ih, r.len, Nat.add_mul, Nat.one_mul, Nat.add_comm]
theorem Row.cells_inj {α : Type} (r : Row α) : ∀ (l l' : List α), l.length = l'.length → r.cells l = r.cells l' → l = l'
 | [], [], _, _ => rfl
 | [], _ :: _, h, _ => by simp at h
 | _ :: _, [], h, _ => by simp at h
 | a :: l, b :: l', h, e => by
  simp only [Row.cells, List.flatMap_cons] at e
  obtain ⟨e1, e2⟩ := List.append_inj e (by rw [r.len, r.len])
  rw [r.inj a b e1, Row.cells_inj r l l' (by simpa using h) e2]
def Rd {α : Type} (r : Row α) (h : List AB) (s : AV) (l : List α) : Prop := rdS h r.sz s = some (l.length, r.cells l) ∧ l.length ≤ maxLen
theorem Rd.inj {α : Type} {r : Row α} {s : AV} {l l' : List α} (e : Rd r h s l) (e' : Rd r h s l') : l = l' := by
 have := e.1.symm.trans e'.1
 simp only [Option.some.injEq, Prod.mk.injEq] at this
 exact r.cells_inj l l' this.1 this.2
open Classical in
noncomputable def getS {α : Type} (r : Row α) (h : List AB) (s : AV) : Option (List α) := if e : ∃ l, Rd r h s l then some e.choose else none
theorem Rd.get {α : Type} {r : Row α} {s : AV} {l : List α} (e : Rd r h s l) : getS r h s = some l := by
 unfold getS
 have hx : ∃ l, Rd r h s l := ⟨l, e⟩
 rw [dif_pos hx, hx.choose_spec.inj e]
theorem Rd.ok {α : Type} {r : Row α} {s : AV} {l : List α} (_ : Rd r h s l) {q q' : Nat → Bool} (ho : s.ok q = true) (hq : ∀ i, q i = true → q' i = true) : s.ok q' = true := AV.ok_mono hq s ho
def intR : Row Int := ⟨fun n => [.i .i64 n], 1, fun _ => rfl, by decide, 0, fun x y h => by simpa using h⟩
def dotR : Row (Int × Int) := ⟨fun d => [.i .i64 d.1, .i .i64 d.2], 2, fun _ => rfl, by decide, (0, 0), fun x y h => by
 simp only [List.cons.injEq, AV.i.injEq, true_and, and_true] at h
 exact Prod.ext h.1 h.2⟩
theorem qZi (n : Int) : intR.f n = [.i .i64 n] := _root_.id rfl
theorem zTb (d : Int × Int) : dotR.f d = [.i .i64 d.1, .i .i64 d.2] := _root_.id rfl
theorem XgG : (false ^^ false) = false := _root_.id rfl
theorem YHN : (false ^^ true) = true := _root_.id rfl
theorem KvD : (true ^^ false) = true := _root_.id rfl
theorem J8P : (true ^^ true) = false := _root_.id rfl
theorem qSe (p : Prop) [Decidable p] : (decide p ^^ false) = decide p := by simp
theorem KbF (p : Prop) [Decidable p] : (decide p ^^ true) = decide (¬ p) := by simp
theorem Zwg {α : Type} (a : α) (l : List α) : (a :: l)[0]? = some a := _root_.id rfl
theorem JHL {α : Type} (a : α) (l : List α) (n : Nat) : (a :: l)[n + 1]? = l[n]? := by simp
theorem zzQ (o : Nat) (x : Opd) : opR T (.fad o x) fr h = (fadV o (x.ev fr)).map (·, h) := by
 rw [XUh]
 cases x.ev fr <;> rfl
theorem J5c (o id q : Nat) : fadV o (.p id q) = some (.p id (q + o)) := _root_.id rfl
theorem qTL (l : List AB) : (h ++ l).length = h.length + l.length := List.length_append
theorem KkF : ([] : List AB).length = 0 := _root_.id rfl
theorem XEJ (B : AB) (l : List AB) : (B :: l).length = l.length + 1 := _root_.id rfl
theorem YpF (l l' : List AB) : h ++ l ++ l' = h ++ (l ++ l') := List.append_assoc h l l'
theorem KiV (l : List AB) : [] ++ l = l := _root_.id rfl
theorem qnI (B : AB) (l l' : List AB) : (B :: l) ++ l' = B :: (l ++ l') := _root_.id rfl
theorem ZtQ (fl : Bool) (zs : List AV) : opR T (.new fl zs) fr h = newB h fl zs (fun n => .p n 0) := _root_.id rfl
theorem JHM (fl : Bool) (n : Nat) (x : Opd) : opR T (.box fl n x) fr h = if (x.ev fr).cells.length = n then newB h fl (x.ev fr).cells (fun n => .p n 0) else none := _root_.id rfl
theorem zrk (fl : Bool) (cs : List AV) (v : Nat → AV) : newB h fl cs v = if cs.all (wrOk fl) = true then some (v h.length, h ++ [.blk fl true cs]) else none := _root_.id rfl
theorem qZy (l : List AV) : (AV.ag l).cells = l := _root_.id rfl
theorem Ku9 (k : IntKind) (n : Int) : (AV.i k n).cells = [.i k n] := _root_.id rfl
theorem J5k (x : Bool) : (AV.b x).cells = [.b x] := _root_.id rfl
theorem QVg (x : List UInt8) : (AV.s x).cells = [.s x] := _root_.id rfl
theorem J3q (a b : Nat) : (AV.p a b).cells = [.p a b] := _root_.id rfl
theorem ZKv (a b c d : Nat) (k : Option Nat) : (AV.sl a b c d k).cells = [.sl a b c d k] := _root_.id rfl
theorem qiR : AV.ns.cells = [.ns] := _root_.id rfl
theorem qcy (f : Fn) (a b : List AV) : (AV.f f a b).cells = [.f f a b] := _root_.id rfl
theorem all_nil {α : Type} (p : α → Bool) : ([] : List α).all p = true := _root_.id rfl
theorem all_cons {α : Type} (p : α → Bool) (a : α) (l : List α) : (a :: l).all p = (p a && l.all p) := _root_.id rfl
theorem XU5 (v : AV) : wrOk true v = v.flat := _root_.id rfl
theorem Kht (v : AV) : wrOk false v = v.one := _root_.id rfl
theorem zti (k : IntKind) (n : Int) : (AV.i k n).one = true := _root_.id rfl
theorem q2A (x : Bool) : (AV.b x).one = true := _root_.id rfl
theorem J5W (x : List UInt8) : (AV.s x).one = true := _root_.id rfl
theorem Qzw (a b : Nat) : (AV.p a b).one = true := _root_.id rfl
theorem Q3i (a b c d : Nat) (k : Option Nat) : (AV.sl a b c d k).one = true := _root_.id rfl
theorem qUo : AV.ns.one = true := _root_.id rfl
theorem qEF (f : Fn) (a b : List AV) : (AV.f f a b).one = true := _root_.id rfl
theorem zqZ (k : IntKind) (n : Int) : (AV.i k n).flat = true := _root_.id rfl
theorem Qjg (x : Bool) : (AV.b x).flat = true := _root_.id rfl
theorem XLZ (x : List UInt8) : (AV.s x).flat = true := _root_.id rfl
theorem Kfq : AV.ns.flat = true := _root_.id rfl
def ownC : List AB → Nat → Option (List AV)
 | [], _ => none
 | .blk _ _ xs :: _, 0 => some xs
 | _ :: _, 0 => none
 | _ :: l, n + 1 => ownC l n
theorem YAm : ∀ (l : List AB) (k : Nat), JZy l k = ownC l k
 | [], k => by simp [JZy, ownC]
 | B :: l, 0 => by cases B <;> simp [JZy, ownC]
 | B :: l, k + 1 => by
  have := YAm l k
  unfold JZy at this ⊢
  rw [List.getElem?_cons_succ, this]
  cases B <;> rfl
theorem YNX (l : List AB) (k : Nat) : JZy (h ++ l) (h.length + k) = ownC l k := by
 rw [← YAm]
 unfold JZy
 rw [List.getElem?_append_right (by omega), Nat.add_sub_cancel_left]
theorem Yk9 (fl m : Bool) (xs : List AV) (l : List AB) : ownC (.blk fl m xs :: l) 0 = some xs := _root_.id rfl
theorem zgY (B : AB) (l : List AB) (n : Nat) : ownC (B :: l) (n + 1) = ownC l n := by cases B <;> rfl
theorem ZA0 (l : List AB) (k o : Nat) : ldV (h ++ l) none (.p (h.length + k) o) = (ownC l k).bind fun xs => xs[o]? := by
 simp only [ldV, YNX]
theorem ZaI (l : List AB) (k o n : Nat) : ldV (h ++ l) (some n) (.p (h.length + k) o) = (ownC l k).bind fun xs => if o + n ≤ xs.length then some (.ag ((xs.drop o).take n)) else none := by
 simp only [ldV, YNX]
theorem X7B {α β : Type} (a : α) (f : α → Option β) : (some a).bind f = f a := _root_.id rfl
theorem KYF {α β : Type} (f : α → Option β) : (none : Option α).bind f = none := _root_.id rfl
def ownW : List AB → Nat → Nat → List AV → Option (List AB)
 | [], _, _, _ => none
 | .blk fl true xs :: l, 0, o, ys => if o + ys.length ≤ xs.length ∧ ys.all (wrOk fl) = true then some (.blk fl true (over xs o ys) :: l) else none
 | _ :: _, 0, _, _ => none
 | B :: l, n + 1, o, ys => (ownW l n o ys).map (B :: ·)
theorem JiP (ys : List AV) (o : Nat) : ∀ (l : List AB) (k : Nat), stB l k o ys = ownW l k o ys
 | [], k => by simp [stB, ownW]
 | B :: l, 0 => by
  cases B with
  | blk fl m xs => cases m <;> simp [stB, ownW]
  | _ => simp [stB, ownW]
 | B :: l, k + 1 => by
  have := JiP ys o l k
  have e : ownW (B :: l) (k + 1) o ys = (ownW l k o ys).map (B :: ·) := by
   cases B with
   | blk fl m xs => cases m <;> rfl
   | _ => rfl
  rw [e, ← this]
  unfold stB
  rw [List.getElem?_cons_succ]
  split <;> (try split) <;> simp_all
theorem KpI (l : List AB) (k o : Nat) (ys : List AV) : stB (h ++ l) (h.length + k) o ys = (ownW l k o ys).map (h ++ ·) := by
 rw [← JiP]
 unfold stB
 rw [List.getElem?_append_right (by omega), Nat.add_sub_cancel_left]
 split
 ·rename_i fl xs hx
  split
  ·simp only [Option.map_some, Option.some.injEq]
   rw [List.set_append_right _ _ (by omega), Nat.add_sub_cancel_left]
  ·rfl
 ·rfl
theorem K67 (fl : Bool) (xs : List AV) (l : List AB) (o : Nat) (ys : List AV) : ownW (.blk fl true xs :: l) 0 o ys = if o + ys.length ≤ xs.length ∧ ys.all (wrOk fl) = true then some (.blk fl true (over xs o ys) :: l) else none := _root_.id rfl
theorem XFM (B : AB) (l : List AB) (n o : Nat) (ys : List AV) : ownW (B :: l) (n + 1) o ys = (ownW l n o ys).map (B :: ·) := by
 cases B with
 | blk fl m xs => cases m <;> rfl
 | _ => rfl
theorem Xeb (n : Option Nat) (x v : Opd) : opR T (.st n x v) fr h = (stV h n (x.ev fr) (v.ev fr)).map (.tu [], ·) := _root_.id rfl
theorem qbl (l : List AB) (k o : Nat) (v : AV) : stV (h ++ l) none (.p (h.length + k) o) v = if v.one = true then (ownW l k o [v]).map (h ++ ·) else none := by
 simp only [stV, KpI]
theorem KPX (l : List AB) (k o n : Nat) (vs : List AV) : stV (h ++ l) (some n) (.p (h.length + k) o) (.ag vs) = if vs.length = n then (ownW l k o vs).map (h ++ ·) else none := by
 simp only [stV, KpI]
theorem Qu9 (x : AV) (xs : List AV) (v : AV) : over (x :: xs) 0 [v] = v :: xs := _root_.id rfl
theorem QWx (x : AV) (xs : List AV) (o : Nat) (vs : List AV) : over (x :: xs) (o + 1) vs = x :: over xs o vs := by
 simp only [over, List.take_succ_cons, List.cons_append, List.append_assoc]
 rw [show o + 1 + vs.length = (o + vs.length) + 1 by omega, List.drop_succ_cons]
theorem q7L (x : AV) (xs : List AV) (v : AV) (vs : List AV) : over (x :: xs) 0 (v :: vs) = v :: over xs 0 vs := by
 simp [over, Nat.add_comm]
theorem KeQ (xs : List AV) : over xs 0 [] = xs := by simp [over]
theorem Jvm : ([] : List AV).length = 0 := _root_.id rfl
theorem JQT (B : AV) (l : List AV) : (B :: l).length = l.length + 1 := _root_.id rfl
theorem zG2 {α : Type} (l : List α) : l.take 0 = [] := _root_.id rfl
theorem Q16 {α : Type} (a : α) (l : List α) (n : Nat) : (a :: l).take (n + 1) = a :: l.take n := _root_.id rfl
theorem Ks6 {α : Type} (l : List α) : l.drop 0 = l := _root_.id rfl
theorem zFX {α : Type} (a : α) (l : List α) (n : Nat) : (a :: l).drop (n + 1) = l.drop n := _root_.id rfl
theorem K9O (x : Opd) : opR T (.nck x) fr h = (match x.ev fr with
  | .p id off => some (.p id off, h)
  | .f (.func f) fst cap => some (.f (.func f) fst cap, h)
  | .f (.yield l) fst cap => some (.f (.yield l) fst cap, h)
  | .ifc t v => some (.ifc t v, h)
  | _ => none) := rfl
theorem Xtk (n : Bool) (x y : Opd) : opR T (.eqb n x y) fr h = (match x.ev fr, y.ev fr with
  | .b p, .b q => some (.b ((p == q) ^^ n), h)
  | _, _ => none) := rfl
theorem YtK (ks : List CK) (n : Bool) (x y : Opd) : opR T (.eqc ks n x y) fr h = (match x.ev fr, y.ev fr with
  | .ag l, .ag l' => (qE2 ks l l').map fun r => (.b (r ^^ n), h)
  | _, _ => none) := rfl
theorem qrf (k : IntKind) (x : Opd) : opR T (.cvi k x) fr h = (x.ev fr).int?.map fun n => (.i k (k.wrap n), h) := _root_.id rfl
theorem Z2c (fn : Fn) (a b : List Opd) : opR T (.mkf fn a b) fr h = some (.f fn (a.map (Opd.ev fr)) (b.map (Opd.ev fr)), h) := _root_.id rfl
theorem KAR (sz : Nat) (x : Opd) (lo hi mx : Option Opd) : opR T (.sll sz x lo hi mx) fr h = (slL sz (x.ev fr) (lo.map (Opd.ev fr)) (hi.map (Opd.ev fr)) (mx.map (Opd.ev fr))).map (·, h) := _root_.id rfl
theorem YVg (zs : List AV) (ps : List (Nat × Nat × Opd)) : opR T (.bld zs ps) fr h = (YwX (Opd.ev fr) zs ps).map fun cs => (.ag cs, h) := _root_.id rfl
theorem ZWu (fl : Bool) (n : Nat) (zs : List AV) (ps : List (Nat × Nat × Opd)) : opR T (.bls fl n zs ps) fr h = (YwX (Opd.ev fr) zs ps).bind fun cs => newB h fl cs (fun m => .sl m 0 n n none) := _root_.id rfl
theorem Js6 (str fl : Bool) (sz by_ : Nat) (s x : Opd) : opR T (.app str fl sz by_ s x) fr h = if (x.ev fr).isStr = str then appV h fl sz by_ (s.ev fr) (x.ev fr) else none := _root_.id rfl
theorem JEu (f : Opd) (args : List Opd) : opR T (.call f args) fr h = QPB T (f.ev fr) (args.map (Opd.ev fr)) h := _root_.id rfl
theorem ZNd (g : Nat) (a b args : List AV) : QPB T (.f (.func g) a b) args h = T.fns.at g (a ++ args ++ b) h := _root_.id rfl
theorem YUo (id : Nat) (args : List AV) : QPB T (.y id) args h = T.rds.at id args h := _root_.id rfl
theorem zeG {α β : Type} (f : α → β) : [].map f = [] := _root_.id rfl
theorem YJY {α β : Type} (f : α → β) (a : α) (l : List α) : (a :: l).map f = f a :: l.map f := _root_.id rfl
theorem zAT (ev : Opd → AV) (cs : List AV) : YwX ev cs [] = some cs := _root_.id rfl
theorem zkA (ev : Opd → AV) (cs : List AV) (o n : Nat) (x : Opd) (l : List (Nat × Nat × Opd)) : YwX ev cs ((o, n, x) :: l) = if (ev x).cells.length = n ∧ o + n ≤ cs.length ∧ (ev x).known = true then YwX ev (over cs o (ev x).cells) l else none := _root_.id rfl
theorem zQy (p : Prop) [Decidable p] : unV .not (.b (decide p)) = some (.b (decide (¬ p))) := by simp [unV]
theorem Xd6 : unV .not (.b true) = some (.b false) := _root_.id rfl
theorem QP9 : unV .not (.b false) = some (.b true) := _root_.id rfl
theorem XwC {P : Program} {p : Nat} {res : List RC} {a : AV} {h' : List AB} : Fin P p res a h' .r fr h = ∃ v, resV fr h res = some v ∧ Bt P p [v] h [a] h' := _root_.id rfl
theorem QYE {P : Program} {p : Nat} {res : List RC} {a : AV} {h' : List AB} : Fin P p res a h' .n fr h = ∃ v, resV fr h res = some v ∧ Bt P p [v] h [a] h' := _root_.id rfl
theorem KDH {P : Program} {p n : Nat} {a : AV} {h' : List AB} : (∃ v, resV fr h [RC.t n] = some v ∧ Bt P p [v] h [a] h') = Bt P p [pl fr n] h [a] h' := by
 simp only [resV, JBx, qdM, Option.bind_some, Option.map_some, Option.some.injEq, exists_eq_left', Jnt]
theorem Jor {P : Program} {p n m : Nat} {a : AV} {h' : List AB} : (∃ v, resV fr h [RC.t n, RC.t m] = some v ∧ Bt P p [v] h [a] h') = Bt P p [.tu [pl fr n, pl fr m]] h [a] h' := by
 simp only [resV, JBx, qdM, Option.bind_some, Option.map_some, Option.some.injEq, exists_eq_left', Jnt]
theorem KLg {P : Program} {p : Nat} {a : AV} {h' : List AB} : (∃ v, resV fr h [] = some v ∧ Bt P p [v] h [a] h') = Bt P p [.tu []] h [a] h' := by
 simp only [resV, JBx, Option.map_some, Option.some.injEq, exists_eq_left']
theorem XSG (a : AV) : List.replicate 0 a = [] := _root_.id rfl
theorem YPr (n : Nat) (a : AV) : List.replicate (n + 1) a = a :: List.replicate n a := _root_.id rfl
theorem KWo (l : List AV) : [] ++ l = l := _root_.id rfl
theorem YgD (a : AV) (l l' : List AV) : (a :: l) ++ l' = a :: (l ++ l') := _root_.id rfl
end
end Go.Proofs.YthllkjhommnocaaDoor
end
