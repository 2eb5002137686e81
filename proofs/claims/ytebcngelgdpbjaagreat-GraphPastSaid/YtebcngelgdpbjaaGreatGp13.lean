/- Part 13 of what the laws' proofs rest on. No condition. -/
import Derived.Test.YtebcngelgdpbjaaGreatGp12
set_option linter.all false
section
namespace Go.Proofs.YtebcngelgdpbjaaGreat
open Go.RowKit
theorem FRel.unique {F : FR} {a b : List AV} (h : FRel F a) (k : FRel F b) : a = b := by
 have hl : a.length = b.length := by rw [← h.len, ← k.len]
 refine List.ext_getElem? fun i => ?_
 by_cases hi : i < a.length
 ·have e1 := h.get i
  have e2 := k.get i
  rw [KMe, List.getElem?_eq_getElem hi] at e1
  rw [KMe, List.getElem?_eq_getElem (by omega : i < b.length)] at e2
  rw [List.getElem?_eq_getElem hi, List.getElem?_eq_getElem (by omega : i < b.length)]
  simp only [Option.getD_some] at e1 e2
  rw [← e1, ← e2]
 ·rw [List.getElem?_eq_none (by omega), List.getElem?_eq_none (by omega)]
theorem BRel.unique {X : Option HB} {B C : AB} (h : BRel X B) (k : BRel X C) : B = C := by
 cases X with
 | none => rw [show B = .dead from h, show C = .dead from k]
 | some X =>
  cases X with
  | b D => rw [show B = D from h, show C = D from k]
  | lp st pd F ps asg bd =>
   obtain ⟨fr, h1, rfl⟩ := h
   obtain ⟨fr', h2, rfl⟩ := k
   rw [h1.unique h2]
theorem HRel.unique {H : HP} {a b : List AB} (h : HRel H a) (k : HRel H b) : a = b := by
 have hl : a.length = b.length := by rw [← h.len, ← k.len]
 refine List.ext_getElem? fun i => ?_
 by_cases hi : i < a.length
 ·rw [List.getElem?_eq_getElem hi, List.getElem?_eq_getElem (by omega : i < b.length)]
  exact congrArg _ ((h.blk i _ (List.getElem?_eq_getElem hi)).unique (k.blk i _ (List.getElem?_eq_getElem (by omega))))
 ·rw [List.getElem?_eq_none (by omega), List.getElem?_eq_none (by omega)]
section
variable {P : Program}
theorem AM.drwE (hm : P.follows .mixedOrders = true) {T : TB} {E : RunT} (hT : Qhr P T) (hE : SoundX P E) {ds : List DOp} {F F' : FR} {H0 H0' : HP} {fr : List AV} {h : List AB} (hF : FRel F fr) (hH : HRel H0 h)
  (e : qwp T E H0.len ds 0 [] F H0 = some (F', H0')) : ∃ fr' h', FRel F' fr' ∧ HRel H0' h' ∧ ∀ (p : Nat) (rd : Option Nat) (fn : FuncId) (id : Nat) (k : List CI) (R : AV → List AB → Prop), AM P p rd fn k fr' h' R → AM P p rd fn (.code (.drw id ds) :: k) fr h R := by
 obtain ⟨S, V, PT, _, _, s2, s3⟩ := Xsj hT hE ds 0 [] F H0 fr h _ hF hH e
 refine ⟨_, _, s2, s3, fun p rd fn id k R g => AM.drwT hm hT hE hF hH e fun fr' h' f1 f2 => ?_⟩
 rw [f1.unique s2, f2.unique s3]
 exact g
theorem YKA {rd : Option Nat} {fn : FuncId} {c : CC} {ia : FR → HP → OutT}
  (hia : ∀ {F F' : FR} {H H' : HP} {x : XE} {fr : List AV} {h : List AB}, FRel F fr → HRel H h → ia F H = some (x, F', H') → ∃ fr' h', FRel F' fr' ∧ HRel H' h' ∧ ∀ (p : Nat) (R : AV → List AB → Prop) (k : List CI), Left P p rd fn k R fr' h' x → AM P p rd fn (.code c :: k) fr h R) :
  ∀ (n : Nat) {F F' : FR} {H H' : HP} {x : XE} {fr : List AV} {h : List AB}, FRel F fr → HRel H h → XOk ia n F H = some (x, F', H') → ∃ fr' h', FRel F' fr' ∧ HRel H' h' ∧ ∀ (p : Nat) (R : AV → List AB → Prop) (k : List CI), Left P p rd fn k R fr' h' x → AM P p rd fn (.code c :: .lp c :: k) fr h R
 | 0, _, _, _, _, _, _, _, _, _, e => by cases e
 | n + 1, F, F', H, H', x, fr, h, hF, hH, e => by
  change (match ia F H with
   | none => none
   | some (x, fr', h') => match x with
    | .n => XOk ia n fr' h'
    | .x id => some (.x id, fr', h')
    | .r => some (.r, fr', h')) = some (x, F', H') at e
  split at e
  ·cases e
  ·rename_i x1 F1 H1 hx
   obtain ⟨fr1, h1, f1, f2, f3⟩ := hia hF hH hx
   cases x1 with
   | n =>
    simp only at e
    obtain ⟨fr', h', q1, q2, q3⟩ := YKA hia n f1 f2 e
    exact ⟨fr', h', q1, q2, fun p R k g => f3 p R (.lp c :: k) (AM.lp (q3 p R k g))⟩
   | x id =>
    simp only at e
    cases e
    exact ⟨fr1, h1, f1, f2, fun p R k g => f3 p R (.lp c :: k) (g.pass (fun q => nomatch q) (fun _ _ => rfl))⟩
   | r =>
    simp only at e
    cases e
    exact ⟨fr1, h1, f1, f2, fun p R k g => f3 p R (.lp c :: k) g⟩
theorem TB.cfs_some {T : TB} {g : Nat} {c : TC} (h : T.cfs g = some c) : ∃ cf, c = .cf cf ∧ T g = some (.cf cf) := by
 unfold TB.cfs at h
 split at h
 ·rename_i d hd
  cases d with
  | cf x => cases h; exact ⟨x, rfl, hd⟩
  | nv f => cases (show (none : Option TC) = _ from h)
 ·cases h
theorem QjC (hm : P.follows .mixedOrders = true) {T : TB} {E : RunT} (hT : Qhr P T) (hE : SoundX P E) {rd : Option Nat} {fn : FuncId} (c : CC) : ∀ {F F' : FR} {H H' : HP} {x : XE} {fr : List AV} {h : List AB}, FRel F fr → HRel H h →
  evCT T E rd.isSome c F H = some (x, F', H') → ∃ fr' h', FRel F' fr' ∧ HRel H' h' ∧ ∀ (p : Nat) (R : AV → List AB → Prop) (k : List CI), Left P p rd fn k R fr' h' x → AM P p rd fn (.code c :: k) fr h R := by
 induction c with
 | skip =>
  intro F F' H H' x fr h hF hH e
  cases e
  exact ⟨fr, h, hF, hH, fun p R k g => AM.go rfl g⟩
 | reg id l =>
  intro F F' H H' x fr h hF hH e
  change outT (Kip T E l F H) = some (x, F', H') at e
  unfold outT at e
  split at e
  ·rename_i F1 H1 hr
   cases e
   obtain ⟨fr', h', q1, q2, q3⟩ := zuE hT hE l hF hH hr
   exact ⟨fr', h', q1, q2, fun p R k g => AM.go rfl (q3 p rd fn k R g)⟩
  ·cases e
 | drw id l =>
  intro F F' H H' x fr h hF hH e
  change outT (qwp T E H.len l 0 [] F H) = some (x, F', H') at e
  unfold outT at e
  split at e
  ·rename_i F1 H1 hr
   cases e
   obtain ⟨fr', h', q1, q2, q3⟩ := AM.drwE hm hT hE hF hH hr
   exact ⟨fr', h', q1, q2, fun p R k g => q3 p rd fn id k R g⟩
  ·cases e
 | seq a b iha ihb =>
  intro F F' H H' x fr h hF hH e
  change qMG (evCT T E rd.isSome a) (evCT T E rd.isSome b) F H = some (x, F', H') at e
  unfold qMG at e
  split at e
  ·cases e
  ·rename_i x1 F1 H1 hx
   obtain ⟨fr1, h1, f1, f2, f3⟩ := iha hF hH hx
   cases x1 with
   | n =>
    obtain ⟨fr', h', q1, q2, q3⟩ := ihb f1 f2 e
    exact ⟨fr', h', q1, q2, fun p R k g => AM.go rfl (f3 p R (.code b :: k) (q3 p R k g))⟩
   | x id =>
    cases e
    exact ⟨fr1, h1, f1, f2, fun p R k g => AM.go rfl (f3 p R (.code b :: k) (g.pass (fun q => nomatch q) (fun _ _ => rfl)))⟩
   | r =>
    cases e
    exact ⟨fr1, h1, f1, f2, fun p R k g => AM.go rfl (f3 p R (.code b :: k) g)⟩
 | cond q a b iha ihb =>
  intro F F' H H' x fr h hF hH e
  change Qcr q (evCT T E rd.isSome a) (evCT T E rd.isSome b) F H = some (x, F', H') at e
  unfold Qcr at e
  rw [zSZ q (fun t _ => hF.get t)] at e
  split at e
  ·rename_i t ht
   cases t with
   | true =>
    obtain ⟨fr', h', q1, q2, q3⟩ := iha hF hH e
    exact ⟨fr', h', q1, q2, fun p R k g => AM.go (by simp only [XlM, ht]) (q3 p R k g)⟩
   | false =>
    obtain ⟨fr', h', q1, q2, q3⟩ := ihb hF hH e
    exact ⟨fr', h', q1, q2, fun p R k g => AM.go (by simp only [XlM, ht]) (q3 p R k g)⟩
  ·cases e
 | block id a iha =>
  intro F F' H H' x fr h hF hH e
  change qv8 id (evCT T E rd.isSome a) F H = some (x, F', H') at e
  unfold qv8 at e
  split at e
  ·cases e
  ·rename_i x1 F1 H1 hx
   obtain ⟨fr1, h1, f1, f2, f3⟩ := iha hF hH hx
   cases x1 with
   | n =>
    cases e
    exact ⟨fr1, h1, f1, f2, fun p R k g => AM.go rfl (f3 p R (.blk id :: k) (AM.go rfl g))⟩
   | x id' =>
    simp only at e
    by_cases hid : id = id'
    ·subst hid
     have : Nat.beq id id = true := by rw [Nat.beq_eq]
     rw [this] at e
     cases e
     exact ⟨fr1, h1, f1, f2, fun p R k g => AM.go rfl (f3 p R (.blk id :: k) (.inl ⟨k, by simp [Zz3], g⟩))⟩
    ·have : Nat.beq id id' = false := by
      cases hb : Nat.beq id id' with
      | true => exact absurd (Nat.eq_of_beq_eq_true hb) hid
      | false => rfl
     rw [this] at e
     cases e
     exact ⟨fr1, h1, f1, f2, fun p R k g => AM.go rfl (f3 p R (.blk id :: k) (g.pass (fun q => nomatch q) (fun i q => by cases q; simp [Zz3, hid])))⟩
   | r =>
    cases e
    exact ⟨fr1, h1, f1, f2, fun p R k g => AM.go rfl (f3 p R (.blk id :: k) g)⟩
 | loop a iha =>
  intro F F' H H' x fr h hF hH e
  change XOk (evCT T E rd.isSome a) 100000 F H = some (x, F', H') at e
  obtain ⟨fr', h', q1, q2, q3⟩ := YKA (P := P) (rd := rd) (fn := fn) (c := a) (fun hF hH e => iha hF hH e) 100000 hF hH e
  exact ⟨fr', h', q1, q2, fun p R k g => AM.loop (q3 p R k g)⟩
 | scope a iha =>
  intro F F' H H' x fr h hF hH e
  change evCT T E rd.isSome a F H = some (x, F', H') at e
  obtain ⟨fr', h', q1, q2, q3⟩ := iha hF hH e
  refine ⟨fr', h', q1, q2, fun p R k g => AM.go rfl (q3 p R (.sc :: k) ?_)⟩
  cases x with
  | n => exact AM.go rfl g
  | x id => exact g.pass (fun q => nomatch q) (fun _ _ => rfl)
  | r => exact g
 | exit id =>
  intro F F' H H' x fr h hF hH e
  cases e
  exact ⟨fr, h, hF, hH, fun p R k g => g.jump⟩
 | ret =>
  intro F F' H H' x fr h hF hH e
  cases e
  exact ⟨fr, h, hF, hH, fun p R k g => g k⟩
 | stop =>
  intro F F' H H' x fr h hF hH e
  cases e
 | rf q ps a b iha ihb =>
  intro F F' H H' x fr h hF hH e
  cases rd with
  | some l => cases e
  | none =>
   change eRfT T E q ps a b F H = some (x, F', H') at e
   unfold eRfT at e
   rw [zSZ q (fun t _ => hF.get t)] at e
   split at e
   ·rename_i f0 fst cap hq
    split at e
    ·cases e
    ·rename_i H1 hpush
     have hH1 : HRel H1 (h ++ [AB.lp .ready .n fr ps a b]) := hH.push (X := some (.lp .ready .n F ps a b)) ⟨fr, hF, rfl⟩ hpush
     split at e
     ·cases e
     ·rename_i v H2 hcall
      simp only [J7J] at hcall
      split at hcall
      ·rename_i gid fst' cap' hq'
       cases hq'
       split at hcall
       ·rename_i c0 hcf
        obtain ⟨cf, rfl, hcf'⟩ := TB.cfs_some hcf
        obtain ⟨f, g1, g2⟩ := hT _ _ hcf'
        change (match Nat.ble (fst ++ [AV.y H.len] ++ cap).length cf.ntmps with
         | true => E (.fn cf) (X9i (fst ++ [AV.y H.len] ++ cap) 0 (FR.full cf.ntmps)) H1
         | false => none) = _ at hcall
        split at hcall
        ·rename_i hle
         have hle' : (fst ++ [AV.y H.len] ++ cap).length ≤ cf.ntmps := by simpa using hle
         obtain ⟨h2, r1, r2⟩ := hE.fn gid f cf _ _ _ _ _ _ g1 g2 (FRel.enter _ _ hle') hH1 hcall
         rw [hH.len] at r2 e
         split at e
         ·rename_i st pd F1 ps1 a1 b1 hlp
          obtain ⟨B, hB, fr1, hF1, rfl⟩ := r1.here hlp
          have hst : st ≠ .busy := fun z => by
           subst z
           cases e
          have e' : some (pd, F, (⟨H2.len, H2.t.set h.length none⟩ : HP)) = some (x, F', H') := by
           rw [← e]
           cases st <;> first | rfl | exact absurd rfl hst
          cases e'
          exact ⟨fr, h2.set h.length .dead, hF, r1.set (X := none) (B := .dead) (List.getElem?_eq_some_iff.1 hB).1 rfl, fun p R k g => AM.rf hq g1 g2 r2 hB hst g.jump⟩
         ·cases e
        ·cases hcall
       ·cases hcall
      ·rename_i id hq'
       cases hq'
      ·cases hcall
   ·cases e
theorem XCQ {F : FR} {fr : List AV} {H : HP} {h : List AB} (hF : FRel F fr) (hH : HRel H h) (rs : List RC) : resT F H rs = resV fr h rs := by
 have one : ∀ r, XA6 F H r = qLi fr h r := fun r => by
  cases r with
  | t n =>
   simp only [XA6, qLi]
   rw [hF.get, zrd]
  | cell n sz =>
   simp only [XA6, qLi]
   rw [Z83 (HP.g_blk hH), hF.get, zrd]
 have all : ∀ rs, KPA F H rs = qxx fr h rs := by
  intro rs
  induction rs with
  | nil => rfl
  | cons r rs ih =>
   simp only [KPA, qxx]
   rw [one, ih]
 unfold resT resV
 rw [all]
 rfl
theorem qgL (hm : P.follows .mixedOrders = true) {T : TB} (hT : Qhr P T) : ∀ n, SoundX P (evTF T n)
 | 0 => ⟨fun g fn cf F fr H h v H' hf hc hF hH e => (by cases e), fun id asg bd F fr H h v H' hF hH e => (by cases e)⟩
 | n + 1 => by
  refine ⟨fun g fn cf F fr H h v H' hf hc hF hH e => ?_, fun id asg bd F fr H h v H' hF hH e => ?_⟩
  ·change finT cf (evCT T (evTF T n) false cf.body F H) = some (v, H') at e
   obtain ⟨_, body, hb, hcb, hres, _⟩ := XGs hc
   unfold finT at e
   split at e
   ·cases e
   ·rename_i x F1 H1 hx
    obtain ⟨fr1, h1, q1, q2, q3⟩ := QjC (P := P) hm hT (qgL hm hT n) (rd := none) (fn := g) cf.body hF hH hx
    cases x with
    | x id => cases e
    | n =>
     simp only at e
     split at e
     ·rename_i u hu
      cases e
      rw [XCQ q1 q2] at hu
      exact ⟨h1, q2, q3 _ _ [] (AM.fin hf hres hu ⟨rfl, rfl⟩)⟩
     ·cases e
    | r =>
     simp only at e
     split at e
     ·rename_i u hu
      cases e
      rw [XCQ q1 q2] at hu
      exact ⟨h1, q2, q3 _ _ [] fun k' => AM.ret hf hres hu ⟨rfl, rfl⟩⟩
     ·cases e
  ·change Jcy T (evTF T n) id asg bd F H = some (v, H') at e
   unfold Jcy at e
   split at e
   ·rename_i F1 H1 hx
    split at e
    ·rename_i pd F0 ps a b hlp
     unfold Z8H at e
     split at e
     ·cases e
     ·rename_i x F2 H2 hx2
      split at e
      ·rename_i st pd' F0' ps' a' b' hlp2
       have main : ∀ g, ∃ fr1 h1 fr2 h2 fr0 fr0', FRel F1 fr1 ∧ HRel H1 h1 ∧ h1[id]? = some (.lp .ready pd fr0 ps a b) ∧ HRel H2 h2 ∧ FRel F0' fr0' ∧ h2[id]? = some (.lp st pd' fr0' ps' a' b') ∧
         (∀ (p : Nat) (R : AV → List AB → Prop) (k : List CI), Left P p (some id) g k R fr1 h1 .n → AM P p (some id) g (.code asg :: k) fr h R) ∧
         (∀ (p : Nat) (R : AV → List AB → Prop) (k : List CI), Left P p (some id) g k R fr2 h2 x → AM P p (some id) g (.code bd :: k) fr1 (h1.set id (.lp .busy pd fr0 ps a b)) R) := fun g => by
        obtain ⟨fr1, h1, q1, q2, q3⟩ := QjC (P := P) hm hT (qgL hm hT n) (rd := some id) (fn := g) asg hF hH hx
        obtain ⟨B, hB, fr0, hF0, rfl⟩ := q2.here hlp
        have q2' := q2.set (i := id) (X := some (.lp .busy pd F0 ps a b)) (B := .lp .busy pd fr0 ps a b) (List.getElem?_eq_some_iff.1 hB).1 ⟨fr0, hF0, rfl⟩
        obtain ⟨fr2, h2, z1, z2, z3⟩ := QjC (P := P) hm hT (qgL hm hT n) (rd := some id) (fn := g) bd q1 q2' hx2
        obtain ⟨B2, hB2, fr0', hF0', rfl⟩ := z2.here hlp2
        exact ⟨fr1, h1, fr2, h2, fr0, fr0', q1, q2, hB, z2, hF0', hB2, q3, z3⟩
       obtain ⟨fr1, h1, fr2, h2, fr0, fr0', m1, m2, m3, m4, m5, m6, m7, m8⟩ := main 0
       have same : ∀ g, ∃ fr2', (∀ (p : Nat) (R : AV → List AB → Prop) (k : List CI), Left P p (some id) g k R fr1 h1 .n → AM P p (some id) g (.code asg :: k) fr h R) ∧
         (∀ (p : Nat) (R : AV → List AB → Prop) (k : List CI), Left P p (some id) g k R fr2' h2 x → AM P p (some id) g (.code bd :: k) fr1 (h1.set id (.lp .busy pd fr0 ps a b)) R) := fun g => by
        obtain ⟨fr1', h1', fr2', h2', fr0a, fr0b, n1, n2, n3, n4, n5, n6, n7, n8⟩ := main g
        have e1 := n1.unique m1
        have e2 := n2.unique m2
        have e3 := n4.unique m4
        subst e1; subst e2; subst e3
        rw [n3] at m3
        cases m3
        exact ⟨fr2', n7, n8⟩
       have hlt : id < h2.length := (List.getElem?_eq_some_iff.1 m6).1
       have fin : ∀ (st' : LoopState) (y : XE), HRel ⟨H2.len, H2.t.set id (some (.lp st' y F0' ps' a' b'))⟩ (h2.set id (.lp st' y fr0' ps' a' b')) := fun st' y => m4.set hlt ⟨fr0', m5, rfl⟩
       cases x with
       | n =>
        cases e
        refine ⟨_, fin .ready .n, fun g => ?_⟩
        obtain ⟨fr2', n7, n8⟩ := same g
        exact n7 _ _ [.br, .code bd] (AM.br m3 (n8 _ _ [] (AM.rend m6 ⟨rfl, rfl⟩)))
       | x y =>
        cases e
        refine ⟨_, fin .done (.x y), fun g => ?_⟩
        obtain ⟨fr2', n7, n8⟩ := same g
        exact n7 _ _ [.br, .code bd] (AM.br m3 (n8 _ _ [] (.inr ⟨rfl, fun k' hk => AM.rexit hk m6 ⟨rfl, rfl⟩⟩)))
       | r =>
        cases e
        refine ⟨_, fin .done .r, fun g => ?_⟩
        obtain ⟨fr2', n7, n8⟩ := same g
        exact n7 _ _ [.br, .code bd] (AM.br m3 (n8 _ _ [] fun k' => AM.rret m6 ⟨rfl, rfl⟩))
      ·cases e
    ·cases e
   ·cases e
theorem Calls.evTD (hm : P.follows .mixedOrders = true) {T : TB} (hT : Qhr P T) (n g : Nat) {cf : CF} (hg : T g = some (.cf cf)) (e : runT T n cf = true) (w : World) (g0 : ∃ N, GG N w) :
  Calls P g #[] w (fun en w' => en = .returned (.bool true) ∧ Quietly w w' ∧ dr w ≤ dr w') := by
 intro cs
 obtain ⟨fn, hf, hc⟩ := hT g _ hg
 obtain ⟨_, body, hb, hcb, hres, hnt⟩ := XGs hc
 unfold runT isTT at e
 split at e
 ·rename_i H' he
  have h0 : HRel ⟨0, HT.full 14⟩ [] := ⟨rfl, by simp, fun i _ => HT.full_get 14 i, fun i B q => by simp at q, fun i hi => HT.full_has 14 i (by omega)⟩
  obtain ⟨h', _, am⟩ := (qgL hm hT n).fn g fn cf _ _ _ _ _ _ hf hc (FRel.full cf.ntmps) h0 he
  let bf : Frame := { (default : Frame) with fn := g, kind := .normal, roundOf := none }
  have henter : Frame.enter P g #[] .normal = bf.atR { tmps := Array.replicate fn.ntmps undef, defers := [] } [.code body] := by
   simp [Frame.enter, Frame.atR, hf, hb, bf]
  have hrel : Rel (KC P) [] [] w := ⟨rfl, fun i B b o n h => by simp at h, fun i j bi oi bj oj Bi Bj _ h => by simp at h, GL.nil g0⟩
  obtain ⟨v, w', ⟨a, h'', ρ', ⟨ha, _⟩, hv, _, heff⟩, frm, hst, hfn, hlv⟩ := am [] w (Array.replicate fn.ntmps undef) [.code body] bf cs [] rfl rfl rfl (Nat.le_refl _) (.mcode hcb trivial) (by rw [hnt]; exact qmv [] _) hrel ⟨List.nodup_nil, fun r h => by simp at h⟩
  subst ha
  cases hv
  refine ⟨.returned (.bool true), w', frm, ⟨rfl, ⟨heff.os, heff.tape, heff.output.1, heff.size, fun k hk => heff.p.keep k hk fun ho => ?_⟩, heff.output.2⟩, by rw [henter]; exact hst, hfn, hlv⟩
  obtain ⟨i, B, o, h1, _⟩ := ho
  simp at h1
 ·cases e
theorem FnC.closed (hm : P.follows .mixedOrders = true) {T : TB} (hT : Qhr P T) (n g : Nat) {cf : CF} (hg : T g = some (.cf cf)) (e : runT T n cf = true) (h : List AB) : FnC P g [] h (.b true) h := by
 obtain ⟨fn, hf, hc⟩ := hT g _ hg
 obtain ⟨hname, body, hb, _⟩ := XGs hc
 refine ⟨⟨fn, body, hf, by simpa using hname, hb⟩, fun ρ w vals hr hv => ?_⟩
 obtain rfl : vals = #[] := Array.eq_empty_of_size_eq_zero hv.1.symm
 refine (Calls.evTD hm hT n g hg e w hr.gl.some).mono ?_
 rintro en w' ⟨rfl, q, hd⟩
 refine ⟨_, ρ, rfl, .b true, ⟨hr.len, fun i B bb o n h1 h2 => (hr.blk i B bb o n h1 h2).same (Ext.refl _) fun hl => q.block bb ((hr.blk i B bb o n h1 h2).lt hl), hr.sep, hr.gl.keep q.size (fun k hk _ => q.block k hk) fun _ z => .inl z⟩, ?_⟩
 have : Eff ρ h w ρ h w' := ⟨q.os, q.tape, ⟨q.output, hd⟩, q.size, fun k hk _ => q.block k hk, fun _ q => .inl q, fun _ _ q => .inl q⟩
 exact this.p (Ext.refl _) (by rw [hr.len]; exact Nat.le_refl _)
def AllN (P : Program) : Nat → List (Option TC) → Prop
 | _, [] => True
 | g, none :: l => AllN P (g + 1) l
 | g, some c :: l => c.Ok P g ∧ AllN P (g + 1) l
def AllNs (P : Program) : Nat → List (List (Option TC)) → Prop
 | _, [] => True
 | g, r :: l => AllN P g r ∧ AllNs P (g + 16) l
theorem AllN.cons {g : Nat} {fn : Func} {c : CF} {l : List (Option TC)} (h1 : P.funcs[g]? = some fn) (h2 : KVl P fn = some c) (h3 : AllN P (g + 1) l) : AllN P g (some (.cf c) :: l) := ⟨⟨fn, h1, h2⟩, h3⟩
theorem AllN.nv {g : Nat} {f : List AV → GT → Nat → Option (AV × HE)} {l : List (Option TC)} (h1 : NvOk P g f) (h3 : AllN P (g + 1) l) : AllN P g (some (.nv f) :: l) := ⟨h1, h3⟩
theorem AllN.skip {g : Nat} {l : List (Option TC)} (h3 : AllN P (g + 1) l) : AllN P g (none :: l) := h3
theorem AllNs.cons {g : Nat} {r : List (Option TC)} {l : List (List (Option TC))} (h1 : AllN P g r) (h2 : AllNs P (g + 16) l) : AllNs P g (r :: l) := ⟨h1, h2⟩
noncomputable def K3z (l : List (Option TC)) : Nat → Option TC := List.rec (motive := fun _ => Nat → Option TC) (fun _ => none) (fun a _ ih n => Nat.rec (motive := fun _ => Option TC) a (fun m _ => ih m) n) l
noncomputable def QKY (l : List (List (Option TC))) : Nat → List (Option TC) := List.rec (motive := fun _ => Nat → List (Option TC)) (fun _ => []) (fun a _ ih n => Nat.rec (motive := fun _ => List (Option TC)) a (fun m _ => ih m) n) l
noncomputable def tabn (tls : List (List (Option TC))) (g : Nat) : Option TC := K3z (QKY tls (Nat.div g 16)) (Nat.mod g 16)
theorem zrt : ∀ (l : List (Option TC)) (g j : Nat) (c : TC), AllN P g l → K3z l j = some c → c.Ok P (g + j)
 | [], _, _, _, _, e => by cases e
 | none :: l, g, 0, c, h, e => by cases e
 | some d :: l, g, 0, c, h, e => by
  cases e
  exact h.1
 | none :: l, g, j + 1, c, h, e => by
  have := zrt l (g + 1) j c h e
  rw [show g + 1 + j = g + (j + 1) by omega] at this
  exact this
 | some d :: l, g, j + 1, c, h, e => by
  have := zrt l (g + 1) j c h.2 e
  rw [show g + 1 + j = g + (j + 1) by omega] at this
  exact this
theorem qmr : ∀ (tls : List (List (Option TC))) (g b : Nat), AllNs P g tls → AllN P (g + 16 * b) (QKY tls b)
 | [], _, _, _ => trivial
 | r :: l, g, 0, h => h.1
 | r :: l, g, b + 1, h => by
  have := qmr l (g + 16) b h.2
  rw [show g + 16 + 16 * b = g + 16 * (b + 1) by omega] at this
  exact this
theorem QTN (tls : List (List (Option TC))) (h : AllNs P 0 tls) : Qhr P (tabn tls) := fun g c e => by
 have := zrt _ _ _ _ (qmr tls 0 (g / 16) h) e
 have hg : 0 + 16 * (g / 16) + Nat.mod g 16 = g := by
  have : Nat.mod g 16 = g % 16 := rfl
  omega
 rw [hg] at this
 exact this
end
end Go.Proofs.YtebcngelgdpbjaaGreat
end
