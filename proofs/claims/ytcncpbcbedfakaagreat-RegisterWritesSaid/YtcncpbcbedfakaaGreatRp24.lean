/- Part 24 of what the laws' proofs rest on. No condition. -/
import Derived.Test.YtcncpbcbedfakaaGreatRp23
set_option linter.all false
section
namespace Go.Proofs.YtcncpbcbedfakaaGreat
set_option maxRecDepth 100000
set_option maxHeartbeats 4000000
theorem JNZ {c : Ctx} {k : List IT} {fr : List AV} {h : List AB} {len0 n anc : Nat} {past : List Pt} {d : Option Nat} {l : List DOp} (rs : List Nat) (vs : List AV) (v : AV) : W c (.dmk [] vs (some (v, zzT rs [] 0 h)) len0 n anc past d l :: k) fr h = (okL (fun i => decide (i < h.length)) vs = true ∧ HOk h ∧ indA len0 anc past [] past = true ∧ v.ok (qOk len0 h.length h.length anc past) = true ∧
      W c (.drw len0 (n + 1) (⟨n, h.length, h.length, seen len0 anc (QDy past) h.length, []⟩ :: past) l :: k) (put fr d v) h) := by
  rw [← Khu, Xjh]
  have e1 : (zzT rs [] 0 h).length = h.length := JTl _ _ _ _
  have e2 : ZcD [] (zzT rs [] 0 h) 0 h = h := by
    refine List.ext_getElem? fun i => ?_
    rw [Yrq]
    split
    · rw [if_neg (by simp)]
    · rename_i hi
      rw [Nat.zero_add, List.getElem?_eq_none (by omega), List.getElem?_eq_none (by omega)]
  have e3 : (zzT rs [] 0 h).drop h.length = [] := List.drop_eq_nil_of_le (by omega)
  simp only [e1, e2, e3, List.all_nil, Nat.le_refl, true_and]
theorem qU3 {h : List AB} (hh : HOk h) {α : Type} {r : Row α} (id : Nat) (m : Bool) (L : List α)  : HOk (h.set id (resB r m L) ++ []) = True := by
 refine eq_true fun i B hB => ?_
 rw [List.append_nil] at hB ⊢
 rw [List.length_set]
 rw [List.getElem?_set] at hB
 split at hB
 ·split at hB
  ·cases hB
   unfold resB
   split
   ·rfl
   ·rfl
  ·cases hB
 ·exact hh i B hB
theorem YZ2 {h : List AB} (hh : HOk h) : HOk (h ++ []) = True := eq_true (by rw [List.append_nil]; exact hh)
theorem XAn {h : List AB} {id i n : Nat} {l : List Hd} (hi : h[id]? = some (resB Qv2 true l)) (hl : i + n = l.length) (hn : 0 < n) (c : Nat) (x : List AB) : clrV (h ++ x) (Qv2.f ((0, 0), ZxU)) (.sl id (0 + i * 34) n c (some 34)) = some (.tu [], h.set id (resB Qv2 true (l.take i ++ List.replicate n ((0, 0), ZxU))) ++ x) := by
 have hlt := (List.getElem?_eq_some_iff.1 hi).1
 have hi2 : (h ++ x)[id]? = some (resB Qv2 true l) := by rw [List.getElem?_append_left hlt]; exact hi
 have := qwG (r := Qv2) hi2 hl hn (zqp ((0, 0), ZxU))
 simp only [clrV]
 rw [if_neg (by omega), Nat.zero_add, show i * 34 = i * Qv2.sz from rfl, this, List.set_append_left _ _ hlt]
 rfl
theorem QFy {h : List AB} {id i n : Nat} {L m : List Hd} (hlt : id < h.length) (hL : L.length = n) (hi : i ≤ n) (h0 : 0 < n) (ht : L.take i = m) : Bt Tryz.prog h.length [.sl id 0 i n (some 34)] (h.set id (resB Qv2 true L) ++ []) [rsl Qv2 id m] (h.set id (resB Qv2 true m)) := by
 subst ht hL
 rw [List.append_nil]
 have hb := Bt.take (P := Tryz.prog) (p := h.length) (fr := [.sl id 0 i L.length (some 34)]) (h := h.set id (resB Qv2 true L)) (i := id) (n := i) (m := true) (l := L) (List.getElem?_set_self hlt) hi
 rw [List.set_set] at hb
 refine hb.trans (Bt.wk ⟨?_, trivial⟩)
 have e : AV.sl id 0 i L.length (some 34) = cutS (rsl Qv2 id L) i := by
  unfold rsl
  rw [if_neg (by omega)]
  rfl
 rw [e]
 exact Q64 id hi
abbrev sdP (x y : Hd) : Prop := x.1 = y.1
def cpH (l : List Hd) : List Hd := cmpL sdP l
theorem z3b {l : List Hd} (h : l.length < 2) : cpH l = l := by
 unfold cpH
 match l, h with
 | [], _ => rfl
 | [a], _ => rfl
open Classical in
noncomputable def Jn4 : List AV → List AB → Option (AV × List AB)
 | [s, .f (.func 111) [] []], h => (getS Qv2 h s).bind fun l => match idOf s with
   | [id] => if s = rsl Qv2 id l ∧ h[id]? = some (resB Qv2 true l) ∧ l.length ≤ 1000000 then some (rsl Qv2 id (cpH l), h.set id (resB Qv2 true (cpH l))) else none
   | _ => none
 | _, _ => none
theorem qxF : Spec Tryz.prog 109 Jn4 := by
 intro args h v h' e
 unfold Jn4 at e
 split at e
 ·rename_i s
  obtain ⟨l, hs, e⟩ := Ksw e
  split at e
  ·rename_i id hid
   split at e
   ·rename_i hc
    cases e
    obtain ⟨h1, h2, h3⟩ := hc
    have hlt := (List.getElem?_eq_some_iff.1 h2).1
    by_cases h0 : l.length < 2
    ·rw [z3b h0, XUQ h2, ← h1]
     refine FnAt.c (FnAt.run (by kernel_rfl) (T := ⟨[], []⟩) ⟨trivial, trivial⟩ Tryz.func109 Q7U fun ho hh => ?_)
     simp only [Xto, Bool.and_eq_true] at ho
     have f1 := hs.fx ho.1 (sz := 34) rfl
     have g0 : ((l.length : Int) < 2) = True := eq_true (by omega)
     unfold w109
     simp only [X7f, KtR, YUa, XuN, simprocAttr, f1, g0]
     exact ⟨Bt.eq rfl (List.append_nil h), fun q => q.elim⟩
    have hS : rsl Qv2 id l = .sl id 0 l.length l.length (some 34) := by unfold rsl; rw [if_neg (by omega)]; rfl
    rw [h1, hS]
    refine FnAt.c (FnAt.run (by kernel_rfl) (T := ⟨[⟨111, qI6, fun _ => []⟩], []⟩) ⟨⟨Xle, trivial⟩, trivial⟩ Tryz.func109 Q7U fun ho hh => ?_)
    have hokS := fun L => qU3 (r := Qv2) hh id true L
    have hokZ := YZ2 hh
    have ld := fun (x : List AB) (o j : Nat) (hj : j < l.length) (q : o = j * 34) => Zt8 (r := Qv2) h2 hj q x
    have g0 : ((l.length : Int) < 2) = False := eq_false (by omega)
    unfold w109
    simp only [X7f, KtR, YUa, XuN, simprocAttr, lenV, g0, false_implies, true_and]
    refine KUy (S := Nat) (fun k => l.length - k) (fun k => [.sl id 0 l.length l.length (some 34), .f (.func 111) [] []] ++ tp 3 ++ [.i .i64 k] ++ tp 60) (fun k => 0 < k ∧ k ≤ l.length ∧ ∀ j, 0 < j → j < k → ¬ (l.getD j Qv2.d).1 = (l.getD (j - 1) Qv2.d).1) 1 ⟨Nat.one_pos, by omega, fun j a b => absurd a (by omega)⟩ (by simp only [YUa, XuN, simprocAttr]) fun k hk => ?_
    obtain ⟨hk0, hk1, hk2⟩ := hk
    by_cases hkl : k < l.length
    ·have g1 : ((k : Int) < (l.length : Int)) = True := eq_true (by omega)
     have g2 : (k - 1 < l.length) = True := eq_true (by omega)
     have e1 : IntKind.i64.wrap ((k : Int) + 1) = ((k + 1 : Nat) : Int) := ZPn (by unfold In64; omega)
     have e2 : IntKind.i64.wrap ((k : Int) - 1) = ((k - 1 : Nat) : Int) := by
      have : (k : Int) - 1 = ((k - 1 : Nat) : Int) := by omega
      rw [this]
      exact ZPn (by unfold In64; omega)
     have l1 := fun x => ld x (0 + k * 34) k hkl (by omega)
     have l2 := fun x => ld x (0 + (k - 1) * 34) (k - 1) (by omega) (by omega)
     simp only [J7X] at l1 l2
     have sK : slL 34 (.sl id 0 l.length l.length (some 34)) (some (.i .i64 (k : Int))) none none = some (.sl id (0 + k * 34) (l.length - k) (l.length - k) (some 34)) := by
      simp [slL, bnd, kcut, hkl, Nat.le_of_lt hkl, Nat.ne_of_gt hk0]
     simp only [YUa, YOR, XuN, simprocAttr, CO.tmps, Opd.tmps, optT, Nat.reducePow, Nat.reduceDiv, Nat.reduceMod, lenV, g1, g2, hkl, iadV, e1, e2, l1, l2, qI6, XMh, JNZ, hokS, hokZ, AV.ok, z1J, YiS, hlt, Nat.add_zero, if_true, true_and, decide_true, sK]
     refine ⟨fun q => ?_, fun q => ⟨k + 1, ⟨by omega, by omega, fun j a b => ?_⟩, by omega, Wk.refl _⟩⟩
     ·have hset : h.set id (resB Qv2 true l) = h := XUQ h2
      refine QZo (S := Nat × Nat × List Hd) (fun s => l.length - s.1) (fun s => [.sl id 0 l.length l.length (some 34), .f (.func 111) [] []] ++ tp 3 ++ [.i .i64 s.2.1, .sl id (0 + k * 34) (l.length - k) (l.length - k) (some 34), .i .i64 s.1] ++ tp 58) (fun s => h.set id (resB Qv2 true s.2.2) ++ []) (fun s => 0 < s.1 ∧ CmpSt sdP l s.2.2 (k + s.1) s.2.1) (1, k, l) ⟨Nat.one_pos, CmpSt.first sdP l Qv2.d hk0 hkl hk2 q⟩ (by rw [hset]; exact Bt.wk (by simp only [YUa, XuN, simprocAttr])) fun s hs => ?_
      obtain ⟨j, i, L⟩ := s
      obtain ⟨hj0, st⟩ := hs
      dsimp only at hj0 st ⊢
      have hL := st.len
      have hi := st.lt
      have hle := st.le
      have hi2 : (h.set id (resB Qv2 true L))[id]? = some (resB Qv2 true L) := List.getElem?_set_self hlt
      by_cases hjl : k + j < l.length
      ·have g3 : ((j : Int) < ((l.length - k : Nat) : Int)) = True := eq_true (by omega)
       have g4 : (j < l.length - k) = True := eq_true (by omega)
       have g5 : (j - 1 < l.length - k) = True := eq_true (by omega)
       have e3 : IntKind.i64.wrap ((j : Int) + 1) = ((j + 1 : Nat) : Int) := ZPn (by unfold In64; omega)
       have e4 : IntKind.i64.wrap ((j : Int) - 1) = ((j - 1 : Nat) : Int) := by
        have : (j : Int) - 1 = ((j - 1 : Nat) : Int) := by omega
        rw [this]
        exact ZPn (by unfold In64; omega)
       have e5 : IntKind.i64.wrap ((i : Int) + 1) = ((i + 1 : Nat) : Int) := ZPn (by unfold In64; omega)
       have q1 := fun x => Zt8 (r := Qv2) (o := 0 + (k * 34 + j * 34)) (j := k + j) hi2 (by omega) (by rw [J7X]; omega) x
       have q2 := fun x => Zt8 (r := Qv2) (o := 0 + (k * 34 + (j - 1) * 34)) (j := k + j - 1) hi2 (by omega) (by rw [J7X]; omega) x
       simp only [J7X, st.getD sdP Qv2.d (show k + j - 1 ≤ k + j by omega), st.getD sdP Qv2.d (Nat.le_refl (k + j - 1))] at q1 q2
       simp only [YUa, YOR, XuN, simprocAttr, CO.tmps, Opd.tmps, optT, Nat.reducePow, Nat.reduceDiv, Nat.reduceMod, lenV, g3, g4, g5, iadV, e3, e4, e5, q1, q2, qI6, XMh, JNZ, hokS, hokZ, AV.ok, z1J, YiS, hlt, List.length_set, Nat.add_zero, if_true, true_and, decide_true]
       have q3 := fun x => z4E (r := Qv2) (o := 0 + i * 34) (j := i) (y := l.getD (k + j) Qv2.d) hi2 (by omega) (by rw [J7X]; omega) (zqp _) x
       have g6 : (i < l.length) = True := eq_true (by omega)
       simp only [J7X, List.set_set] at q3
       simp only [YUa, YOR, XuN, simprocAttr, CO.tmps, Opd.tmps, optT, Nat.reducePow, Nat.reduceDiv, Nat.reduceMod, lenV, g4, g6, iadV, q1, q3, e3, e5, false_implies]
       exact ⟨fun q => ⟨(j + 1, i + 1, L.set i (l.getD (k + j) Qv2.d)), ⟨Nat.succ_pos _, st.keep sdP Qv2.d hjl q⟩, by dsimp only; omega, Bt.wk (by simp only [YUa, XuN, simprocAttr])⟩, fun q => ⟨(j + 1, i, L), ⟨Nat.succ_pos _, st.skip sdP Qv2.d hjl (Classical.not_not.1 q)⟩, by dsimp only; omega, Bt.wk (by simp only [YUa, XuN, simprocAttr])⟩⟩
      ·have g3 : ((j : Int) < ((l.length - k : Nat) : Int)) = False := eq_false (by omega)
       simp only [YUa, XuN, simprocAttr, lenV, g3, false_implies, true_and]
       have g6 : (i < l.length) = True := eq_true (by omega)
       have sI : slL 34 (.sl id 0 l.length l.length (some 34)) (some (.i .i64 (i : Int))) none none = some (.sl id (0 + i * 34) (l.length - i) (l.length - i) (some 34)) := by
        have i0 : i < l.length := by omega
        simp [slL, bnd, kcut, i0, Nat.le_of_lt i0, Nat.ne_of_gt st.pos]
       have sJ : slL 34 (.sl id 0 l.length l.length (some 34)) none (some (.i .i64 (i : Int))) none = some (.sl id 0 i l.length (some 34)) := by
        have i0 : i ≤ l.length := by omega
        simp [slL, bnd, kcut, i0]
       have zi : ∀ (zl : List AV), zl = Qv2.f ((0, 0), ZxU) → ∀ x, clrV (h.set id (resB Qv2 true L) ++ x) zl (.sl id (0 + i * 34) (l.length - i) (l.length - i) (some 34)) = some (.tu [], h.set id (resB Qv2 true (L.take i ++ List.replicate (l.length - i) ((0, 0), ZxU))) ++ x) := fun zl hz x => by
        rw [hz, XAn hi2 (by omega) (by omega), List.set_set]
       have zj := zi _ (show ([.i .i64 0, .i .i64 0] ++ List.replicate 32 (AV.i .u8 0)) = Qv2.f ((0, 0), ZxU) from rfl)
       simp only [List.replicate, List.cons_append, List.nil_append] at zj
       simp only [YUa, XuN, simprocAttr, sI, sJ, Ztl, zj]
       have hm : (L.take i ++ List.replicate (l.length - i) ((0, 0), ZxU)).take i = cpH l := by
        rw [List.take_left' (by rw [List.length_take]; omega), st.hd]
        have : k + j = l.length := by omega
        rw [this, List.take_length]
        rfl
       exact QFy hlt (by rw [List.length_append, List.length_take, List.length_replicate]; omega) (by omega) (by omega) hm
     ·rcases Nat.eq_or_lt_of_le (Nat.le_of_lt_succ b) with z | z
      ·subst z; exact q
      ·exact hk2 j a z
    ·have g1 : ((k : Int) < (l.length : Int)) = False := eq_false (by omega)
     simp only [YUa, XuN, simprocAttr, lenV, g1, false_implies, true_and]
     have hk3 : k = l.length := by omega
     have ha : cpH l = l := by
      unfold cpH
      have := Kyk sdP l Qv2.d l.length (Nat.le_refl _) (by rw [← hk3]; exact hk2)
      rwa [List.take_length] at this
     rw [ha, hS, XUQ h2]
     exact Bt.eq rfl (List.append_nil h)
   ·cases e
  ·cases e
 ·cases e
end Go.Proofs.YtcncpbcbedfakaaGreat
end
section
namespace Go.Proofs.YtcncpbcbedfakaaGreat
section
variable {va vb vc : List Int} {da db dc : Dots}
theorem qBh (a : NF va da) (b : NF vb db) : NF (Zjt va vb da db).1 (Zjt va vb da db).2 := NF.fm (JT6 a.rg b.rg)
theorem ztk (a : NF va da) (b : NF vb db) : (Zjt va vb da db).2.length ≤ da.length + db.length := by
 have := zp4 (JT6 a.rg b.rg)
 rw [List.length_append] at this
 exact this
end
end Go.Proofs.YtcncpbcbedfakaaGreat
end
section
namespace Go.Proofs.YtcncpbcbedfakaaGreat
structure RG (l : List Hd) (v : List Int) (ds : Dots) : Prop where
 nf : NF v ds
 len : ds.length ≤ 4096
 rise : l.Pairwise J9e
 sn : ∀ x ∈ l, inC v ds x.1
theorem RG.one {l : List Hd} {v : List Int} {ds : Dots} (a : RG l v ds) {x y : Hd} (hx : x ∈ l) (hy : y ∈ l) (h : x.1 = y.1) : x = y := by
 have := a.rise
 obtain ⟨i, hi, rfl⟩ := List.getElem_of_mem hx
 obtain ⟨j, hj, rfl⟩ := List.getElem_of_mem hy
 rcases Nat.lt_trichotomy i j with q | rfl | q
 ·have z := List.pairwise_iff_getElem.1 this i j hi hj q
  unfold J9e at z
  rw [h] at z
  exact absurd z (Yq4 _)
 ·rfl
 ·have z := List.pairwise_iff_getElem.1 this j i hj hi q
  unfold J9e at z
  rw [h] at z
  exact absurd z (Yq4 _)
theorem XIR {l m : List Hd} (hp : m.Perm l) (hs : m.Pairwise fun x y => ¬ X1k y.1 x.1) (hd : l.Pairwise fun x y => x.1 ≠ y.1) : m.Pairwise J9e := by
 have hd' : m.Pairwise fun x y => x.1 ≠ y.1 := (hp.pairwise_iff (fun {x y} h => Ne.symm h)).2 hd
 refine (hs.and hd').imp fun {x y} h => ?_
 rcases XH3 x.1 y.1 with q | q | q
 ·exact q
 ·exact absurd q h.2
 ·exact absurd q h.1
theorem KGi {l : List Hd} (h : l.Pairwise J9e) : l.Pairwise fun x y => x.1 ≠ y.1 := h.imp fun {x y} q e => by
 unfold J9e at q
 rw [e] at q
 exact Yq4 _ q
open Classical in
noncomputable def outG (v : List Int) (ds : Dots) (l : List Hd) : List Hd := l.filter fun x => decide (¬ inC v ds x.1)
theorem Kcr {v : List Int} {ds : Dots} {l : List Hd} {x : Hd} : x ∈ outG v ds l ↔ x ∈ l ∧ ¬ inC v ds x.1 := by simp [outG]
theorem YK4 {v : List Int} {ds : Dots} {l : List Hd} (h : l.Pairwise J9e) : (outG v ds l).Pairwise J9e := h.filter _
def KRX (l l' : List Hd) : Prop := ∀ x ∈ l, ∀ y ∈ l', x.1 = y.1 → x.2 = y.2
open Classical in
noncomputable def jnU (l l' : List Hd) (v v' : List Int) (ds ds' : Dots) : List Hd := (l.filter fun x => decide (∃ y ∈ l', y.1 = x.1)) ++ outG v' ds' l ++ outG v ds l'
theorem Q3D {l l' : List Hd} {v v' : List Int} {ds ds' : Dots} {x : Hd} : x ∈ jnU l l' v v' ds ds' ↔ (x ∈ l ∧ ∃ y ∈ l', y.1 = x.1) ∨ (x ∈ l ∧ ¬ inC v' ds' x.1) ∨ (x ∈ l' ∧ ¬ inC v ds x.1) := by
 simp [jnU, outG]
theorem qH5 {l l' : List Hd} {v v' : List Int} {ds ds' : Dots} (a : RG l v ds) (b : RG l' v' ds') : (jnU l l' v v' ds ds').Pairwise fun x y => x.1 ≠ y.1 := by
 unfold jnU
 refine List.pairwise_append.2 ⟨List.pairwise_append.2 ⟨(KGi a.rise).filter _, KGi (YK4 a.rise), fun x hx y hy e => ?_⟩, KGi (YK4 b.rise), fun x hx y hy e => ?_⟩
 ·have hx' := (List.mem_filter.1 hx).2
  obtain ⟨z, hz, hz2⟩ := of_decide_eq_true hx'
  have := (Kcr.1 hy).2
  rw [← e, ← hz2] at this
  exact this (b.sn z hz)
 ·have h1 := (Kcr.1 hy).2
  rw [← e] at h1
  rcases List.mem_append.1 hx with q | q
  ·exact h1 (a.sn x (List.mem_filter.1 q).1)
  ·exact h1 (a.sn x (Kcr.1 q).1)
structure Jn (l l' : List Hd) (v v' : List Int) (ds ds' : Dots) (m : List Hd) : Prop where
 rise : m.Pairwise J9e
 mem : ∀ x, x ∈ m ↔ x ∈ jnU l l' v v' ds ds'
theorem Jn.uniq {l l' : List Hd} {v v' : List Int} {ds ds' : Dots} {m m' : List Hd} (h : Jn l l' v v' ds ds' m) (h' : Jn l l' v v' ds ds' m') : m = m' :=
 JGF ZBK h.rise h'.rise fun x => by rw [h.mem, h'.mem]
theorem ZAP {l l' : List Hd} {v v' : List Int} {ds ds' : Dots} (g : KRX l l') {x : Hd} : x ∈ jnU l l' v v' ds ds' ↔ (x ∈ l ∧ x ∈ l') ∨ (x ∈ l ∧ ¬ inC v' ds' x.1) ∨ (x ∈ l' ∧ ¬ inC v ds x.1) := by
 rw [Q3D]
 constructor
 ·rintro (⟨h1, y, hy, e⟩ | h | h)
  ·have : x = y := Prod.ext e.symm (g x h1 y hy e.symm)
   rw [← this] at hy
   exact .inl ⟨h1, hy⟩
  ·exact .inr (.inl h)
  ·exact .inr (.inr h)
 ·rintro (⟨h1, h2⟩ | h | h)
  ·exact .inl ⟨h1, x, h2, rfl⟩
  ·exact .inr (.inl h)
  ·exact .inr (.inr h)
section
variable {la lb lc : List Hd} {va vb vc : List Int} {da db dc : Dots}
end
end Go.Proofs.YtcncpbcbedfakaaGreat
end
section
namespace Go.Proofs.YtcncpbcbedfakaaGreat
set_option maxRecDepth 100000
set_option maxHeartbeats 4000000
theorem JtP {α : Type} (q : α → α → Prop) [DecidableRel q] : ∀ (l : List α) (p : α), (cmps q p l).length = l.length → (p :: l).Pairwise (fun _ _ => True) ∧ ∀ i (h : i + 1 < (p :: l).length), ¬ q (p :: l)[i + 1] ((p :: l)[i]'(by omega))
 | [], p, _ => ⟨List.pairwise_singleton _ _, fun i h => by simp at h⟩
 | x :: l, p, e => by
  simp only [cmps] at e
  split at e
  ·have := q5T q l x
   simp only [List.length_cons] at e
   omega
  ·rename_i hq
   simp only [List.length_cons, Nat.add_right_cancel_iff] at e
   refine ⟨List.pairwise_of_forall (fun _ _ => trivial), fun i h => ?_⟩
   cases i with
   | zero => exact hq
   | succ i => exact (JtP q l x e).2 i (by simpa using h)
theorem z60 (l : List Hd) : (rswP l 0 ∧ (cpH l).length = l.length) ↔ l.Pairwise J9e := by
 rw [Kd5 ZBK]
 have gd : ∀ k (h : k < l.length), l.getD k Qv2.d = l[k] := fun k h => by rw [List.getD_eq_getElem?_getD, List.getElem?_eq_getElem h]; rfl
 constructor
 ·rintro ⟨h1, h2⟩ i hi
  have a1 := h1 (i + 1) (Nat.zero_le _) (Nat.succ_pos _) hi
  rw [gd _ hi, Nat.add_sub_cancel, gd i (by omega), QVK] at a1
  have a2 : ¬ l[i + 1].1 = (l[i]'(by omega)).1 := by
   unfold cpH at h2
   cases l with
   | nil => simp at hi
   | cons a l =>
    simp only [cmpL, List.length_cons, Nat.add_right_cancel_iff] at h2
    exact (JtP sdP l a h2).2 i hi
  rcases XH3 (l[i]'(by omega)).1 l[i + 1].1 with q | q | q
  ·exact q
  ·exact absurd q.symm a2
  ·exact absurd q a1
 ·intro h
  have hk : ∀ k, 0 < k → k < l.length → X1k (l.getD (k - 1) Qv2.d).1 (l.getD k Qv2.d).1 := fun k h1 h2 => by
   obtain ⟨j, rfl⟩ : ∃ j, k = j + 1 := ⟨k - 1, by omega⟩
   rw [gd _ h2, Nat.add_sub_cancel, gd j (by omega)]
   exact h j h2
  refine ⟨fun k _ h1 h2 q => ?_, ?_⟩
  ·rw [QVK] at q
   exact Yq4 _ (K9m q (hk k h1 h2))
  ·have := Kyk sdP l Qv2.d l.length (Nat.le_refl _) fun k h1 h2 q => by
    have z := hk k h1 h2
    rw [show (l.getD k Qv2.d).1 = (l.getD (k - 1) Qv2.d).1 from q] at z
    exact Yq4 _ z
   rw [List.take_length] at this
   unfold cpH
   rw [this]
noncomputable instance (l : List Hd) : Decidable (l.Pairwise J9e) := Classical.propDecidable _
noncomputable def X82 : List AV → List AB → Option (AV × List AB)
 | [s], h => (getS Qv2 h s).bind fun l => if l.length ≤ 1000000 then some (.b (decide (l.Pairwise J9e)), h) else none
 | _, _ => none
theorem QVw : Spec Tryz.prog 71 X82 := by
 intro args h v h' e
 unfold X82 at e
 split at e
 ·rename_i s
  obtain ⟨l, hl, e⟩ := Ksw e
  split at e
  ·rename_i hL
   cases e
   refine FnAt.c (FnAt.run (by kernel_rfl) (T := ⟨[⟨108, qsJ, fun _ => []⟩, ⟨110, KNN, fun _ => []⟩, ⟨109, Jn4, fun _ => []⟩], []⟩) ⟨⟨X2c, zvK, qxF, trivial⟩, trivial⟩ Tryz.func71 sw71 fun ho hh => ?_)
   simp only [Xto, Bool.and_eq_true] at ho
   have f1 := hl.fx ho.1 (sz := 34) rfl
   unfold w71
   have hL' := eq_true hL
   have hm : (l.length ≤ maxLen) = True := eq_true hl.2
   by_cases c : rswP l 0
   ·have c' := eq_true c
    simp only [X7f, KtR, YUa, XuN, simprocAttr, f1, qsJ, KNN, Jn4, c', hL', hm, Ju5, z1a, zn7, QIl]
    exact ⟨Bt.dropB _ hh (decide_eq_decide.2 ⟨fun q => (z60 l).1 ⟨c, q⟩, fun q => ((z60 l).2 q).2⟩), fun q => q.elim⟩
   ·have c' := eq_false c
    simp only [X7f, KtR, YUa, XuN, simprocAttr, f1, qsJ, KNN, Jn4, c', hL']
    refine ⟨fun q => q.elim, ?_⟩
    exact Bt.dropB _ hh (decide_eq_false fun z => c ((z60 l).2 z).1).symm
  ·cases e
 ·cases e
theorem qOR {l : List Hd} {v : List Int} {ds : Dots} (c : Zmz v ds = 0) : qsy v ds l l.length ↔ l.Pairwise J9e ∧ ¬ ∃ x ∈ l, Z54 v ds x := by
 rw [Kd5 ZBK]
 have gd : ∀ k (h : k < l.length), l.getD k Qv2.d = l[k] := fun k h => by rw [List.getD_eq_getElem?_getD, List.getElem?_eq_getElem h]; rfl
 constructor
 ·intro h
  refine ⟨fun i hi => ?_, ?_⟩
  ·have := (h (i + 1) hi).1 (Nat.succ_pos _)
   rw [gd _ hi, Nat.add_sub_cancel, gd i (by omega)] at this
   exact this
  ·rintro ⟨x, hx, hl⟩
   obtain ⟨i, hi, rfl⟩ := List.getElem_of_mem hx
   have := (h i hi).2
   rw [gd i hi] at this
   exact hl this
 ·rintro ⟨h1, h2⟩ k hk
  refine ⟨fun h0 => ?_, ?_⟩
  ·obtain ⟨j, rfl⟩ : ∃ j, k = j + 1 := ⟨k - 1, by omega⟩
   rw [gd _ hk, Nat.add_sub_cancel, gd j (by omega)]
   exact h1 j hk
  ·rw [gd k hk]
   exact Decidable.not_not.1 fun q => h2 ⟨_, List.getElem_mem hk, q⟩
theorem XFh {l : List Hd} {v : List Int} {ds : Dots} : KwI l v ds = 0 ↔ RG l v ds := by
 constructor
 ·intro h
  obtain ⟨c, f⟩ := ZgX h
  obtain ⟨h1, h2⟩ := (qOR c).1 f
  refine ⟨YIm c, (Ym2 c).2.1, h1, fun x hx => ?_⟩
  have : Zmz v ds = 0 ∧ YC0 v ds x.1 := Decidable.not_not.1 fun q => h2 ⟨x, hx, q⟩
  exact (Zga (YIm c).rg x.1).1 this.2
 ·intro h
  have c := h.nf.check h.len
  unfold KwI
  rw [if_neg (not_not_intro c), if_pos ((qOR c).2 ⟨h.rise, ?_⟩)]
  rintro ⟨x, hx, hl⟩
  exact hl ⟨c, (Zga h.nf.rg x.1).2 (h.sn x hx)⟩
noncomputable def z0s : List AV → List AB → Option (AV × List AB)
 | [.ag [l, s, t]], h => (getS Qv2 h l).bind fun hs => (getS intR h s).bind fun v => (getS dotR h t).bind fun ds => if hs.length ≤ 1000000 then some (.i .i64 (KwI hs v ds), h) else none
 | _, _ => none
theorem QOB : Spec Tryz.prog 27 z0s := by
 intro args h v h' e
 unfold z0s at e
 split at e
 ·rename_i l s t
  obtain ⟨hs, hl, e⟩ := Ksw e
  obtain ⟨xs, hv, e⟩ := Ksw e
  obtain ⟨ds, hd, e⟩ := Ksw e
  split at e
  ·rename_i hL
   cases e
   refine FnAt.c (FnAt.run (by kernel_rfl) (T := ⟨[⟨59, qVB Zmz, fun _ => []⟩, ⟨71, X82, fun _ => []⟩, ⟨72, XKU, fun _ => []⟩], []⟩) ⟨⟨zjL, QVw, q1H, trivial⟩, trivial⟩ Tryz.func27 sw27 fun ho hh => ?_)
   simp only [Xto, J9P, Bool.and_eq_true] at ho
   have f1 := hl.fx ho.1.1 (sz := 34) rfl
   have f2 := hv.fx ho.1.2.1 (sz := 1) rfl
   have f3 := hd.fx ho.1.2.2.1 (sz := 2) rfl
   have hL' := eq_true hL
   unfold w27
   by_cases c : Zmz xs ds = 0
   case neg =>
    have c' := eq_false c
    have hG : KwI hs xs ds = Zmz xs ds := by unfold KwI; rw [if_pos c]
    rw [hG]
    simp only [X7f, KtR, YUa, XuN, simprocAttr, f1, f2, f3, qVB, c', not_false_eq_true, not_true_eq_false, decide_true, decide_false, false_implies, true_implies, true_and, and_true]
    exact Bt.dropI _ hh rfl
   have hG : KwI hs xs ds = if hs.Pairwise J9e ∧ ¬ ∃ x ∈ hs, Z54 xs ds x then 0 else 2 := by
    unfold KwI
    rw [if_neg (not_not_intro c)]
    by_cases q : qsy xs ds hs hs.length
    ·rw [if_pos q, if_pos ((qOR c).1 q)]
    ·rw [if_neg q, if_neg fun z => q ((qOR c).2 z)]
   rw [hG]
   by_cases c1 : hs.Pairwise J9e
   ·have c1' := eq_true c1
    by_cases c2 : ∃ x ∈ hs, Z54 xs ds x
    ·have c2' := eq_true c2
     rw [if_neg fun z => z.2 c2]
     simp only [X7f, KtR, YUa, XuN, simprocAttr, f1, f2, f3, qVB, X82, XKU, J1Z, c, c1', c2', hL', not_false_eq_true, not_true_eq_false, decide_true, decide_false, false_implies, true_implies, true_and, and_true]
     exact Bt.dropI _ hh rfl
    ·have c2' := eq_false c2
     rw [if_pos ⟨c1, c2⟩]
     simp only [X7f, KtR, YUa, XuN, simprocAttr, f1, f2, f3, qVB, X82, XKU, J1Z, c, c1', c2', hL', not_false_eq_true, not_true_eq_false, decide_true, decide_false, false_implies, true_implies, true_and, and_true]
     exact Bt.dropI _ hh rfl
   ·have c1' := eq_false c1
    rw [if_neg fun z => c1 z.1]
    simp only [X7f, KtR, YUa, XuN, simprocAttr, f1, f2, f3, qVB, X82, XKU, J1Z, c, c1', hL', not_false_eq_true, not_true_eq_false, decide_true, decide_false, false_implies, true_implies, true_and, and_true]
    exact Bt.dropI _ hh rfl
  ·cases e
 ·cases e
end Go.Proofs.YtcncpbcbedfakaaGreat
end
section
namespace Go.Proofs.YtcncpbcbedfakaaGreat
set_option maxRecDepth 100000
set_option maxHeartbeats 4000000
theorem qMD {h : List AB} {id i : Nat} {xs : List AV} (e : KFh (h.set id .dead) i = some xs) : KFh h i = some xs := by
 unfold KFh at e ⊢
 rw [List.getElem?_set] at e
 by_cases q : id = i
 ·rw [if_pos q] at e
  split at e <;> first | (cases e; done) | skip
  rename_i h2
  split at h2 <;> cases h2
 ·rw [if_neg q] at e
  exact e
theorem Rd.undead {α : Type} {r : Row α} {h : List AB} {id : Nat} {s : AV} {l : List α} (e : Rd r (h.set id .dead) s l) : Rd r h s l := by
 refine ⟨?_, e.2⟩
 have e1 := e.1
 cases s with
 | sl i off len cap k =>
  simp only [rdS] at e1 ⊢
  split at e1
  ·rename_i h0
   rw [if_pos h0]
   exact e1
  ·rename_i h0
   rw [if_neg h0]
   obtain ⟨xs, h1, e2⟩ := Option.bind_eq_some_iff.1 e1
   rw [qMD h1]
   exact e2
 | ns => exact e1
 | se => exact e1
 | _ => cases e1
def zyz : List AV → List AB → Option (AV × List AB)
 | [l, .ag [v, d]], h => if l.isSl = true ∧ v.isSl = true ∧ d.isSl = true then some (.f (.func 81) [] [.p (h.length + 0) 0, .p (h.length + 1) 0], h ++ [.blk false true [l], .blk false true [v, d]]) else none
 | _, _ => none
theorem Kg6 : Spec Tryz.prog 46 zyz := by
 intro args h v h' e
 unfold zyz at e
 split at e
 ·rename_i l v d
  split at e
  ·rename_i hs
   cases e
   refine FnAt.c (FnAt.run (by kernel_rfl) (T := ⟨[], []⟩) ⟨trivial, trivial⟩ Tryz.func46 sw46 fun ho hh => ?_)
   unfold w46
   simp only [X7f, KtR, YUa, XuN, simprocAttr, YOD hs.1, YOD hs.2.1, YOD hs.2.2, qLb hs.1]
   exact Bt.eq rfl rfl
  ·cases e
 ·cases e
def qA : CC := (.reg 2 [⟨some 5, none, .new true [.i .i64 0, .i .i64 0, .i .u8 0, .i .u8 0, .i .u8 0, .i .u8 0, .i .u8 0, .i .u8 0, .i .u8 0, .i .u8 0, .i .u8 0, .i .u8 0, .i .u8 0, .i .u8 0, .i .u8 0, .i .u8 0, .i .u8 0, .i .u8 0, .i .u8 0, .i .u8 0, .i .u8 0, .i .u8 0, .i .u8 0, .i .u8 0, .i .u8 0, .i .u8 0, .i .u8 0, .i .u8 0, .i .u8 0, .i .u8 0, .i .u8 0, .i .u8 0, .i .u8 0, .i .u8 0]⟩, ⟨none, none, .st (some 34) (.t 5) (.t 7)⟩])
def qB : CC := (.block 1 (.reg 3 [⟨some 8, none, .ld none (.t 2)⟩, ⟨some 9, none, .ld (some 34) (.t 5)⟩, ⟨some 10, none, .bls true 1 [.i .i64 0, .i .i64 0, .i .u8 0, .i .u8 0, .i .u8 0, .i .u8 0, .i .u8 0, .i .u8 0, .i .u8 0, .i .u8 0, .i .u8 0, .i .u8 0, .i .u8 0, .i .u8 0, .i .u8 0, .i .u8 0, .i .u8 0, .i .u8 0, .i .u8 0, .i .u8 0, .i .u8 0, .i .u8 0, .i .u8 0, .i .u8 0, .i .u8 0, .i .u8 0, .i .u8 0, .i .u8 0, .i .u8 0, .i .u8 0, .i .u8 0, .i .u8 0, .i .u8 0, .i .u8 0] [(0, 34, .t 9)]⟩, ⟨some 11, none, .app false true 34 48 (.t 8) (.t 10)⟩, ⟨none, none, .st none (.t 2) (.t 11)⟩]))
def qFr (p : Nat) (s f : AV) : List AV := [s, f, .p (p + 0) 0, .tu [], .ns, .tu [], f, .tu [], .tu [], .tu [], .tu [], .tu [], .tu []]
def AIn (h : List AB) (s : AV) (l0 : List Hd) (h1 : List AB) : Prop := (s = .ns ∧ l0 = [] ∧ h1 = h) ∨ ∃ id, s = rsl Qv2 id l0 ∧ l0 ≠ [] ∧ h[id]? = some (resB Qv2 true l0) ∧ h1 = h.set id .dead
theorem AIn.len {h h1 : List AB} {s : AV} {l0 : List Hd} (a : AIn h s l0 h1) : h1.length = h.length := by
 rcases a with ⟨_, _, rfl⟩ | ⟨id, _, _, _, rfl⟩
 ·rfl
 ·exact List.length_set
def qL (p : Nat) (s f acc : AV) (B : AB) : List AB := [.blk false true [acc], .lp .ready .n (qFr p s f) [7] qA qB, B]
def qR (p : Nat) (s f : AV) (l : List Hd) (x : Hd) : List AB := qL p s f (.sl (p + 6) 0 (l.length + 1) (l.length + 1) (some 34)) .dead ++ [.blk true true (Qv2.f x), .blk true true (Qv2.f x), .blk true true (Qv2.f x), .blk true true (Qv2.cells l ++ Qv2.f x)]
theorem ZaZ {h : List AB} {id : Nat} {l0 : List Hd} (hi : h[id]? = some (resB Qv2 true l0)) (h0 : l0 ≠ []) (hl : l0.length ≤ 1000000) (L : List AB) (ys : List AV) :
  appW (h ++ L) true 34 48 (rsl Qv2 id l0) 1 ys = some (.sl (h.length + L.length) 0 (l0.length + 1) (l0.length + 1) (some 34), h.set id .dead ++ (L ++ [.blk true true (Qv2.cells l0 ++ ys)])) := by
 have hn : l0.length ≠ 0 := fun q => h0 (List.eq_nil_of_length_eq_zero q)
 have hlt := (List.getElem?_eq_some_iff.1 hi).1
 have hi2 : (h ++ L)[id]? = some (.blk true true (Qv2.cells l0)) := by
  rw [List.getElem?_append_left hlt, hi]
  unfold resB
  rw [if_neg hn]
 have hc : (Qv2.cells l0).length = l0.length * 34 := Qv2.cells_len _
 unfold rsl
 rw [if_neg hn]
 unfold appW
 dsimp only
 rw [if_neg (by decide), if_neg (by omega), hi2]
 simp only [true_and, Nat.zero_add, hc, Nat.le_refl, show (l0.length + 1) * 48 ≤ 140737488355328 by omega, show l0.length + 1 ≤ maxLen by unfold maxLen; omega, if_true, reduceCtorEq, if_false, List.drop_zero, List.length_append, J7X]
 rw [if_pos (by decide), List.set_append_left _ _ hlt, List.append_assoc]
theorem J0d {h h1 : List AB} {s f : AV} {l0 : List Hd} (a : AIn h s l0 h1) (x : Hd) (hl : l0.length ≤ 1000000) :
  RdAt' Tryz.prog (h.length + 1) [.ag (Qv2.f x)] (h ++ (qL h.length s f s .dead ++ [.blk true true (Qv2.f x)])) (.b true) (h1 ++ qR h.length s f l0 x) := by
 refine RdAt'.run (by kernel_rfl) (T := ⟨[], []⟩) ⟨trivial, trivial⟩ (by rw [Qzu]; rfl) rfl ?_
 have ln := a.len
 have fs : ∀ L k o v, stV (h1 ++ L) none (.p (h.length + k) o) v = if v.one = true then (ownW L k o [v]).map (h1 ++ ·) else none := fun L k o v => by rw [← ln]; exact zk8 L k o v
 have key : ∀ (L : List AB) (k : Nat), (h1 ++ L)[h.length + k]? = L[k]? := fun L k => by rw [← ln]; exact Qzu L k
 have kset : ∀ (L : List AB) (k : Nat) (B : AB), (h1 ++ L).set (h.length + k) B = h1 ++ L.set k B := fun L k B => by rw [← ln]; exact qIW L k B
 have z3 : (1 * 48 ≤ 140737488355328 ∧ 1 ≤ maxLen) = True := eq_true ⟨by decide, by unfold maxLen; omega⟩
 simp only [qFr, zwj, qA, qL, YUa, XuN, simprocAttr, zqp, zso, Zcp, qdw, List.length_cons, List.length_nil]
 refine ⟨_, _, _, _, _, by rw [Qzu]; rfl, ?_⟩
 rcases a with ⟨rfl, rfl, rfl⟩ | ⟨id, rfl, h0, hi, rfl⟩
 ·simp only [qB, YUa, XuN, simprocAttr, zqp, zso, Zcp, qdw, List.length_cons, List.length_nil, z3]
  exact ⟨by unfold maxLen; omega, _, _, _, _, _, _, by rw [key]; rfl, rfl, by unfold Y0z; dsimp only; rw [kset]; rfl⟩
 ·have fa := ZaZ hi h0 hl
  simp only [qB, YUa, XuN, simprocAttr, zqp, zso, Zcp, qdw, List.length_cons, List.length_nil, fa, fs]
  exact ⟨_, _, _, _, _, _, by rw [key]; rfl, rfl, by unfold Y0z; dsimp only; rw [kset]; rfl⟩
theorem JxQ {h : List AB} {s f : AV} {l : List Hd} (h0 : l ≠ []) (x : Hd) (hl : l.length ≤ 1000000) :
  RdAt' Tryz.prog (h.length + 1) [.ag (Qv2.f x)] (h ++ (qL h.length s f (apS Qv2 (h.length + 2) l) (resB Qv2 true l) ++ [.blk true true (Qv2.f x)])) (.b true) (h ++ qR h.length s f l x) := by
 refine RdAt'.run (by kernel_rfl) (T := ⟨[], []⟩) ⟨trivial, trivial⟩ (by rw [Qzu]; rfl) rfl ?_
 have hn : l.length ≠ 0 := fun q => h0 (List.eq_nil_of_length_eq_zero q)
 have gr : ∀ id, apS Qv2 id l = rsl Qv2 id l := fun id => ZtQ _ hn
 have fa := fun L k ys hb => z4x (h := h) (p := h.length) rfl (r := Qv2) (sz := 34) rfl L k l 48 1 ys hn hb (by decide) (by omega) (by unfold maxLen; omega)
 simp only [gr, qFr, zwj, qA, qL, YUa, XuN, simprocAttr, zqp, zso, Zcp, qdw, List.length_cons, List.length_nil]
 refine ⟨_, _, _, _, _, by rw [Qzu]; rfl, ?_⟩
 simp only [qB, YUa, XuN, simprocAttr, zqp, zso, Zcp, qdw, List.length_cons, List.length_nil, fa]
 exact ⟨_, _, _, _, _, _, by rw [Qzu]; rfl, rfl, by unfold Y0z; dsimp only; rw [qIW]; rfl⟩
def qQ (h h1 : List AB) (s f : AV) (l0 : List Hd) (x : Hd) (hh r : List AB) : Prop :=
 (hh = h ++ (qL h.length s f s .dead ++ [.blk true true (Qv2.f x)]) ∧ r = h1 ++ qR h.length s f l0 x) ∨
 ∃ l, l ≠ [] ∧ l.length ≤ 1000000 ∧ hh = h1 ++ (qL h.length s f (apS Qv2 (h.length + 2) l) (resB Qv2 true l) ++ [.blk true true (Qv2.f x)]) ∧ r = h1 ++ qR h.length s f l x
open Classical in
noncomputable def qT (h h1 : List AB) (s f : AV) (l0 : List Hd) : List AV → List AB → Option (AV × List AB)
 | [a], hh => (getH a).bind fun x => if c : ∃ r, qQ h h1 s f l0 x hh r then some (.b true, c.choose) else none
 | _, _ => none
theorem Xoh {l : List Hd} (h0 : l ≠ []) : resB Qv2 true l ≠ .dead := by
 unfold resB
 rw [if_neg fun q => h0 (List.eq_nil_of_length_eq_zero q)]
 exact fun q => by cases q
theorem J4E {h h1 : List AB} {s f : AV} {l0 : List Hd} (a : AIn h s l0 h1) (x : Hd) : qT h h1 s f l0 [.ag (Qv2.f x)] (h ++ (qL h.length s f s .dead ++ [.blk true true (Qv2.f x)])) = some (.b true, h1 ++ qR h.length s f l0 x) := by
 have hc : ∃ r, qQ h h1 s f l0 x (h ++ (qL h.length s f s .dead ++ [.blk true true (Qv2.f x)])) r := ⟨_, .inl ⟨rfl, rfl⟩⟩
 simp only [qT, XMh, Option.bind_some]
 rw [dif_pos hc]
 rcases hc.choose_spec with ⟨_, e⟩ | ⟨l, h0, _, e, _⟩
 ·rw [e]
 ·have := (List.append_inj e a.len.symm).2
  simp only [qL, List.cons_append, List.nil_append, List.cons.injEq] at this
  exact absurd this.2.2.1.symm (Xoh h0)
theorem Jyn {h h1 : List AB} {s f : AV} {l0 : List Hd} (a : AIn h s l0 h1) (x : Hd) {l : List Hd} (h0 : l ≠ []) (hl : l.length ≤ 1000000) : qT h h1 s f l0 [.ag (Qv2.f x)] (h1 ++ (qL h.length s f (apS Qv2 (h.length + 2) l) (resB Qv2 true l) ++ [.blk true true (Qv2.f x)])) = some (.b true, h1 ++ qR h.length s f l x) := by
 have hc : ∃ r, qQ h h1 s f l0 x (h1 ++ (qL h.length s f (apS Qv2 (h.length + 2) l) (resB Qv2 true l) ++ [.blk true true (Qv2.f x)])) r := ⟨_, .inr ⟨l, h0, hl, rfl, rfl⟩⟩
 simp only [qT, XMh, Option.bind_some]
 rw [dif_pos hc]
 rcases hc.choose_spec with ⟨e, _⟩ | ⟨l', h0', _, e, e2⟩
 ·have := (List.append_inj e a.len).2
  simp only [qL, List.cons_append, List.nil_append, List.cons.injEq] at this
  exact absurd this.2.2.1 (Xoh h0)
 ·rw [e2]
  have := List.append_cancel_left e
  simp only [qL, List.cons_append, List.nil_append, List.cons.injEq, AB.blk.injEq, true_and, and_true] at this
  rw [XVA this.1 this.2]
theorem znq {h h1 : List AB} {s f : AV} {l0 : List Hd} (a : AIn h s l0 h1) (hl : l0.length ≤ 1000000) : XrH Tryz.prog (h.length + 1) (qT h h1 s f l0) := by
 intro args hh v h' e
 unfold qT at e
 split at e
 ·obtain ⟨x, hx, e2⟩ := zZj e
  clear e
  subst hx
  split at e2
  ·rename_i hc
   cases e2
   rcases hc.choose_spec with ⟨e1, e2⟩ | ⟨l, h0, h2, e1, e2⟩
   ·rw [e2, e1]
    exact J0d a x hl
   ·rw [e2, e1]
    have := JxQ (h := h1) (s := s) (f := f) h0 x h2
    rw [a.len] at this
    exact this
  ·cases e2
 ·cases e
theorem AIn.hok {h h1 : List AB} {s : AV} {l0 : List Hd} (a : AIn h s l0 h1) (hh : HOk h) : HOk h1 := by
 rcases a with ⟨_, _, rfl⟩ | ⟨id, _, _, _, rfl⟩
 ·exact hh
 ·exact JT1 hh id
theorem AIn.rd {h h1 : List AB} {s : AV} {l0 : List Hd} (a : AIn h s l0 h1) {α : Type} {r : Row α} {t : AV} {l : List α} (e : Rd r h1 t l) : Rd r h t l := by
 rcases a with ⟨_, _, rfl⟩ | ⟨id, _, _, _, rfl⟩
 ·exact e
 ·exact e.undead
theorem AIn.rb {h h1 : List AB} {s : AV} {l0 : List Hd} (a : AIn h s l0 h1) {i : Nat} {xs : List AV} (e : KFh h1 i = some xs) : KFh h i = some xs := by
 rcases a with ⟨_, _, rfl⟩ | ⟨id, _, _, _, rfl⟩
 ·exact e
 ·exact qMD e
def qH (h h1 : List AB) (s f : AV) (l0 : List Hd) (o : List Hd) : List AB := if o = [] then h ++ qL h.length s f s .dead else h1 ++ qL h.length s f (apS Qv2 (h.length + 2) (l0 ++ o)) (resB Qv2 true (l0 ++ o))
theorem Jkz {h h1 : List AB} {s : AV} {l0 : List Hd} (a : AIn h s l0 h1) (hh : HOk h) {i1 i2 : Nat} {l v d : AV} {hs : List Hd} {vs : List Int} {ds : Dots} (b1 : KFh h1 i1 = some [l]) (b2 : KFh h1 i2 = some [v, d]) (hl : Rd Qv2 h1 l hs) (hv : Rd intR h1 v vs) (hd : Rd dotR h1 d ds)
  (ol : l.ok (fun i => decide (i < h.length)) = true) (os : s.ok (fun i => decide (i < h.length)) = true) (hL : hs.length ≤ 100000) (hL0 : l0.length ≤ 100000) (f : AV) (of : f.ok (fun i => decide (i < h.length)) = true) :
  FnAt Tryz.prog 81 [.y (h.length + 1), .p i1 0, .p i2 0] (h ++ [.blk false true [s], .lp .ready .n (qFr h.length s f) [7] qA qB]) (.tu []) (qH h h1 s f l0 (outL vs ds hs)) := by
 refine FnAt.run (by kernel_rfl) (T := ⟨[⟨39, JH2, fun _ => []⟩], [⟨h.length + 1, qT h h1 s f l0, fun _ => []⟩]⟩) ⟨⟨q69, trivial⟩, ⟨znq a (by omega), trivial⟩⟩ Tryz.func81 sw81 fun _ _ => ?_
 have ln := a.len
 have f1 := YMj (a.rb b1)
 have f2 := YMj (a.rb b2)
 have g1 := (YMj b1).2.1
 have g2 := (YMj b2).2.2.1
 have fl := (a.rd hl).fx ol (sz := 34) rfl
 have ol1 : l.ok (fun i => decide (i < h1.length)) = true := by rw [ln]; exact ol
 have gl := hl.fx ol1 (sz := 34) rfl
 have k1 : ∀ x, getS intR (h ++ x) v = some vs := fun x => ((a.rd hv).app x).get
 have k2 : ∀ x, getS dotR (h ++ x) d = some ds := fun x => ((a.rd hd).app x).get
 have k3 : ∀ x, getS intR (h1 ++ x) v = some vs := fun x => (hv.app x).get
 have k4 : ∀ x, getS dotR (h1 ++ x) d = some ds := fun x => (hd.app x).get
 have e1i : i1 < h.length := Jv4 (a.rb b1)
 have e2i : i2 < h.length := Jv4 (a.rb b2)
 have up : ∀ (t : AV), t.ok (fun i => decide (i < h.length)) = true → ∀ c, t.ok (fun i => decide (i < h.length + c)) = true := fun t ht c => AV.ok_mono (fun i q => by simp only [decide_eq_true_eq] at q ⊢; omega) t ht
 have rn : ∀ (t : AV), t.ok (fun i => decide (i < h.length)) = true → ∀ sel, Wk (t.ren (selN h.length sel)) t := fun t ht sel => Wk.ren (fun i hi => q8q hi) ht
 have fo := fun c => And.intro (up l ol c) (And.intro (up s os c) (And.intro (up f of c) (And.intro (decide_eq_true (p := i1 < h.length + c) (by omega)) (decide_eq_true (p := i2 < h.length + c) (by omega)))))
 have fr := fun sel => And.intro (rn l ol sel) (And.intro (rn s os sel) (And.intro (rn f of sel) (And.intro (q8q (sel := sel) e1i) (q8q (sel := sel) e2i))))
 have fo1 := fo
 have fr1 := fr
 rw [← ln] at fo1 fr1
 have hh1 := a.hok hh
 have ao : ∀ (n : Nat) (L : List Hd), (apS Qv2 (n + 2) L).ok (fun i => decide (i < n + 3)) = true := fun n L => X9s _ _ _ (by simp)
 unfold w81
 simp only [X7f, KtR, YUa, XuN, simprocAttr, f1, f2, fl]
 refine QZo (S := Nat) (fun i => hs.length - i) (fun i => [.y (h.length + 1), .p i1 0, .p i2 0] ++ tp 3 ++ [l, .i .i64 hs.length, .i .i64 i] ++ tp 15) (fun i => qH h h1 s f l0 (outL vs ds (hs.take i))) (fun i => i ≤ hs.length) 0 (Nat.zero_le _) ?_ fun i hi => ?_
 ·have z0 : outL vs ds (hs.take 0) = [] := rfl
  show Bt _ _ _ _ _ (qH h h1 s f l0 (outL vs ds (hs.take 0)))
  rw [z0]
  unfold qH
  rw [if_pos rfl]
  have e : h ++ qL h.length s f s .dead = h ++ [.blk false true [s], .lp .ready .n (qFr h.length s f) [7] qA qB] ++ List.replicate 1 .dead := by
   rw [List.append_assoc]
   rfl
  rw [e]
  refine Bt.trans (Bt.wk ?_) (Bt.pad _ _ 1)
  simp only [YUa, XuN, simprocAttr]
 ·by_cases gi : i < hs.length
  ·have gi' := eq_true gi
   have e1 : IntKind.i64.wrap ((i : Int) + 1) = ((i + 1 : Nat) : Int) := ZPn (by unfold In64; omega)
   have hst := YiX vs ds gi
   generalize hy : hs.getD i Qv2.d = y at *
   have lo := qh6 vs ds hs i
   generalize ho : outL vs ds (hs.take i) = o at *
   have f5 : ∀ (H : List AB) (a1 a2 a3 : AB) (x : List AB), ldV (H ++ (a1 :: a2 :: a3 :: .blk true true (Qv2.f y) :: x)) (some 2) (.p (H.length + 3) 0) = some (.ag [.i .i64 y.1.1, .i .i64 y.1.2]) := fun H a1 a2 a3 x => by
    rw [XJE]
    simp only [Xva, ZpB, Option.bind_some, zso, Nat.zero_add]
    rw [if_pos (by decide), YRz, X5J]
   by_cases hp : Zmz vs ds = 0 ∧ YC0 vs ds y.1
   ·have hp' : (Zmz vs ds = 0 ∧ YC0 vs ds (y.1.1, y.1.2)) = True := eq_true hp
    rw [if_neg (not_not_intro hp), List.append_nil] at hst
    by_cases h0 : o = []
    ·unfold qH
     rw [if_pos h0]
     simp only [qL, YUa, XuN, simprocAttr, f1, f2, fl, gi', hy, f5, zqp, zso, Zcp, qdw, List.length_cons, List.length_nil, JH2, k1, k2, hp', e1, not_true_eq_false, decide_false, decide_true]
     refine ⟨i + 1, gi, by dsimp only; omega, ?_⟩
     dsimp only
     rw [hst, if_pos h0]
     exact Bt.selL 2 [0, 1, 2] hh (by decide) (by decide) (by decide) (by decide) (by simp only [qpr, FrSel, BlkSel, AV.ren, renL, AV.ok, okL, Option.some.injEq, exists_eq_left', List.length_cons, List.length_nil, Nat.reduceAdd, Nat.reduceLT, reduceCtorEq, implies_true, exists_eq', qFr, fo, fr, ao]) (by simp only [qpr, FrSel, BlkSel, AV.ren, renL, AV.ok, okL, Option.some.injEq, exists_eq_left', List.length_cons, List.length_nil, Nat.reduceAdd, Nat.reduceLT, reduceCtorEq, implies_true, exists_eq', qFr, fo, fr, ao])
    ·unfold qH
     rw [if_neg h0, ← ln]
     simp only [qL, YUa, XuN, simprocAttr, g1, g2, gl, gi', hy, f5, zqp, zso, Zcp, qdw, List.length_cons, List.length_nil, JH2, k3, k4, hp', e1, not_true_eq_false, decide_false, decide_true]
     refine ⟨i + 1, gi, by dsimp only; omega, ?_⟩
     dsimp only
     rw [hst, if_neg h0]
     exact Bt.selL 2 [0, 1, 2] hh1 (by decide) (by decide) (by decide) (by decide) (by simp only [qpr, FrSel, BlkSel, AV.ren, renL, AV.ok, okL, Option.some.injEq, exists_eq_left', List.length_cons, List.length_nil, Nat.reduceAdd, Nat.reduceLT, reduceCtorEq, implies_true, exists_eq', qFr, fo1, fr1, ao, J7X]) (by simp only [qpr, FrSel, BlkSel, AV.ren, renL, AV.ok, okL, Option.some.injEq, exists_eq_left', List.length_cons, List.length_nil, Nat.reduceAdd, Nat.reduceLT, reduceCtorEq, implies_true, exists_eq', qFr, fo1, fr1, ao])
   ·have hp' : (Zmz vs ds = 0 ∧ YC0 vs ds (y.1.1, y.1.2)) = False := eq_false hp
    rw [if_pos hp] at hst
    have hne : o ++ [y] ≠ [] := by simp
    by_cases h0 : o = []
    ·have q1 := J4E (f := f) a y
     unfold qH
     rw [if_pos h0]
     simp only [qL, zLh, JVd] at q1
     simp only [qL, YUa, XuN, simprocAttr, f1, f2, fl, gi', hy, f5, zqp, zso, Zcp, qdw, List.length_cons, List.length_nil, JH2, k1, k2, hp', e1, not_false_eq_true, decide_false, decide_true, q1]
     refine ⟨i + 1, gi, by dsimp only; omega, ?_⟩
     dsimp only
     rw [hst, if_neg hne, h0, List.nil_append, ← ln]
     simp only [qR, qL, zLh, JVd, zfM, XJF]
     exact Bt.selL 2 [0, 1, 6] hh1 (by decide) (by decide) (by decide) (by decide) (by simp only [qpr, FrSel, BlkSel, AV.ren, renL, AV.ok, okL, Option.some.injEq, exists_eq_left', List.length_cons, List.length_nil, Nat.reduceAdd, Nat.reduceLT, reduceCtorEq, implies_true, exists_eq', qFr, fo1, fr1, ao, J7X]) (by simp only [qpr, FrSel, BlkSel, AV.ren, renL, AV.ok, okL, Option.some.injEq, exists_eq_left', List.length_cons, List.length_nil, Nat.reduceAdd, Nat.reduceLT, reduceCtorEq, implies_true, exists_eq', qFr, fo1, fr1, ao])
    ·have q1 := Jyn (f := f) a y (l := l0 ++ o) (by simp [h0]) (by rw [List.length_append]; omega)
     unfold qH
     rw [if_neg h0]
     rw [← ln] at q1 ⊢
     simp only [qL, zLh, JVd] at q1
     simp only [qL, YUa, XuN, simprocAttr, g1, g2, gl, gi', hy, f5, zqp, zso, Zcp, qdw, List.length_cons, List.length_nil, JH2, k3, k4, hp', e1, not_false_eq_true, decide_false, decide_true, q1]
     refine ⟨i + 1, gi, by dsimp only; omega, ?_⟩
     dsimp only
     rw [hst, if_neg hne, ← List.append_assoc]
     simp only [qR, qL, zLh, JVd, zfM, XJF]
     exact Bt.selL 2 [0, 1, 6] hh1 (by decide) (by decide) (by decide) (by decide) (by simp only [qpr, FrSel, BlkSel, AV.ren, renL, AV.ok, okL, Option.some.injEq, exists_eq_left', List.length_cons, List.length_nil, Nat.reduceAdd, Nat.reduceLT, reduceCtorEq, implies_true, exists_eq', qFr, fo1, fr1, ao, J7X]) (by simp only [qpr, FrSel, BlkSel, AV.ren, renL, AV.ok, okL, Option.some.injEq, exists_eq_left', List.length_cons, List.length_nil, Nat.reduceAdd, Nat.reduceLT, reduceCtorEq, implies_true, exists_eq', qFr, fo1, fr1, ao])
  ·obtain rfl : i = hs.length := by omega
   have gi' := eq_false gi
   rw [List.take_length]
   unfold qH
   by_cases h0 : outL vs ds hs = []
   ·rw [if_pos h0]
    simp only [qL, YUa, XuN, simprocAttr, f1, f2, fl, gi', false_implies, true_and]
    exact Bt.refl _ _ _
   ·rw [if_neg h0]
    rw [← ln]
    simp only [qL, YUa, XuN, simprocAttr, g1, g2, gl, gi', false_implies, true_and]
    exact Bt.refl _ _ _
theorem AIn.isSl {h h1 : List AB} {s : AV} {l0 : List Hd} (a : AIn h s l0 h1) : s.isSl = true := by
 rcases a with ⟨rfl, _, _⟩ | ⟨id, rfl, _, _, _⟩
 ·rfl
 ·exact ZTF _ _
theorem Zba {h h1 : List AB} {s : AV} {l0 : List Hd} (a : AIn h s l0 h1) {i1 i2 : Nat} {l v d : AV} {hs : List Hd} {vs : List Int} {ds : Dots} (b1 : bxS h1 i1 = some l) (b2 : KFh h1 i2 = some [v, d]) (hl : Rd Qv2 h1 l hs) (hv : Rd intR h1 v vs) (hd : Rd dotR h1 d ds) (hL : hs.length ≤ 100000) (hL0 : l0.length ≤ 100000) :
  FnC Tryz.prog 45 [s, .f (.func 81) [] [.p i1 0, .p i2 0]] h (if outL vs ds hs = [] then s else apS Qv2 h.length (l0 ++ outL vs ds hs)) (if outL vs ds hs = [] then h else h1 ++ [resB Qv2 true (l0 ++ outL vs ds hs)]) := by
 refine FnAt.c (FnAt.run (by kernel_rfl) (T := ⟨[], []⟩) ⟨trivial, trivial⟩ Tryz.func45 sw45 fun ho hh => ?_)
 simp only [Xto, Bool.and_eq_true] at ho
 have ln := a.len
 have hh1 := a.hok hh
 have os := a.isSl
 have ol := QtI b1 hh1
 rw [ln] at ol
 have uf := Jkz a hh (zwa b1) b2 hl hv hd ol ho.1 hL hL0 _ ho.2.1
 unfold w45
 by_cases h0 : outL vs ds hs = []
 ·unfold qH at uf
  rw [if_pos h0] at uf ⊢
  rw [if_pos h0]
  simp only [X7f, KtR, YUa, XuN, simprocAttr, YOD os, qLb os]
  refine W_rf rfl (by simp only [YUa, XuN, simprocAttr]) rfl (by simp only [YUa, XuN, simprocAttr]; rfl) uf (by rw [Qzu]; rfl) (by decide) ?_
  simp only [qL, qFr, YUa, XuN, simprocAttr]
  exact Bt.drop _ hh rfl (by simp only [Xto, XSf, ho.1, Bool.and_true])
 ·unfold qH at uf
  rw [if_neg h0] at uf ⊢
  rw [if_neg h0]
  simp only [X7f, KtR, YUa, XuN, simprocAttr, YOD os, qLb os]
  refine W_rf rfl (by simp only [YUa, XuN, simprocAttr]) rfl (by simp only [YUa, XuN, simprocAttr]; rfl) uf (by rw [← ln, Qzu]; rfl) (by decide) ?_
  rw [← ln]
  simp only [qL, qFr, YUa, XuN, simprocAttr]
  have ao : (apS Qv2 h1.length (l0 ++ outL vs ds hs)).ok (fun i => decide (i < h1.length + 1)) = true := X9s _ _ _ (by simp)
  exact Bt.sel [2] hh1 (by decide) (by simp only [qpr, FrSel, BlkSel, AV.ren, renL, AV.ok, okL, Option.some.injEq, exists_eq_left', List.length_cons, List.length_nil, Nat.reduceAdd, Nat.reduceLT, reduceCtorEq, implies_true, exists_eq']) (by simp only [qpr, FrSel, BlkSel, AV.ren, renL, AV.ok, okL, Option.some.injEq, exists_eq_left', List.length_cons, List.length_nil, Nat.reduceAdd, Nat.reduceLT, reduceCtorEq, implies_true, exists_eq', ao])
noncomputable def qIn (h : List AB) (i1 i2 : Nat) : Option (List Hd × List Int × Dots) := (bxS h i1).bind fun l => match KFh h i2 with
 | some [v, d] => (getS Qv2 h l).bind fun hs => (getS intR h v).bind fun vs => (getS dotR h d).bind fun ds => some (hs, vs, ds)
 | _ => none
theorem ZJA {h : List AB} {i1 i2 : Nat} {x : List Hd × List Int × Dots} (e : qIn h i1 i2 = some x) : ∃ l v d, bxS h i1 = some l ∧ KFh h i2 = some [v, d] ∧ Rd Qv2 h l x.1 ∧ Rd intR h v x.2.1 ∧ Rd dotR h d x.2.2 := by
 unfold qIn at e
 obtain ⟨l, b1, e⟩ := Option.bind_eq_some_iff.1 e
 split at e
 ·rename_i v d b2
  obtain ⟨hs, h1, e⟩ := Ksw e
  obtain ⟨vs, h2, e⟩ := Ksw e
  obtain ⟨ds, h3, e⟩ := Ksw e
  cases e
  exact ⟨l, v, d, b1, b2, h1, h2, h3⟩
 ·cases e
theorem ZVq {h : List AB} {i1 i2 : Nat} {l v d : AV} {hs : List Hd} {vs : List Int} {ds : Dots} (b1 : bxS h i1 = some l) (b2 : KFh h i2 = some [v, d]) (h1 : getS Qv2 h l = some hs) (h2 : getS intR h v = some vs) (h3 : getS dotR h d = some ds) : qIn h i1 i2 = some (hs, vs, ds) := by
 unfold qIn
 rw [b1, Option.bind_some, b2]
 simp only [h1, h2, h3, Option.bind_some]
noncomputable def qNd : List AV → List AB → Option (AV × List AB)
 | [.ns, .f (.func 81) [] [.p i1 0, .p i2 0]], h => (qIn h i1 i2).bind fun x => if x.1.length ≤ 100000 then some (apS Qv2 h.length (outL x.2.1 x.2.2 x.1), h ++ [resB Qv2 true (outL x.2.1 x.2.2 x.1)]) else none
 | _, _ => none
theorem qDM : Spec Tryz.prog 45 qNd := by
 intro args h v h' e
 unfold qNd at e
 split at e
 ·rename_i i1 i2
  obtain ⟨⟨hs, vs, ds⟩, hx, e⟩ := Option.bind_eq_some_iff.1 e
  obtain ⟨l, v, d, b1, b2, h1, h2, h3⟩ := ZJA hx
  dsimp only at *
  split at e
  ·rename_i hL
   cases e
   have := Zba (h := h) (h1 := h) (s := .ns) (l0 := []) (.inl ⟨rfl, rfl, rfl⟩) b1 b2 h1 h2 h3 hL (Nat.zero_le _)
   by_cases h0 : outL vs ds hs = []
   ·rw [if_pos h0, if_pos h0] at this
    rw [h0]
    exact this.bt (Bt.pad _ _ 1)
   ·rw [if_neg h0, if_neg h0, List.nil_append] at this
    exact this
  ·cases e
 ·cases e
open Classical in
noncomputable def Xrz : List AV → List AB → Option (AV × List AB)
 | [s, .f (.func 81) [] [.p i1 0, .p i2 0]], h => match idOf s with
  | [id] => (getS Qv2 h s).bind fun l0 => if s = rsl Qv2 id l0 ∧ l0 ≠ [] ∧ h[id]? = some (resB Qv2 true l0) ∧ l0.length ≤ 100000 then
    (qIn (h.set id .dead) i1 i2).bind fun x => if x.1.length ≤ 100000 then
     if outL x.2.1 x.2.2 x.1 = [] then some (s, h) else some (apS Qv2 h.length (l0 ++ outL x.2.1 x.2.2 x.1), h.set id .dead ++ [resB Qv2 true (l0 ++ outL x.2.1 x.2.2 x.1)])
    else none
   else none
  | _ => none
 | _, _ => none
theorem Zss : Spec Tryz.prog 45 Xrz := by
 intro args h v h' e
 unfold Xrz at e
 split at e
 ·rename_i s i1 i2
  split at e
  ·rename_i id hid
   obtain ⟨l0, hs0, e⟩ := Ksw e
   split at e
   ·rename_i hc
    obtain ⟨c1, c2, c3, c4⟩ := hc
    obtain ⟨⟨hs, vs, ds⟩, hx, e⟩ := Option.bind_eq_some_iff.1 e
    obtain ⟨l, v, d, b1, b2, h1, h2, h3⟩ := ZJA hx
    dsimp only at *
    split at e
    ·rename_i hL
     have := Zba (h := h) (h1 := h.set id .dead) (s := s) (l0 := l0) (.inr ⟨id, c1, c2, c3, rfl⟩) b1 b2 h1 h2 h3 hL c4
     split at e
     ·rename_i h0
      cases e
      rw [if_pos h0, if_pos h0] at this
      exact this
     ·rename_i h0
      cases e
      rw [if_neg h0, if_neg h0] at this
      exact this
    ·cases e
   ·cases e
  ·cases e
 ·cases e
noncomputable def YGv : List AV → List AB → Option (AV × List AB)
 | [.f (.func 81) [] [.p i1 0, .p i2 0]], h => (qIn h i1 i2).bind fun x => if x.1.length ≤ 100000 then some (apS Qv2 h.length (outL x.2.1 x.2.2 x.1), h ++ [resB Qv2 true (outL x.2.1 x.2.2 x.1)]) else none
 | _, _ => none
theorem ZZP : Spec Tryz.prog 60 YGv := by
 intro args h v h' e
 unfold YGv at e
 split at e
 ·rename_i i1 i2
  obtain ⟨x, hx, e⟩ := Option.bind_eq_some_iff.1 e
  split at e
  ·rename_i hL
   cases e
   refine FnAt.c (FnAt.run (by kernel_rfl) (T := ⟨[⟨45, qNd, fun _ => []⟩], []⟩) ⟨⟨qDM, trivial⟩, trivial⟩ Tryz.func60 sw60 fun ho hh => ?_)
   have hx' : qIn (h ++ []) i1 i2 = some x := by rw [List.append_nil]; exact hx
   have hL' := eq_true hL
   unfold w60
   simp only [X7f, KtR, YUa, XuN, simprocAttr, qNd, hx', hL']
   exact Bt.eq rfl rfl
  ·cases e
 ·cases e
end Go.Proofs.YtcncpbcbedfakaaGreat
end
