/- Part 22 of what the laws' proofs rest on. No condition. -/
import Derived.Laws.RangeAny
import Derived.Test.YtebcngelgdpbjaaGreatGp21
set_option linter.all false
section
namespace Go.Proofs.YtebcngelgdpbjaaGreat
open Go.RowKit
def AV.val : AV → Value
 | .b t => .bool t
 | .i k n => .int k n
 | .s l => .string ⟨l.toArray⟩
 | _ => undef
def AV.fl : AV → Bool
 | .b _ | .i _ _ | .s _ => true
 | _ => false
theorem Ybm (ρ : Mp) {a : AV} (h : a.fl = true) : VR ρ a a.val := by
 cases a <;> first | (cases h; done) | skip
 ·exact .b _
 ·exact .i _ _
 ·exact .s _ _ rfl
theorem ZFP {ρ : Mp} {a : AV} {v : Value} (h : a.fl = true) (e : VR ρ a v) : v = a.val := by
 cases a <;> first | (cases h; done) | skip
 ·cases e; rfl
 ·cases e; rfl
 ·cases e with
  | s l bs hb => subst hb; rfl
theorem YM6 (ρ : Mp) : ∀ (l : List AV), (∀ a ∈ l, a.fl = true) → VL ρ l (l.map AV.val).toArray
 | [], _ => VL.nil ρ
 | a :: l, h => VL.cons (Ybm ρ (h a (.head _))) (YM6 ρ l fun b hb => h b (.tail _ hb))
theorem q2N {ρ : Mp} {l : List AV} {cs : Array Value} (h : VL ρ l cs) : VR ρ (.ag l) (.agg cs) := .ag l cs h.1 h.2
structure In (K : Code → CC → Prop) (ρ : Mp) (h : List AB) (w : World) : Prop where
 rel : Rel K ρ h w
 frz : ∀ B ∈ h, B.mut = false
variable {K : Code → CC → Prop} {ρ : Mp} {h : List AB} {w : World}
theorem In.nil (w : World) : In K [] [] w := ⟨⟨rfl, fun i B b o n h => by simp at h, fun i j bi oi bj oj Bi Bj _ h => by simp at h, GL.nil (QRO w)⟩, fun B h => by simp at h⟩
theorem In.push (r : In K ρ h w) {B : AB} {b o n : Nat} (hm : B.mut = false) (hB : BR K (ρ ++ [(b, o, n)]) w b o n B) : In K (ρ ++ [(b, o, n)]) (h ++ [B]) w := by
 have hf : ∀ C ∈ h ++ [B], C.mut = false := fun C hC => by
  rcases List.mem_append.1 hC with q | q
  ·exact r.frz C q
  ·rw [List.mem_singleton.1 q]; exact hm
 refine ⟨⟨by simp [r.rel.len], fun i C b' o' n' h1 h2 => ?_, fun i j bi oi bj oj Bi Bj _ h1 _ _ _ hm' _ => ?_, r.rel.gl.sub fun b' ⟨i, C, o', h1, h2, _⟩ => by
  rw [hf C (List.mem_of_getElem? h1)] at h2
  cases h2⟩, hf⟩
 ·by_cases hi : i < h.length
  ·rw [List.getElem?_append_left hi] at h1
   rw [List.getElem?_append_left (by rw [r.rel.len]; exact hi)] at h2
   exact (r.rel.blk i C b' o' n' h1 h2).same (Ext.push _ _) fun _ => rfl
  ·have hlt := (List.getElem?_eq_some_iff.1 h1).1
   rw [List.length_append, List.length_singleton] at hlt
   have : i = h.length := by omega
   subst this
   rw [List.getElem?_append_right (Nat.le_refl _), Nat.sub_self] at h1
   rw [List.getElem?_append_right (by rw [r.rel.len]; exact Nat.le_refl _), r.rel.len, Nat.sub_self] at h2
   cases h1
   cases h2
   exact hB
 ·rw [hf Bi (List.mem_of_getElem? h1)] at hm'
  cases hm'
theorem In.slice {α : Type} {r : Row α} (i : In K ρ h w) {v : Value} {l : List α} (hfl : ∀ x, ∀ a ∈ r.f x, a.fl = true) (hs : Sl w v l.length ((r.cells l).map AV.val)) :
  l.length ≤ maxLen ∧ ∃ x, In K (ρ ++ [x]) (h ++ [resB r false l]) w ∧ VR (ρ ++ [x]) (rsl r h.length l) v := by
 have hrl := i.rel.len
 by_cases h0 : l.length = 0
 ·have : l = [] := List.eq_nil_of_length_eq_zero h0
  subst this
  refine ⟨Nat.zero_le _, (0, 0, 0), i.push (by simp [resB, AB.mut]) (by simp [resB, BR]), ?_⟩
  simp only [rsl, List.length_nil, if_true]
  rcases hs with ⟨⟨a, rfl⟩, _, _⟩ | ⟨b, off, cap, rfl, _, hc, _⟩
  ·exact .sz _ _ _ _ (Nat.zero_le _) fun _ => rfl
  ·exact .sz _ _ _ _ hc fun q => by cases q
 ·rcases hs with ⟨_, q, _⟩ | ⟨b, off, cap, rfl, hlc, hc, hcells⟩
  ·exact absurd q h0
  ·have hlen : (r.cells l).length = l.length * r.sz := r.cells_len l
   have hpos : 0 < l.length * r.sz := Nat.mul_pos (by omega) r.pos
   have hall : ∀ a ∈ r.cells l, a.fl = true := fun a ha => by
    obtain ⟨x, _, hx⟩ := List.mem_flatMap.1 ha
    exact hfl x a hx
   have hat : ∀ k (hk : k < (r.cells l).length), w.cell? ⟨b, off + k, none⟩ = some ((r.cells l)[k]).val := fun k hk => hcells k _ (by rw [List.getElem?_map, List.getElem?_eq_getElem hk]; rfl)
   obtain ⟨cs, e, fz, hb⟩ : ∃ cs e fz, w.heap[b]? = some (.cells cs e fz) := by
    have := hat 0 (by omega)
    unfold World.cell? at this
    split at this
    ·rename_i c e fz hb
     exact ⟨c, e, fz, hb⟩
    ·cases this
   have hat' : ∀ k (hk : k < (r.cells l).length), cs[off + k]? = some ((r.cells l)[k]).val := fun k hk => by
    have := hat k hk
    unfold World.cell? at this
    rw [hb] at this
    simpa using this
   refine ⟨by omega, (b, off, off + cap * r.sz), i.push (by simp [resB, h0, AB.mut]) ?_, ?_⟩
   ·simp only [resB, if_neg h0, BR]
    refine ⟨cs, e, fz, hb, (fun q => by cases q), ?_, fun k a c ha hc' => ?_⟩
    ·have := (Array.getElem?_eq_some_iff.1 (hat' ((r.cells l).length - 1) (by omega))).1
     omega
    ·have hk := (List.getElem?_eq_some_iff.1 ha).1
     rw [hat' k hk] at hc'
     have : a = (r.cells l)[k] := (List.getElem?_eq_some_iff.1 ha).2.symm
     subst this
     cases hc'
     exact Ybm _ (hall _ (List.getElem_mem hk))
   ·simp only [rsl, if_neg h0]
    exact .sl h.length 0 l.length l.length (some r.sz) b off (off + cap * r.sz) cap (by rw [← hrl, List.getElem?_append_right (Nat.le_refl _), Nat.sub_self]; rfl) (Nat.le_refl _) hlc hc (fun q => by cases q) (fun z hz _ => by cases hz; exact Nat.le_refl _)
theorem KAv {P : Program} {g : Nat} {az : List AV} {vals : Array Value} {h' : List AB} (i : In (KC P) ρ h w) (hv : VL ρ az vals) (e : FnC P g az h (.b true) h') : Calls P g vals w (fun e w' => e = .returned (.bool true) ∧ Kept NoS w w') := by
 refine (e.2 ρ w vals i.rel hv).mono ?_
 rintro e w' ⟨v', ρ', rfl, hva, _, heff⟩
 cases hva
 refine ⟨rfl, heff.os, heff.tape, heff.output.1, heff.size, fun b hb _ => heff.keep b hb fun ⟨j, B, o, h1, h2, _⟩ => ?_⟩
 rw [i.frz B (List.mem_of_getElem? h1)] at h2
 cases h2
theorem zDi (x : Int) : ∀ a ∈ intR.f x, a.fl = true := fun a ha => by simp [Zr0] at ha; subst ha; rfl
theorem KGc (x : Int × Int) : ∀ a ∈ dotR.f x, a.fl = true := fun a ha => by simp [zBU] at ha; rcases ha with rfl | rfl <;> rfl
end Go.Proofs.YtebcngelgdpbjaaGreat
end
section
namespace Go.Proofs.YtebcngelgdpbjaaGreat
structure Dg where
 l : List UInt8
 h : l.length = 32
deriving DecidableEq
def u8A (b : UInt8) : AV := .i .u8 (b.toNat : Int)
theorem Kku {a b : UInt8} (e : u8A a = u8A b) : a = b := by
 unfold u8A at e
 have e2 : (a.toNat : Int) = (b.toNat : Int) := by
  injection e
 exact UInt8.toNat.inj (by omega)
theorem ZRQ {α β : Type} {f : α → β} (hf : ∀ a b, f a = f b → a = b) : ∀ {l l' : List α}, l.map f = l'.map f → l = l'
 | [], [], _ => rfl
 | [], _ :: _, e => by simp at e
 | _ :: _, [], e => by simp at e
 | a :: l, b :: l', e => by
  simp only [List.map_cons, List.cons.injEq] at e
  rw [hf a b e.1, ZRQ hf e.2]
theorem Dg.ext {a b : Dg} (e : a.l = b.l) : a = b := by
 cases a; cases b
 cases e
 rfl
def KDO : Dg := ⟨List.replicate 32 0, by simp⟩
def idR : Row Dg := ⟨fun x => x.l.map u8A, 32, fun x => by rw [List.length_map]; exact x.h, by decide, KDO, fun x y e => Dg.ext (ZRQ (fun a b => Kku) e)⟩
end Go.Proofs.YtebcngelgdpbjaaGreat
end
section
namespace Go.Proofs.YtebcngelgdpbjaaGreat
set_option maxRecDepth 100000
set_option maxHeartbeats 4000000
def lowP (c : Int) : Prop := (97 ≤ c ∧ c ≤ 122) ∨ (48 ≤ c ∧ c ≤ 57)
instance (c : Int) : Decidable (lowP c) := inferInstanceAs (Decidable (_ ∨ _))
def XmB : List AV → List AB → Option (AV × List AB)
 | [.i .i32 c], h => some (.b (decide (lowP c)), h)
 | _, _ => none
theorem QJz : Spec Tryz.prog 224 XmB := by
 intro args h v h' e
 unfold XmB at e
 split at e
 ·rename_i c
  cases e
  refine FnAt.c (FnAt.run (by kernel_rfl) (T := ⟨[], []⟩) ⟨trivial, trivial⟩ Tryz.func224 zdu fun ho hh => ?_)
  unfold w224
  by_cases h1 : 97 ≤ c <;> by_cases h2 : c ≤ 122 <;> by_cases h3 : 48 ≤ c <;> by_cases h4 : c ≤ 57 <;>
   (simp only [QhU, YqB, z16, KHD, Xq6, simprocAttr, CO.tmps, Opd.tmps, optT, Nat.reducePow, Nat.reduceDiv, Nat.reduceMod, h1, h2, h3, h4, decide_true, decide_false]; exact Bt.dropB _ hh (by simp [lowP, h1, h2, h3, h4]))
 ·cases e
inductive RK where
 | w
 | i
 | s
 | d
deriving DecidableEq
structure RQ where
 left : Nat
 k : RK
deriving DecidableEq
def QIO (n : Nat) (c : Int) : Option RQ := if lowP c then some ⟨n, .i⟩ else none
def KGW (q : RQ) (c : Int) : Option RQ :=
 match q.k with
 | .w => QIO q.left c
 | .i => if c = 47 ∧ 0 < q.left then some ⟨q.left - 1, .w⟩ else if c = 46 then some ⟨q.left, .w⟩ else if c = 95 then some ⟨q.left, .s⟩ else if c = 45 then some ⟨q.left, .d⟩ else QIO q.left c
 | .s => if c = 95 then some ⟨q.left, .w⟩ else QIO q.left c
 | .d => if c = 45 then some ⟨q.left, .d⟩ else QIO q.left c
def fnR : RK → Nat
 | .w => 226
 | .i => 255
 | .s => 267
 | .d => 268
def stR (q : RQ) : AB := .blk false true [.f (.func (fnR q.k)) [.ag [.i .i64 q.left]] [], .b (decide (q.k = .i))]
theorem Jyz (n : Nat) : stR ⟨n, .w⟩ = .blk false true [.f (.func 226) [.ag [.i .i64 n]] [], .b false] := _root_.id rfl
theorem JJU (n : Nat) : stR ⟨n, .i⟩ = .blk false true [.f (.func 255) [.ag [.i .i64 n]] [], .b true] := _root_.id rfl
theorem ZSy (n : Nat) : stR ⟨n, .s⟩ = .blk false true [.f (.func 267) [.ag [.i .i64 n]] [], .b false] := _root_.id rfl
theorem KWK (n : Nat) : stR ⟨n, .d⟩ = .blk false true [.f (.func 268) [.ag [.i .i64 n]] [], .b false] := _root_.id rfl
def ansR (h : List AB) : Option RQ → Option (AV × List AB)
 | some q => some (.p h.length 0, h ++ [stR q])
 | none => some (.np, h)
def QoC (k : RK) : List AV → List AB → Option (AV × List AB)
 | [.ag [.i .i64 n], .i .i32 c], h => if 0 ≤ n ∧ n ≤ 1000 then ansR h (KGW ⟨n.toNat, k⟩ c) else none
 | _, _ => none
def zJd : List AV → List AB → Option (AV × List AB)
 | [.ag [.i .i64 n]], h => if 0 ≤ n ∧ n ≤ 1000 then some (.p h.length 0, h ++ [stR ⟨n.toNat, .w⟩]) else none
 | _, _ => none
theorem YR0 : Spec Tryz.prog 185 zJd := by
 intro args h v h' e
 unfold zJd at e
 split at e
 ·rename_i n
  split at e
  ·rename_i hn
   cases e
   refine FnAt.c (FnAt.run (by kernel_rfl) (T := ⟨[], []⟩) ⟨trivial, trivial⟩ Tryz.func185 Ksm fun ho hh => ?_)
   have en : ((n.toNat : Nat) : Int) = n := by omega
   unfold w185
   simp only [QhU, YqB, z16, KHD, Xq6, simprocAttr, CO.tmps, Opd.tmps, optT, Nat.reducePow, Nat.reduceDiv, Nat.reduceMod]
   rw [Jyz, en]
   exact Bt.sel [1] hh (by decide) (by simp only [KlC, FrSel, BlkSel, AV.ren, renL, AV.ok, okL, Option.some.injEq, exists_eq_left', List.length_cons, List.length_nil, Nat.reduceAdd, Nat.reduceLT, reduceCtorEq, implies_true, exists_eq']) (by simp only [KlC, FrSel, BlkSel, AV.ren, renL, AV.ok, okL, Option.some.injEq, exists_eq_left', List.length_cons, List.length_nil, Nat.reduceAdd, Nat.reduceLT, reduceCtorEq, implies_true, exists_eq'])
  ·cases e
 ·cases e
theorem Ql0 : Spec Tryz.prog 226 (QoC .w) := by
 intro args h v h' e
 unfold QoC at e
 split at e
 ·rename_i n c
  split at e
  ·rename_i hn
   have en : ((n.toNat : Nat) : Int) = n := by omega
   refine FnAt.c (FnAt.run (by kernel_rfl) (T := ⟨[⟨224, XmB, fun _ => []⟩], []⟩) ⟨⟨QJz, trivial⟩, trivial⟩ Tryz.func226 XZI fun ho hh => ?_)
   unfold w226
   simp only [KGW, QIO] at e
   by_cases h1 : lowP c
   ·rw [if_pos h1] at e
    cases e
    simp only [QhU, YqB, z16, KHD, Xq6, simprocAttr, CO.tmps, Opd.tmps, optT, Nat.reducePow, Nat.reduceDiv, Nat.reduceMod, XmB, eq_true h1, decide_true, decide_false, ne_eq, not_false_eq_true, not_true_eq_false, false_implies, forall_const, and_true, true_and]
    rw [JJU, en]
    exact Bt.sel [1] hh (by decide) (by simp only [KlC, FrSel, BlkSel, AV.ren, renL, AV.ok, okL, Option.some.injEq, exists_eq_left', List.length_cons, List.length_nil, Nat.reduceAdd, Nat.reduceLT, reduceCtorEq, implies_true, exists_eq']) (by simp only [KlC, FrSel, BlkSel, AV.ren, renL, AV.ok, okL, Option.some.injEq, exists_eq_left', List.length_cons, List.length_nil, Nat.reduceAdd, Nat.reduceLT, reduceCtorEq, implies_true, exists_eq'])
   ·rw [if_neg h1] at e
    cases e
    simp only [QhU, YqB, z16, KHD, Xq6, simprocAttr, CO.tmps, Opd.tmps, optT, Nat.reducePow, Nat.reduceDiv, Nat.reduceMod, XmB, eq_false h1, decide_true, decide_false, ne_eq, not_false_eq_true, not_true_eq_false, false_implies, forall_const, and_true, true_and]
    exact Bt.drop _ hh rfl rfl
  ·cases e
 ·cases e
theorem ZYH {h : List AB} {o : Option RQ} {v : AV} {h' : List AB} (e : ansR h o = some (v, h')) : (∃ q, o = some q ∧ v = .p h.length 0 ∧ h' = h ++ [stR q]) ∨ (o = none ∧ v = .np ∧ h' = h) := by
 cases o with
 | some q => cases e; exact .inl ⟨q, rfl, rfl, rfl⟩
 | none => cases e; exact .inr ⟨rfl, rfl, rfl⟩
theorem JKZ : Spec Tryz.prog 267 (QoC .s) := by
 intro args h v h' e
 unfold QoC at e
 split at e
 ·rename_i n c
  split at e
  ·rename_i hn
   have en : ((n.toNat : Nat) : Int) = n := by omega
   have hn' := eq_true hn
   refine FnAt.c (FnAt.run (by kernel_rfl) (T := ⟨[⟨226, QoC .w, fun _ => []⟩], []⟩) ⟨⟨Ql0, trivial⟩, trivial⟩ Tryz.func267 Q1U fun ho hh => ?_)
   unfold w267
   simp only [KGW] at e
   by_cases h1 : c = 95
   ·rw [if_pos h1] at e
    cases e
    simp only [QhU, YqB, z16, KHD, Xq6, simprocAttr, CO.tmps, Opd.tmps, optT, Nat.reducePow, Nat.reduceDiv, Nat.reduceMod, eq_true h1, decide_true, decide_false, ne_eq, not_false_eq_true, not_true_eq_false, false_implies, forall_const, and_true, true_and]
    rw [Jyz, en]
    exact Bt.sel [1] hh (by decide) (by simp only [KlC, FrSel, BlkSel, AV.ren, renL, AV.ok, okL, Option.some.injEq, exists_eq_left', List.length_cons, List.length_nil, Nat.reduceAdd, Nat.reduceLT, reduceCtorEq, implies_true, exists_eq']) (by simp only [KlC, FrSel, BlkSel, AV.ren, renL, AV.ok, okL, Option.some.injEq, exists_eq_left', List.length_cons, List.length_nil, Nat.reduceAdd, Nat.reduceLT, reduceCtorEq, implies_true, exists_eq'])
   ·rw [if_neg h1] at e
    have es : ∀ H, QoC .w [.ag [.i .i64 n], .i .i32 c] H = ansR H (QIO n.toNat c) := fun H => by
     show (if 0 ≤ n ∧ n ≤ 1000 then ansR H (KGW ⟨n.toNat, .w⟩ c) else none) = _
     rw [if_pos hn]
     rfl
    rcases ZYH e with ⟨q, q1, rfl, rfl⟩ | ⟨q1, rfl, rfl⟩
    ·simp only [QhU, YqB, z16, KHD, Xq6, simprocAttr, CO.tmps, Opd.tmps, optT, Nat.reducePow, Nat.reduceDiv, Nat.reduceMod, eq_false h1, es, q1, ansR, decide_true, decide_false, ne_eq, not_false_eq_true, not_true_eq_false, false_implies, forall_const, and_true, true_and]
     exact Bt.sel [1] hh (by decide) (by simp only [KlC, FrSel, BlkSel, AV.ren, renL, AV.ok, okL, Option.some.injEq, exists_eq_left', List.length_cons, List.length_nil, Nat.reduceAdd, Nat.reduceLT, reduceCtorEq, implies_true, exists_eq', stR]) (by simp only [KlC, FrSel, BlkSel, AV.ren, renL, AV.ok, okL, Option.some.injEq, exists_eq_left', List.length_cons, List.length_nil, Nat.reduceAdd, Nat.reduceLT, reduceCtorEq, implies_true, exists_eq'])
    ·simp only [QhU, YqB, z16, KHD, Xq6, simprocAttr, CO.tmps, Opd.tmps, optT, Nat.reducePow, Nat.reduceDiv, Nat.reduceMod, eq_false h1, es, q1, ansR, decide_true, decide_false, ne_eq, not_false_eq_true, not_true_eq_false, false_implies, forall_const, and_true, true_and]
     exact Bt.drop _ hh rfl rfl
  ·cases e
 ·cases e
theorem qiR : Spec Tryz.prog 268 (QoC .d) := by
 intro args h v h' e
 unfold QoC at e
 split at e
 ·rename_i n c
  split at e
  ·rename_i hn
   have en : ((n.toNat : Nat) : Int) = n := by omega
   have hn' := eq_true hn
   refine FnAt.c (FnAt.run (by kernel_rfl) (T := ⟨[⟨226, QoC .w, fun _ => []⟩], []⟩) ⟨⟨Ql0, trivial⟩, trivial⟩ Tryz.func268 JPY fun ho hh => ?_)
   unfold w268
   simp only [KGW] at e
   by_cases h1 : c = 45
   ·rw [if_pos h1] at e
    cases e
    simp only [QhU, YqB, z16, KHD, Xq6, simprocAttr, CO.tmps, Opd.tmps, optT, Nat.reducePow, Nat.reduceDiv, Nat.reduceMod, eq_true h1, decide_true, decide_false, ne_eq, not_false_eq_true, not_true_eq_false, false_implies, forall_const, and_true, true_and]
    rw [KWK, en]
    exact Bt.sel [1] hh (by decide) (by simp only [KlC, FrSel, BlkSel, AV.ren, renL, AV.ok, okL, Option.some.injEq, exists_eq_left', List.length_cons, List.length_nil, Nat.reduceAdd, Nat.reduceLT, reduceCtorEq, implies_true, exists_eq']) (by simp only [KlC, FrSel, BlkSel, AV.ren, renL, AV.ok, okL, Option.some.injEq, exists_eq_left', List.length_cons, List.length_nil, Nat.reduceAdd, Nat.reduceLT, reduceCtorEq, implies_true, exists_eq'])
   ·rw [if_neg h1] at e
    have es : ∀ H, QoC .w [.ag [.i .i64 n], .i .i32 c] H = ansR H (QIO n.toNat c) := fun H => by
     show (if 0 ≤ n ∧ n ≤ 1000 then ansR H (KGW ⟨n.toNat, .w⟩ c) else none) = _
     rw [if_pos hn]
     rfl
    rcases ZYH e with ⟨q, q1, rfl, rfl⟩ | ⟨q1, rfl, rfl⟩
    ·simp only [QhU, YqB, z16, KHD, Xq6, simprocAttr, CO.tmps, Opd.tmps, optT, Nat.reducePow, Nat.reduceDiv, Nat.reduceMod, eq_false h1, es, q1, ansR, decide_true, decide_false, ne_eq, not_false_eq_true, not_true_eq_false, false_implies, forall_const, and_true, true_and]
     exact Bt.sel [1] hh (by decide) (by simp only [KlC, FrSel, BlkSel, AV.ren, renL, AV.ok, okL, Option.some.injEq, exists_eq_left', List.length_cons, List.length_nil, Nat.reduceAdd, Nat.reduceLT, reduceCtorEq, implies_true, exists_eq', stR]) (by simp only [KlC, FrSel, BlkSel, AV.ren, renL, AV.ok, okL, Option.some.injEq, exists_eq_left', List.length_cons, List.length_nil, Nat.reduceAdd, Nat.reduceLT, reduceCtorEq, implies_true, exists_eq'])
    ·simp only [QhU, YqB, z16, KHD, Xq6, simprocAttr, CO.tmps, Opd.tmps, optT, Nat.reducePow, Nat.reduceDiv, Nat.reduceMod, eq_false h1, es, q1, ansR, decide_true, decide_false, ne_eq, not_false_eq_true, not_true_eq_false, false_implies, forall_const, and_true, true_and]
     exact Bt.drop _ hh rfl rfl
  ·cases e
 ·cases e
theorem K1B : Spec Tryz.prog 255 (QoC .i) := by
 intro args h v h' e
 unfold QoC at e
 split at e
 ·rename_i n c
  split at e
  ·rename_i hn
   have en : ((n.toNat : Nat) : Int) = n := by omega
   refine FnAt.c (FnAt.run (by kernel_rfl) (T := ⟨[⟨226, QoC .w, fun _ => []⟩, ⟨185, zJd, fun _ => []⟩], []⟩) ⟨⟨Ql0, YR0, trivial⟩, trivial⟩ Tryz.func255 ZSs fun ho hh => ?_)
   unfold w255
   have es : ∀ H, QoC .w [.ag [.i .i64 n], .i .i32 c] H = ansR H (QIO n.toNat c) := fun H => by
    show (if 0 ≤ n ∧ n ≤ 1000 then ansR H (KGW ⟨n.toNat, .w⟩ c) else none) = _
    rw [if_pos hn]
    rfl
   simp only [KGW] at e
   by_cases h1 : c = 47
   ·subst h1
    by_cases h0 : 0 < n
    ·rw [if_pos ⟨rfl, by omega⟩] at e
     cases e
     have ew : IntKind.i64.wrap (n - 1) = n - 1 := ZWm (by unfold In64; omega)
     have ep : ∀ H, zJd [.ag [.i .i64 (n - 1)]] H = some (.p H.length 0, H ++ [stR ⟨n.toNat - 1, .w⟩]) := fun H => by
      show (if 0 ≤ n - 1 ∧ n - 1 ≤ 1000 then some (AV.p H.length 0, H ++ [stR ⟨(n - 1).toNat, .w⟩]) else none) = _
      rw [if_pos (by omega), show (n - 1).toNat = n.toNat - 1 by omega]
     have h0' := eq_true h0
     simp only [QhU, YqB, z16, KHD, Xq6, simprocAttr, CO.tmps, Opd.tmps, optT, Nat.reducePow, Nat.reduceDiv, Nat.reduceMod, h0', ew, ep, decide_true, decide_false, ne_eq, not_false_eq_true, not_true_eq_false, false_implies, forall_const, and_true, true_and]
     exact Bt.sel [1] hh (by decide) (by simp only [KlC, FrSel, BlkSel, AV.ren, renL, AV.ok, okL, Option.some.injEq, exists_eq_left', List.length_cons, List.length_nil, Nat.reduceAdd, Nat.reduceLT, reduceCtorEq, implies_true, exists_eq', stR]) (by simp only [KlC, FrSel, BlkSel, AV.ren, renL, AV.ok, okL, Option.some.injEq, exists_eq_left', List.length_cons, List.length_nil, Nat.reduceAdd, Nat.reduceLT, reduceCtorEq, implies_true, exists_eq'])
    ·rw [if_neg (fun q => h0 (by omega)), if_neg (by decide), if_neg (by decide), if_neg (by decide)] at e
     have h0' := eq_false h0
     rcases ZYH e with ⟨q, q1, rfl, rfl⟩ | ⟨q1, rfl, rfl⟩
     ·simp only [QhU, YqB, z16, KHD, Xq6, simprocAttr, CO.tmps, Opd.tmps, optT, Nat.reducePow, Nat.reduceDiv, Nat.reduceMod, h0', es, q1, ansR, decide_true, decide_false, ne_eq, not_false_eq_true, not_true_eq_false, false_implies, forall_const, and_true, true_and]
      exact Bt.sel [1] hh (by decide) (by simp only [KlC, FrSel, BlkSel, AV.ren, renL, AV.ok, okL, Option.some.injEq, exists_eq_left', List.length_cons, List.length_nil, Nat.reduceAdd, Nat.reduceLT, reduceCtorEq, implies_true, exists_eq', stR]) (by simp only [KlC, FrSel, BlkSel, AV.ren, renL, AV.ok, okL, Option.some.injEq, exists_eq_left', List.length_cons, List.length_nil, Nat.reduceAdd, Nat.reduceLT, reduceCtorEq, implies_true, exists_eq'])
     ·simp only [QhU, YqB, z16, KHD, Xq6, simprocAttr, CO.tmps, Opd.tmps, optT, Nat.reducePow, Nat.reduceDiv, Nat.reduceMod, h0', es, q1, ansR, decide_true, decide_false, ne_eq, not_false_eq_true, not_true_eq_false, false_implies, forall_const, and_true, true_and]
      exact Bt.drop _ hh rfl rfl
   have h1' := eq_false h1
   rw [if_neg (fun q => h1 q.1)] at e
   by_cases h2 : c = 46
   ·rw [if_pos h2] at e
    cases e
    simp only [QhU, YqB, z16, KHD, Xq6, simprocAttr, CO.tmps, Opd.tmps, optT, Nat.reducePow, Nat.reduceDiv, Nat.reduceMod, h1', eq_true h2, decide_true, decide_false, ne_eq, not_false_eq_true, not_true_eq_false, false_implies, forall_const, and_true, true_and]
    rw [Jyz, en]
    exact Bt.sel [1] hh (by decide) (by simp only [KlC, FrSel, BlkSel, AV.ren, renL, AV.ok, okL, Option.some.injEq, exists_eq_left', List.length_cons, List.length_nil, Nat.reduceAdd, Nat.reduceLT, reduceCtorEq, implies_true, exists_eq']) (by simp only [KlC, FrSel, BlkSel, AV.ren, renL, AV.ok, okL, Option.some.injEq, exists_eq_left', List.length_cons, List.length_nil, Nat.reduceAdd, Nat.reduceLT, reduceCtorEq, implies_true, exists_eq'])
   have h2' := eq_false h2
   rw [if_neg h2] at e
   by_cases h3 : c = 95
   ·rw [if_pos h3] at e
    cases e
    simp only [QhU, YqB, z16, KHD, Xq6, simprocAttr, CO.tmps, Opd.tmps, optT, Nat.reducePow, Nat.reduceDiv, Nat.reduceMod, h1', h2', eq_true h3, decide_true, decide_false, ne_eq, not_false_eq_true, not_true_eq_false, false_implies, forall_const, and_true, true_and]
    rw [ZSy, en]
    exact Bt.sel [1] hh (by decide) (by simp only [KlC, FrSel, BlkSel, AV.ren, renL, AV.ok, okL, Option.some.injEq, exists_eq_left', List.length_cons, List.length_nil, Nat.reduceAdd, Nat.reduceLT, reduceCtorEq, implies_true, exists_eq']) (by simp only [KlC, FrSel, BlkSel, AV.ren, renL, AV.ok, okL, Option.some.injEq, exists_eq_left', List.length_cons, List.length_nil, Nat.reduceAdd, Nat.reduceLT, reduceCtorEq, implies_true, exists_eq'])
   have h3' := eq_false h3
   rw [if_neg h3] at e
   by_cases h4 : c = 45
   ·rw [if_pos h4] at e
    cases e
    simp only [QhU, YqB, z16, KHD, Xq6, simprocAttr, CO.tmps, Opd.tmps, optT, Nat.reducePow, Nat.reduceDiv, Nat.reduceMod, h1', h2', h3', eq_true h4, decide_true, decide_false, ne_eq, not_false_eq_true, not_true_eq_false, false_implies, forall_const, and_true, true_and]
    rw [KWK, en]
    exact Bt.sel [1] hh (by decide) (by simp only [KlC, FrSel, BlkSel, AV.ren, renL, AV.ok, okL, Option.some.injEq, exists_eq_left', List.length_cons, List.length_nil, Nat.reduceAdd, Nat.reduceLT, reduceCtorEq, implies_true, exists_eq']) (by simp only [KlC, FrSel, BlkSel, AV.ren, renL, AV.ok, okL, Option.some.injEq, exists_eq_left', List.length_cons, List.length_nil, Nat.reduceAdd, Nat.reduceLT, reduceCtorEq, implies_true, exists_eq'])
   have h4' := eq_false h4
   rw [if_neg h4] at e
   rcases ZYH e with ⟨q, q1, rfl, rfl⟩ | ⟨q1, rfl, rfl⟩
   ·simp only [QhU, YqB, z16, KHD, Xq6, simprocAttr, CO.tmps, Opd.tmps, optT, Nat.reducePow, Nat.reduceDiv, Nat.reduceMod, h1', h2', h3', h4', es, q1, ansR, decide_true, decide_false, ne_eq, not_false_eq_true, not_true_eq_false, false_implies, forall_const, and_true, true_and]
    exact Bt.sel [1] hh (by decide) (by simp only [KlC, FrSel, BlkSel, AV.ren, renL, AV.ok, okL, Option.some.injEq, exists_eq_left', List.length_cons, List.length_nil, Nat.reduceAdd, Nat.reduceLT, reduceCtorEq, implies_true, exists_eq', stR]) (by simp only [KlC, FrSel, BlkSel, AV.ren, renL, AV.ok, okL, Option.some.injEq, exists_eq_left', List.length_cons, List.length_nil, Nat.reduceAdd, Nat.reduceLT, reduceCtorEq, implies_true, exists_eq'])
   ·simp only [QhU, YqB, z16, KHD, Xq6, simprocAttr, CO.tmps, Opd.tmps, optT, Nat.reducePow, Nat.reduceDiv, Nat.reduceMod, h1', h2', h3', h4', es, q1, ansR, decide_true, decide_false, ne_eq, not_false_eq_true, not_true_eq_false, false_implies, forall_const, and_true, true_and]
    exact Bt.drop _ hh rfl rfl
  ·cases e
 ·cases e
end Go.Proofs.YtebcngelgdpbjaaGreat
end
section
namespace Go.Proofs.YtebcngelgdpbjaaGreat
set_option maxRecDepth 100000
set_option maxHeartbeats 4000000
def runB {Q : Type} (step : Q → Int → Option Q) (ends : Q → Bool) : List UInt8 → Nat → Q → Option Nat
 | [], pos, q => if ends q then none else some pos
 | b :: l, pos, q => match (if b.toNat < 128 then step q b.toNat else none) with
  | none => some pos
  | some q' => runB step ends l (pos + 1) q'
theorem JaZ (x : List UInt8) : lenV (.s x) = some (x.length : Int) := _root_.id rfl
theorem XPB (x : List UInt8) : (AV.s x).isStr = true := _root_.id rfl
def fltA (e : Int) : Option Nat → AV
 | none => .ag [.i .i64 0, .i .i64 0]
 | some at' => .ag [.i .i64 e, .i .i64 at']
theorem qXJ {l : List UInt8} {pos : Nat} (h : pos < l.length) (ha : ¬ (l[pos]).toNat < 128) : 128 ≤ (Utf8.decode ⟨l.toArray⟩ pos).1 := by
 have hs : pos < (⟨l.toArray⟩ : ByteArray).size := by simpa [ByteArray.size] using h
 exact (decode_high ⟨l.toArray⟩ pos hs (by show 128 ≤ (l[pos]).toNat; omega)).1
theorem qeA {q : RQ} {c : Int} (h : 128 ≤ c) : KGW q c = none := by
 have hw : QIO q.left c = none := by unfold QIO; rw [if_neg (by unfold lowP; omega)]
 unfold KGW
 split
 ·exact hw
 ·rw [if_neg (by omega), if_neg (by omega), if_neg (by omega), if_neg (by omega), hw]
 ·rw [if_neg (by omega), hw]
 ·rw [if_neg (by omega), hw]
theorem zDh {q q' : RQ} {c : Int} (h : KGW q c = some q') : q'.left ≤ q.left := by
 have hw : ∀ r, QIO q.left c = some r → r.left ≤ q.left := fun r e => by
  unfold QIO at e
  split at e
  ·cases e; exact Nat.le_refl _
  ·cases e
 unfold KGW at h
 split at h
 ·exact hw _ h
 ·split at h
  ·cases h; exact Nat.sub_le _ _
  ·split at h
   ·cases h; exact Nat.le_refl _
   ·split at h
    ·cases h; exact Nat.le_refl _
    ·split at h
     ·cases h; exact Nat.le_refl _
     ·exact hw _ h
 ·split at h
  ·cases h; exact Nat.le_refl _
  ·exact hw _ h
 ·split at h
  ·cases h; exact Nat.le_refl _
  ·exact hw _ h
theorem X39 {q q' : RQ} (h : stR q = stR q') : q = q' := by
 obtain ⟨n, k⟩ := q
 obtain ⟨n', k'⟩ := q'
 cases k <;> cases k' <;> simp [stR, fnR] at h ⊢ <;> omega
open Classical in
noncomputable def qAt (h : List AB) (j : Nat) : Option RQ := if hq : ∃ q : RQ, h[j]? = some (stR q) then some hq.choose else none
theorem YE0 {h : List AB} {j : Nat} {q : RQ} (e : h[j]? = some (stR q)) : qAt h j = some q := by
 have hx : ∃ q : RQ, h[j]? = some (stR q) := ⟨q, e⟩
 have h1 : some (stR q) = some (stR hx.choose) := e.symm.trans hx.choose_spec
 unfold qAt
 exact (dif_pos hx).trans (congrArg some (X39 (Option.some.inj h1)).symm)
theorem qqw {β : Type} {h : List AB} {j : Nat} {f : RQ → Option β} {b : β} (e : (qAt h j).bind f = some b) : ∃ q, h[j]? = some (stR q) ∧ f q = some b := by
 unfold qAt at e
 split at e
 ·rename_i hx
  exact ⟨_, hx.choose_spec, e⟩
 ·cases e
def zcI (q : RQ) : Bool := decide (q.k = .i)
noncomputable def J2R : List AV → List AB → Option (AV × List AB)
 | [.s s, .p j 0, .i .i64 e], h => (qAt h j).bind fun q => if q.left ≤ 1000 ∧ s.length ≤ 1000000 then some (fltA e (runB KGW zcI s 0 q), h) else none
 | _, _ => none
theorem Z1t (q : RQ) : (stR q).freeze = .blk false false [.f (.func (fnR q.k)) [.ag [.i .i64 q.left]] [], .b (decide (q.k = .i))] := _root_.id rfl
theorem ZPy {Q : Type} {step : Q → Int → Option Q} {ends : Q → Bool} {s : List UInt8} {pos : Nat} {q : Q} (h : pos < s.length) : runB step ends (s.drop pos) pos q = match (if (s[pos]).toNat < 128 then step q (s[pos]).toNat else none) with
  | none => some pos
  | some q' => runB step ends (s.drop (pos + 1)) (pos + 1) q' := by
 rw [List.drop_eq_getElem_cons h]
 rfl
theorem Ze8 {Q : Type} {step : Q → Int → Option Q} (hbig : ∀ q c, 128 ≤ c → step q c = none) {s : List UInt8} {pos : Nat} (h : pos < s.length) (q : Q) :
  (if (s[pos]).toNat < 128 then step q (s[pos]).toNat else none) = step q ((Utf8.decode ⟨s.toArray⟩ pos).1 : Int) ∧ (∀ q', step q ((Utf8.decode ⟨s.toArray⟩ pos).1 : Int) = some q' → (Utf8.decode ⟨s.toArray⟩ pos).2 = 1) := by
 by_cases ha : (s[pos]).toNat < 128
 ·rw [if_pos ha, ZmB h ha]
  exact ⟨rfl, fun _ _ => rfl⟩
 ·rw [if_neg ha]
  have := hbig q _ (show (128 : Int) ≤ ((Utf8.decode ⟨s.toArray⟩ pos).1 : Int) by have := qXJ h ha; omega)
  exact ⟨this.symm, fun q' e => by rw [this] at e; cases e⟩
theorem JBh (k : RK) (a : List AV) (H : List AB) : (if 226 = fnR k then QoC .w a H else if 255 = fnR k then QoC .i a H else if 267 = fnR k then QoC .s a H else if 268 = fnR k then QoC .d a H else none) = QoC k a H := by
 cases k <;> rfl
theorem Ydo {q : RQ} (hl : q.left ≤ 1000) (c : Int) (H : List AB) : QoC q.k [.ag [.i .i64 q.left], .i .i32 c] H = ansR H (KGW q c) := by
 show (if (0 : Int) ≤ (q.left : Int) ∧ (q.left : Int) ≤ 1000 then ansR H (KGW ⟨((q.left : Int)).toNat, q.k⟩ c) else none) = _
 rw [if_pos (by omega), Int.toNat_natCast]
theorem ZCJ {h : List AB} (hz : h.map AB.freeze = h) {s : List UInt8} {j : Nat} {e : Int} {q0 : RQ} (hj : h[j]? = some (stR q0).freeze) (hl : q0.left ≤ 1000) (hs : s.length ≤ 1000000) :
  FnAt Tryz.prog 184 [.s s, .p j 0, .i .i64 e] h (fltA e (runB KGW zcI s 0 q0)) h := by
 refine FnAt.run (by kernel_rfl) (T := ⟨[⟨226, QoC .w, fun _ => []⟩, ⟨255, QoC .i, fun _ => []⟩, ⟨267, QoC .s, fun _ => []⟩, ⟨268, QoC .d, fun _ => []⟩], []⟩) ⟨⟨Ql0, K1B, JKZ, qiR, trivial⟩, trivial⟩ Tryz.func184 zjP fun ho hh => ?_
 unfold w184
 have hjl := (List.getElem?_eq_some_iff.1 hj).1
 have hp : ∀ L : List AB, ZMh (h ++ L) j = some [.f (.func (fnR q0.k)) [.ag [.i .i64 q0.left]] [], .b (decide (q0.k = .i))] := fun L => by
  unfold ZMh
  rw [List.getElem?_append_left hjl, hj, Z1t]
 have lj0 : ∀ L : List AB, ldV (h ++ L) none (.p j 0) = some (.f (.func (fnR q0.k)) [.ag [.i .i64 q0.left]] []) := fun L => by
  simp only [ldV, hp, Option.bind_some]
  rfl
 have lj1 : ∀ L : List AB, ldV (h ++ L) none (.p j 1) = some (.b (decide (q0.k = .i))) := fun L => by
  simp only [ldV, hp, Option.bind_some]
  rfl
 have en0 : q70 .np .np = some true := rfl
 have en1 : ∀ a b, q70 (.p a b) .np = some false := fun _ _ => rfl
 have oj : ∀ c, (AV.p j 0).ok (fun i => decide (i < h.length + c)) = true := fun c => by simp [AV.ok]; omega
 simp only [QhU, YqB, z16, KHD, Xq6, simprocAttr, CO.tmps, Opd.tmps, optT, Nat.reducePow, Nat.reduceDiv, Nat.reduceMod, z79]
 refine q2X (S := Nat × RQ) (fun σ => s.length - σ.1) (fun σ => [.s s, (if σ.1 = 0 then .p j 0 else .p (h.length + 2) 0), .i .i64 e] ++ tp 3 ++ [.p (h.length + 0) 0] ++ tp 3 ++ [.p (h.length + 1) 0] ++ tp 25) (fun σ => h ++ [.blk true true [.i .i64 0, .i .i64 0], itr s σ.1, (if σ.1 = 0 then .dead else stR σ.2)])
  (fun σ => σ.1 ≤ s.length ∧ σ.2.left ≤ 1000 ∧ (σ.1 = 0 → σ.2 = q0) ∧ runB KGW zcI (s.drop σ.1) σ.1 σ.2 = runB KGW zcI s 0 q0) (0, q0) ⟨Nat.zero_le _, hl, fun _ => rfl, rfl⟩ ?_ fun σ hσ => ?_
 ·show Bt _ _ _ _ _ (h ++ ([.blk true true [.i .i64 0, .i .i64 0], itr s 0] ++ List.replicate 1 .dead))
  rw [← List.append_assoc]
  refine Bt.trans (Bt.wk ?_) (Bt.pad _ _ 1)
  simp only [z16, Xq6, simprocAttr]
 obtain ⟨pos, q⟩ := σ
 obtain ⟨h1, h2, h3, h4⟩ := hσ
 dsimp only at h1 h2 h3 h4 ⊢
 have hn : ∀ B : AB, nxV (h ++ [.blk true true [.i .i64 0, .i .i64 0], itr s pos, B]) (.p (h.length + 1) 0) = if pos < s.length then some (.tu [.b true, .i .i64 (pos : Int), .i .i32 ((Utf8.decode ⟨s.toArray⟩ pos).1 : Int)], h ++ [.blk true true [.i .i64 0, .i .i64 0], itr s (pos + (Utf8.decode ⟨s.toArray⟩ pos).2), B]) else some (.tu [.b false], h ++ [.blk true true [.i .i64 0, .i .i64 0], itr s pos, B]) := fun B => J23 _ 1 s pos rfl
 by_cases g : pos < s.length
 ·have hd := ZPy (step := KGW) (ends := zcI) (q := q) g
  rw [h4] at hd
  by_cases p0 : pos = 0
  ·subst p0
   rw [h3 rfl] at hd
   simp only [if_true]
   obtain ⟨e1, e2⟩ := Ze8 (step := KGW) (fun _ _ => qeA) g q0
   rw [e1] at hd
   have es := fun H => Ydo (q := q0) hl ((Utf8.decode ⟨s.toArray⟩ 0).1 : Int) H
   cases hst : KGW q0 ((Utf8.decode ⟨s.toArray⟩ 0).1 : Int) with
   | none =>
    rw [hst] at hd
    dsimp only at hd
    simp only [QhU, YqB, z16, KHD, Xq6, simprocAttr, CO.tmps, Opd.tmps, optT, Nat.reducePow, Nat.reduceDiv, Nat.reduceMod, X6H, hn, g, lj0, JBh, es, hst, ansR, en0, en1, decide_true, decide_false, ne_eq, not_false_eq_true, not_true_eq_false, false_implies, forall_const, and_true, true_and]
    rw [hd]
    exact Bt.drop _ hh rfl rfl
   | some q' =>
    have e3 := e2 q' hst
    rw [hst] at hd
    dsimp only at hd
    simp only [QhU, YqB, z16, KHD, Xq6, simprocAttr, CO.tmps, Opd.tmps, optT, Nat.reducePow, Nat.reduceDiv, Nat.reduceMod, X6H, hn, g, lj0, JBh, es, hst, ansR, e3, en0, en1, decide_true, decide_false, ne_eq, not_false_eq_true, not_true_eq_false, false_implies, forall_const, and_true, true_and]
    refine ⟨(0 + 1, q'), ⟨g, Nat.le_trans (zDh hst) hl, (fun z => absurd z (Nat.succ_ne_zero _)), hd.symm⟩, by dsimp only; omega, ?_⟩
    dsimp only
    rw [if_neg (by decide), if_neg (by decide)]
    exact Bt.sel [0, 1, 3] hh (by decide) (by simp only [KlC, FrSel, BlkSel, AV.ren, renL, AV.ok, okL, Option.some.injEq, exists_eq_left', List.length_cons, List.length_nil, Nat.reduceAdd, Nat.reduceLT, reduceCtorEq, implies_true, exists_eq', oj, itr, stR, YmR, and_self]) (by simp only [KlC, FrSel, BlkSel, AV.ren, renL, AV.ok, okL, Option.some.injEq, exists_eq_left', List.length_cons, List.length_nil, Nat.reduceAdd, Nat.reduceLT, reduceCtorEq, implies_true, exists_eq'])
  ·simp only [p0, if_false]
   obtain ⟨e1, e2⟩ := Ze8 (step := KGW) (fun _ _ => qeA) g q
   rw [e1] at hd
   have es := fun H => Ydo (q := q) h2 ((Utf8.decode ⟨s.toArray⟩ pos).1 : Int) H
   cases hst : KGW q ((Utf8.decode ⟨s.toArray⟩ pos).1 : Int) with
   | none =>
    rw [hst] at hd
    dsimp only at hd
    simp only [QhU, YqB, z16, KHD, Xq6, simprocAttr, CO.tmps, Opd.tmps, optT, Nat.reducePow, Nat.reduceDiv, Nat.reduceMod, X6H, hn, g, stR, JBh, es, hst, ansR, en0, en1, decide_true, decide_false, ne_eq, not_false_eq_true, not_true_eq_false, false_implies, forall_const, and_true, true_and]
    rw [hd]
    exact Bt.drop _ hh rfl rfl
   | some q' =>
    have e3 := e2 q' hst
    rw [hst] at hd
    dsimp only at hd
    simp only [QhU, YqB, z16, KHD, Xq6, simprocAttr, CO.tmps, Opd.tmps, optT, Nat.reducePow, Nat.reduceDiv, Nat.reduceMod, X6H, hn, g, stR, JBh, es, hst, ansR, e3, en0, en1, decide_true, decide_false, ne_eq, not_false_eq_true, not_true_eq_false, false_implies, forall_const, and_true, true_and]
    refine ⟨(pos + 1, q'), ⟨g, Nat.le_trans (zDh hst) h2, (fun z => absurd z (Nat.succ_ne_zero _)), hd.symm⟩, by dsimp only; omega, ?_⟩
    dsimp only
    rw [if_neg (Nat.succ_ne_zero pos), if_neg (Nat.succ_ne_zero pos)]
    exact Bt.sel [0, 1, 3] hh (by decide) (by simp only [KlC, FrSel, BlkSel, AV.ren, renL, AV.ok, okL, Option.some.injEq, exists_eq_left', List.length_cons, List.length_nil, Nat.reduceAdd, Nat.reduceLT, reduceCtorEq, implies_true, exists_eq', oj, itr, stR, YmR, and_self]) (by simp only [KlC, FrSel, BlkSel, AV.ren, renL, AV.ok, okL, Option.some.injEq, exists_eq_left', List.length_cons, List.length_nil, Nat.reduceAdd, Nat.reduceLT, reduceCtorEq, implies_true, exists_eq'])
 ·have hpos : pos = s.length := by omega
  have hd : runB KGW zcI s 0 q0 = if zcI q then none else some s.length := by
   rw [← h4, hpos, List.drop_length]
   rfl
  by_cases p0 : pos = 0
  ·have hq0 := h3 p0
   subst hq0
   subst p0
   simp only [if_true]
   have hq : runB KGW zcI s 0 q = if zcI q then none else some s.length := hd
   cases he : zcI q with
   | true =>
    have he' : decide (q.k = RK.i) = true := he
    rw [he] at hq
    simp only [QhU, YqB, z16, KHD, Xq6, simprocAttr, CO.tmps, Opd.tmps, optT, Nat.reducePow, Nat.reduceDiv, Nat.reduceMod, X6H, hn, g, lj1, he', XJx, Bool.not_true, Bool.not_false, JaZ, XPB, decide_true, decide_false, ne_eq, not_false_eq_true, not_true_eq_false, false_implies, forall_const, and_true, true_and]
    rw [hq]
    exact Bt.drop _ hh rfl rfl
   | false =>
    have he' : decide (q.k = RK.i) = false := he
    rw [he] at hq
    simp only [QhU, YqB, z16, KHD, Xq6, simprocAttr, CO.tmps, Opd.tmps, optT, Nat.reducePow, Nat.reduceDiv, Nat.reduceMod, X6H, hn, g, lj1, he', XJx, Bool.not_true, Bool.not_false, JaZ, XPB, decide_true, decide_false, ne_eq, not_false_eq_true, not_true_eq_false, false_implies, forall_const, and_true, true_and]
    rw [hq]
    exact Bt.drop _ hh rfl rfl
  ·simp only [p0, if_false]
   have hq : runB KGW zcI s 0 q0 = if zcI q then none else some s.length := hd
   cases he : zcI q with
   | true =>
    have he' : decide (q.k = RK.i) = true := he
    rw [he] at hq
    simp only [QhU, YqB, z16, KHD, Xq6, simprocAttr, CO.tmps, Opd.tmps, optT, Nat.reducePow, Nat.reduceDiv, Nat.reduceMod, X6H, hn, g, stR, he', XJx, Bool.not_true, Bool.not_false, JaZ, XPB, decide_true, decide_false, ne_eq, not_false_eq_true, not_true_eq_false, false_implies, forall_const, and_true, true_and]
    rw [hq]
    exact Bt.drop _ hh rfl rfl
   | false =>
    have he' : decide (q.k = RK.i) = false := he
    rw [he] at hq
    simp only [QhU, YqB, z16, KHD, Xq6, simprocAttr, CO.tmps, Opd.tmps, optT, Nat.reducePow, Nat.reduceDiv, Nat.reduceMod, X6H, hn, g, stR, he', XJx, Bool.not_true, Bool.not_false, JaZ, XPB, decide_true, decide_false, ne_eq, not_false_eq_true, not_true_eq_false, false_implies, forall_const, and_true, true_and]
    rw [hq]
    exact Bt.drop _ hh rfl rfl
theorem Qnj : Spec Tryz.prog 184 J2R := by
 intro args h v h' e
 unfold J2R at e
 split at e
 ·rename_i s j e0
  obtain ⟨q, hq, e⟩ := qqw e
  split at e
  ·rename_i hc
   cases e
   refine FnAt.c (FnAt.frz0 fun hz => ZCJ hz ?_ hc.1 hc.2)
   rw [List.getElem?_map, hq]
   rfl
  ·cases e
 ·cases e
end Go.Proofs.YtebcngelgdpbjaaGreat
end
section
namespace Go.Proofs.YtebcngelgdpbjaaGreat
set_option maxRecDepth 100000
set_option maxHeartbeats 4000000
def XjM : List AV → List AB → Option (AV × List AB)
 | [.s s, .i .i64 m], h => some (.tu [(if m < (s.length : Int) then .ag [.i .i64 4, .i .i64 m] else .ag [.i .i64 0, .i .i64 0]), .b (decide (m < (s.length : Int)))], h)
 | _, _ => none
theorem qlF : Spec Tryz.prog 180 XjM := by
 intro args h v h' e
 unfold XjM at e
 split at e
 ·rename_i s m
  cases e
  refine FnAt.c (FnAt.run (by kernel_rfl) (T := ⟨[], []⟩) ⟨trivial, trivial⟩ Tryz.func180 zH7 fun ho hh => ?_)
  unfold w180
  by_cases g : m < (s.length : Int)
  ·have g' := eq_true g
   simp only [QhU, YqB, z16, KHD, Xq6, simprocAttr, CO.tmps, Opd.tmps, optT, Nat.reducePow, Nat.reduceDiv, Nat.reduceMod, g', JaZ, XPB, decide_true, decide_false, false_implies, forall_const, and_true, true_and, not_true_eq_false, not_false_eq_true]
   exact Bt.drop _ hh rfl rfl
  ·have g' := eq_false g
   simp only [QhU, YqB, z16, KHD, Xq6, simprocAttr, CO.tmps, Opd.tmps, optT, Nat.reducePow, Nat.reduceDiv, Nat.reduceMod, g', JaZ, XPB, decide_true, decide_false, false_implies, forall_const, and_true, true_and, not_true_eq_false, not_false_eq_true]
   exact Bt.drop _ hh rfl rfl
 ·cases e
def KRN (s : List UInt8) : AV := if (128 : Int) < (s.length : Int) then .ag [.i .i64 4, .i .i64 128] else fltA 7 (runB KGW zcI s 0 ⟨7, .w⟩)
theorem KUw (e : Int) (o : Option Nat) : ∃ a b, fltA e o = .ag [.i .i64 a, .i .i64 b] := by
 cases o <;> exact ⟨_, _, rfl⟩
noncomputable def Yja : List AV → List AB → Option (AV × List AB)
 | [.s s], h => if s.length ≤ 1000000 then some (KRN s, h) else none
 | _, _ => none
theorem Q1H {h L : List AB} {k : Nat} {q : RQ} (e : L[k]? = some (stR q)) : qAt (h ++ L) (h.length + k) = some q := YE0 (by rw [List.getElem?_append_right (by omega), Nat.add_sub_cancel_left]; exact e)
theorem zGG : Spec Tryz.prog 124 Yja := by
 intro args h v h' e
 unfold Yja at e
 split at e
 ·rename_i s
  split at e
  ·rename_i hs
   cases e
   refine FnAt.c (FnAt.run (by kernel_rfl) (T := ⟨[⟨180, XjM, fun _ => []⟩, ⟨185, zJd, fun _ => []⟩, ⟨184, J2R, fun _ => []⟩], []⟩) ⟨⟨qlF, YR0, Qnj, trivial⟩, trivial⟩ Tryz.func124 YA6 fun ho hh => ?_)
   unfold w124 KRN
   by_cases g : (128 : Int) < (s.length : Int)
   ·have g' := eq_true g
    simp only [QhU, YqB, z16, KHD, Xq6, simprocAttr, CO.tmps, Opd.tmps, optT, Nat.reducePow, Nat.reduceDiv, Nat.reduceMod, XjM, g', decide_true, decide_false, false_implies, forall_const, and_true, true_and, not_true_eq_false, not_false_eq_true, if_true]
    exact Bt.drop _ hh rfl rfl
   ·have g' := eq_false g
    have hp : ∀ H : List AB, zJd [.ag [.i .i64 7]] H = some (.p H.length 0, H ++ [stR ⟨7, .w⟩]) := fun H => rfl
    have hq : ∀ B C : AB, qAt (h ++ [B, C, stR ⟨7, .w⟩]) (h.length + 2) = some ⟨7, .w⟩ := fun B C => Q1H rfl
    have hs' := eq_true hs
    have h7 : (7 ≤ 1000) = True := eq_true (by decide)
    obtain ⟨a, b, hab⟩ := KUw 7 (runB KGW zcI s 0 ⟨7, .w⟩)
    rw [if_neg g]
    simp only [QhU, YqB, z16, KHD, Xq6, simprocAttr, CO.tmps, Opd.tmps, optT, Nat.reducePow, Nat.reduceDiv, Nat.reduceMod, XjM, g', hp, J2R, hq, h7, hs', hab, decide_true, decide_false, false_implies, forall_const, and_true, true_and, not_true_eq_false, not_false_eq_true, if_false]
    exact Bt.drop _ hh rfl rfl
  ·cases e
 ·cases e
end Go.Proofs.YtebcngelgdpbjaaGreat
end
section
namespace Go.Proofs.YtebcngelgdpbjaaGreat
set_option maxRecDepth 100000
set_option maxHeartbeats 4000000
def SameRd (H H' : List AB) : Prop := ∀ i cs, ZMh H i = some cs → ZMh H' i = some cs
theorem SameRd.app (H L : List AB) : SameRd H (H ++ L) := fun i cs e => by
 unfold ZMh at e ⊢
 by_cases hi : i < H.length
 ·rw [List.getElem?_append_left hi]; exact e
 ·rw [List.getElem?_eq_none (by omega)] at e; cases e
theorem SameRd.it (h M : List AB) (A : AB) (s : List UInt8) (p p' : Nat) : SameRd (h ++ A :: itr s p :: M) (h ++ A :: itr s p' :: M) := fun i cs e => by
 unfold ZMh at e ⊢
 by_cases hi : i < h.length
 ·rw [List.getElem?_append_left hi] at e ⊢; exact e
 ·rw [List.getElem?_append_right (by omega)] at e ⊢
  generalize i - h.length = k at e ⊢
  match k with
  | 0 => exact e
  | 1 => cases e
  | k + 2 => exact e
structure Aut (Tb : Tab) (Q : Type) where
 step : Q → Int → Option Q
 ends : Q → Bool
 Rep : List AB → Nat → Q → Prop
 big : ∀ q c, 128 ≤ c → step q c = none
 mono : ∀ {H H' j q}, SameRd H H' → Rep H j q → Rep H' j q
 cel : ∀ {H j q}, Rep H j q → ∃ g fst cap, ZMh H j = some [.f (.func g) fst cap, .b (ends q)] ∧ ∀ c : Int,
  (step q c = none → Tb.at g (fst ++ [.i .i32 c] ++ cap) H = some (.np, H)) ∧
  ∀ q', step q c = some q' → ∃ j' L, Tb.at g (fst ++ [.i .i32 c] ++ cap) H = some (.p j' 0, H ++ L) ∧ Rep (H ++ L) j' q'
theorem runA {Tb : Tab} (hTb : Yla (Spec Tryz.prog) Tb) {Q : Type} (A : Aut Tb Q) {h : List AB} {s : List UInt8} {j0 : Nat} {e : Int} {q0 : Q} (hj : A.Rep h j0 q0) (hs : s.length ≤ 1000000) :
  FnAt Tryz.prog 184 [.s s, .p j0 0, .i .i64 e] h (fltA e (runB A.step A.ends s 0 q0)) h := by
 refine FnAt.run (by kernel_rfl) (T := ⟨Tb, []⟩) ⟨hTb, trivial⟩ Tryz.func184 zjP fun ho hh => ?_
 unfold w184
 have en0 : q70 .np .np = some true := rfl
 have en1 : ∀ a b, q70 (.p a b) .np = some false := fun _ _ => rfl
 simp only [QhU, YqB, z16, KHD, Xq6, simprocAttr, CO.tmps, Opd.tmps, optT, Nat.reducePow, Nat.reduceDiv, Nat.reduceMod, z79]
 refine q2X (S := Nat × Q × Nat × List AB) (fun σ => s.length - σ.1) (fun σ => [.s s, .p σ.2.2.1 0, .i .i64 e] ++ tp 3 ++ [.p (h.length + 0) 0] ++ tp 3 ++ [.p (h.length + 1) 0] ++ tp 25) (fun σ => h ++ .blk true true [.i .i64 0, .i .i64 0] :: itr s σ.1 :: σ.2.2.2)
  (fun σ => σ.1 ≤ s.length ∧ A.Rep (h ++ .blk true true [.i .i64 0, .i .i64 0] :: itr s σ.1 :: σ.2.2.2) σ.2.2.1 σ.2.1 ∧ runB A.step A.ends (s.drop σ.1) σ.1 σ.2.1 = runB A.step A.ends s 0 q0) (0, q0, j0, []) ⟨Nat.zero_le _, A.mono (SameRd.app _ _) hj, rfl⟩ ?_ fun σ hσ => ?_
 ·refine Bt.wk ?_
  simp only [z16, Xq6, simprocAttr]
 obtain ⟨pos, q, j, M⟩ := σ
 obtain ⟨h1, h2, h4⟩ := hσ
 dsimp only at h1 h2 h4 ⊢
 have hn : nxV (h ++ .blk true true [.i .i64 0, .i .i64 0] :: itr s pos :: M) (.p (h.length + 1) 0) = if pos < s.length then some (.tu [.b true, .i .i64 (pos : Int), .i .i32 ((Utf8.decode ⟨s.toArray⟩ pos).1 : Int)], h ++ .blk true true [.i .i64 0, .i .i64 0] :: itr s (pos + (Utf8.decode ⟨s.toArray⟩ pos).2) :: M) else some (.tu [.b false], h ++ .blk true true [.i .i64 0, .i .i64 0] :: itr s pos :: M) := J23 _ 1 s pos rfl
 by_cases g : pos < s.length
 ·have hd := ZPy (step := A.step) (ends := A.ends) (q := q) g
  rw [h4] at hd
  obtain ⟨e1, e2⟩ := Ze8 (step := A.step) A.big g q
  rw [e1] at hd
  have h2' := A.mono (SameRd.it h M (.blk true true [.i .i64 0, .i .i64 0]) s pos (pos + (Utf8.decode ⟨s.toArray⟩ pos).2)) h2
  obtain ⟨gf, fst, cap, r1, r2⟩ := A.cel h2'
  obtain ⟨r3, r4⟩ := r2 ((Utf8.decode ⟨s.toArray⟩ pos).1 : Int)
  have lj0 : ldV (h ++ .blk true true [.i .i64 0, .i .i64 0] :: itr s (pos + (Utf8.decode ⟨s.toArray⟩ pos).2) :: M) none (.p j 0) = some (.f (.func gf) fst cap) := by
   simp only [ldV, r1, Option.bind_some]
   rfl
  cases hst : A.step q ((Utf8.decode ⟨s.toArray⟩ pos).1 : Int) with
  | none =>
   rw [hst] at hd
   dsimp only at hd
   have r5 := r3 hst
   simp only [QhU, YqB, z16, KHD, Xq6, simprocAttr, CO.tmps, Opd.tmps, optT, Nat.reducePow, Nat.reduceDiv, Nat.reduceMod, X6H, hn, g, lj0, r5, en0, en1, decide_true, decide_false, ne_eq, not_false_eq_true, not_true_eq_false, false_implies, forall_const, and_true, true_and]
   rw [hd]
   exact Bt.drop _ hh rfl rfl
  | some q' =>
   have e3 := e2 q' hst
   rw [hst] at hd
   dsimp only at hd
   obtain ⟨j', L, r5, r6⟩ := r4 q' hst
   rw [e3] at hn lj0 r5 r6
   simp only [QhU, YqB, z16, KHD, Xq6, simprocAttr, CO.tmps, Opd.tmps, optT, Nat.reducePow, Nat.reduceDiv, Nat.reduceMod, X6H, hn, g, lj0, r5, en0, en1, decide_true, decide_false, ne_eq, not_false_eq_true, not_true_eq_false, false_implies, forall_const, and_true, true_and]
   refine ⟨(pos + 1, q', j', M ++ L), ⟨g, ?_, hd.symm⟩, by dsimp only; omega, ?_⟩
   ·dsimp only
    rw [List.append_assoc, List.cons_append, List.cons_append] at r6
    exact r6
   ·dsimp only
    refine Bt.wk ?_
    simp only [z16, Xq6, simprocAttr]
 ·have hpos : pos = s.length := by omega
  have hd : runB A.step A.ends s 0 q0 = if A.ends q then none else some s.length := by
   rw [← h4, hpos, List.drop_length]
   rfl
  obtain ⟨gf, fst, cap, r1, _⟩ := A.cel h2
  have lj1 : ldV (h ++ .blk true true [.i .i64 0, .i .i64 0] :: itr s pos :: M) none (.p j 1) = some (.b (A.ends q)) := by
   simp only [ldV, r1, Option.bind_some]
   rfl
  cases he : A.ends q with
  | true =>
   rw [he] at hd lj1
   simp only [QhU, YqB, z16, KHD, Xq6, simprocAttr, CO.tmps, Opd.tmps, optT, Nat.reducePow, Nat.reduceDiv, Nat.reduceMod, X6H, hn, g, lj1, XJx, Bool.not_true, Bool.not_false, JaZ, XPB, decide_true, decide_false, ne_eq, not_false_eq_true, not_true_eq_false, false_implies, forall_const, and_true, true_and]
   rw [hd]
   exact Bt.drop _ hh rfl rfl
  | false =>
   rw [he] at hd lj1
   simp only [QhU, YqB, z16, KHD, Xq6, simprocAttr, CO.tmps, Opd.tmps, optT, Nat.reducePow, Nat.reduceDiv, Nat.reduceMod, X6H, hn, g, lj1, XJx, Bool.not_true, Bool.not_false, JaZ, XPB, decide_true, decide_false, ne_eq, not_false_eq_true, not_true_eq_false, false_implies, forall_const, and_true, true_and]
   rw [hd]
   exact Bt.drop _ hh rfl rfl
end Go.Proofs.YtebcngelgdpbjaaGreat
end
