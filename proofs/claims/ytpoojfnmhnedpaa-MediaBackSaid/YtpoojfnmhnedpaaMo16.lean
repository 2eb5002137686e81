/- Part 16 of what the laws' proofs rest on. No condition. -/
import Derived.Test.YtpoojfnmhnedpaaMo15
set_option linter.all false
section
namespace Go.Proofs.Ytpoojfnmhnedpaa
set_option maxRecDepth 100000
set_option maxHeartbeats 4000000
theorem Ysp {T : Env} {fr : List AV} {h : List AB} (x : Opd) (t : TypeId) (ok : Bool) (z : AV) : opR T (.tas x t ok z) fr h = (match x.ev fr with
  | .ifc t' v => if t' = t then some (if ok = true then .tu [v, .b true] else v, h) else if ok = true then some (.tu [z, .b false], h) else none
  | .ni => if ok = true then some (.tu [z, .b false], h) else none
  | _ => none) := by
 simp only [opR, CO.isCall, CO.run]
 cases x.ev fr <;> rfl
theorem z5S {T : Env} {fr : List AV} {h : List AB} (t : TypeId) (x : Opd) : opR T (.ifc t x) fr h = some (.ifc t (x.ev fr), h) := _root_.id rfl
theorem Xmm (x : Int) : IntKind.u8.wrap x = ((UInt8.ofInt x).toNat : Int) := by
 rw [IntKind.wrap_u8, XaE]
theorem KqR (x : Int) : AV.i .u8 (IntKind.u8.wrap x) = u8A (UInt8.ofInt x) := by rw [Xmm]; rfl
theorem qAI (b : UInt8) : (u8A b).one = true := _root_.id rfl
theorem X40 (b : UInt8) : (u8A b).known = true := _root_.id rfl
theorem ztu (b : UInt8) : (u8A b).cells = [u8A b] := _root_.id rfl
theorem q8C (b : UInt8) : (u8A b).flat = true := _root_.id rfl
theorem X3k (b : UInt8) : wrOk true (u8A b) = true := _root_.id rfl
def Q2q (n : Int) (k : Nat) : List UInt8 := UInt8.ofInt (191 + Xwi n) :: (List.range k).map (qh8 n (Xwi n))
theorem JP5 (n : Int) (k : Nat) : Q2q n (k + 1) = Q2q n k ++ [qh8 n (Xwi n) k] := by
 unfold Q2q
 rw [List.range_succ, List.map_append]
 rfl
theorem qxd (n : Int) (k : Nat) : (Q2q n k).length = k + 1 := by simp [Q2q]
instance (n : Int) : Decidable (In64 n) := by unfold In64; infer_instance
noncomputable def JQW : List AV → List AB → Option (AV × List AB)
 | [.ns, .ifc ty (.i .i64 n)], h => if ty = 3 ∧ In64 n then some (.tu [apS Xdk h.length (JDk n), .b (decide (0 ≤ n))], h ++ [resB Xdk true (JDk n)]) else none
 | _, _ => none
theorem z4m : Spec Try.prog 75 JQW := by
 intro args h v h' e
 unfold JQW at e
 split at e
 ·rename_i ty n
  split at e
  ·rename_i hty
   obtain ⟨rfl, hn⟩ := hty
   cases e
   refine FnAt.c (FnAt.run (by kernel_rfl) (T := ⟨[⟨78, KaL, fun _ => []⟩], []⟩) ⟨⟨ZYj, trivial⟩, trivial⟩ Try.func75 sw75 fun ho hh => ?_)
   unfold w75
   have z3 : (1 * 1 ≤ 140737488355328 ∧ 1 ≤ maxLen) = True := eq_true ⟨by decide, by unfold maxLen; omega⟩
   have sb := KhU n
   by_cases g1 : Xwi n = 0
   ·have g1' : ((Xwi n : Int) = 0) = True := eq_true (by omega)
    have he : JDk n = [UInt8.ofInt n] := by unfold JDk; rw [if_pos g1]
    rw [he]
    simp only [JaF, Qv5, Zsz, qtN, qup, simprocAttr, CO.tmps, Opd.tmps, optT, Nat.reducePow, Nat.reduceDiv, Nat.reduceMod, Ysp, z5S, KaL, g1', KqR, qAI, X40, ztu, X3k, q8C, QVI, X8i, z3]
    exact Bt.sel [1] hh (by decide) (by simp only [YmD, FrSel, BlkSel, AV.ren, renL, AV.ok, okL, Option.some.injEq, exists_eq_left', List.length_cons, List.length_nil, Nat.reduceAdd, Nat.reduceLT, reduceCtorEq, implies_true, exists_eq', qce, XA6]) (by simp only [YmD, FrSel, BlkSel, AV.ren, renL, AV.ok, okL, Option.some.injEq, exists_eq_left', List.length_cons, List.length_nil, Nat.reduceAdd, Nat.reduceLT, reduceCtorEq, implies_true, exists_eq', zWs, Xcw])
   ·have g1' : ((Xwi n : Int) = 0) = False := eq_false (by omega)
    have he : JDk n = Q2q n (Xwi n) := by unfold JDk; rw [if_neg g1]; rfl
    have hp : 0 ≤ n := by
     have : ¬ n < 192 := fun q => g1 (by unfold Xwi; rw [if_pos q])
     omega
    have e1 : IntKind.i64.wrap (191 + (Xwi n : Int)) = 191 + (Xwi n : Int) := KqL (by unfold In64; omega)
    have e2 : IntKind.i64.wrap ((Xwi n : Int) - 1) = (Xwi n : Int) - 1 := KqL (by unfold In64; omega)
    rw [he]
    simp only [JaF, Qv5, Zsz, qtN, qup, simprocAttr, CO.tmps, Opd.tmps, optT, Nat.reducePow, Nat.reduceDiv, Nat.reduceMod, Ysp, z5S, KaL, g1', e1, KqR, qAI, X40, ztu, X3k, q8C, QVI, X8i, z3]
    refine JRp (S := Nat) (fun k => Xwi n - k) (fun k => [apS Xdk (h.length + 0) (Q2q n k)] ++ tp 5 ++ [.i .i64 n, .i .i64 (Xwi n)] ++ tp 30 ++ [.i .i64 (Xwi n), .i .i64 k] ++ tp 117) (fun k => h ++ [resB Xdk true (Q2q n k)]) (fun k => k ≤ Xwi n) 0 (Nat.zero_le _) ?_ fun k hk => ?_
    ·simp only [show Q2q n 0 = [UInt8.ofInt (191 + Xwi n)] from rfl, zWs, qce, XA6]
     exact Bt.sel [1] hh (by decide) (by simp only [YmD, FrSel, BlkSel, AV.ren, renL, AV.ok, okL, Option.some.injEq, exists_eq_left', List.length_cons, List.length_nil, Nat.reduceAdd, Nat.reduceLT, reduceCtorEq, implies_true, exists_eq']) (by simp only [tp_0, tp_s, ZsF, YR9, Int.natCast_zero, YmD, FrSel, BlkSel, AV.ren, renL, AV.ok, okL, Option.some.injEq, exists_eq_left', List.length_cons, List.length_nil, Nat.reduceAdd, Nat.reduceLT, reduceCtorEq, implies_true, exists_eq', Xcw])
    ·by_cases gi : k < Xwi n
     ·have gi' : ((k : Int) < (Xwi n : Int)) = True := eq_true (by omega)
      have q1 : IntKind.i64.wrap ((k : Int) + 1) = ((k + 1 : Nat) : Int) := KqL (by unfold In64; omega)
      have q2 : IntKind.i64.wrap ((Xwi n : Int) - 1 - (k : Int)) = ((Xwi n - 1 - k : Nat) : Int) := by
       rw [show (Xwi n : Int) - 1 - (k : Int) = ((Xwi n - 1 - k : Nat) : Int) by omega]
       exact KqL (by unfold In64; omega)
      have q3 : IntKind.i64.wrap (8 * ((Xwi n - 1 - k : Nat) : Int)) = ((8 * (Xwi n - 1 - k) : Nat) : Int) := by
       rw [Int.natCast_mul]
       exact KqL (by unfold In64; omega)
      have q4 : min (8 * (Xwi n - 1 - k)) 64 = 8 * (Xwi n - 1 - k) := by omega
      have q5 : Int.fdiv n (2 ^ (8 * (Xwi n - 1 - k))) = n / 2 ^ (8 * (Xwi n - 1 - k)) := Int.fdiv_eq_ediv_of_nonneg _ (Int.le_of_lt (Int.pow_pos (by decide)))
      have hB : (Q2q n k).length ≠ 0 := by rw [qxd]; omega
      have gr : ∀ id, apS Xdk id (Q2q n k) = rsl Xdk id (Q2q n k) := fun id => ZLk _ hB
      have lo := qxd n k
      have fa := fun L j ys hb => qKZ (h := h) (p := h.length) rfl (r := Xdk) (sz := 1) rfl L j (Q2q n k) 1 1 ys hB hb (by decide) (by omega) (by unfold maxLen; omega)
      simp only [gr, Zsz, qtN, qup, simprocAttr, CO.tmps, Opd.tmps, optT, Nat.reducePow, Nat.reduceDiv, Nat.reduceMod, gi', q1, e2, q2, q3, q4, q5, zCe, KOU, ZIZ, KqR, qAI, X40, ztu, X3k, q8C, QVI, fa]
      refine ⟨k + 1, gi, by dsimp only; omega, ?_⟩
      have hst : apS Xdk (h.length + 0) (Q2q n (k + 1)) = .sl (h.length + 0) 0 ((Q2q n k).length + 1) ((Q2q n k).length + 1) (some 1) := by rw [JP5, qFs, Xcw]
      have hst2 : resB Xdk true (Q2q n (k + 1)) = .blk true true (Xdk.cells (Q2q n k) ++ [u8A (qh8 n (Xwi n) k)]) := by rw [JP5, XtS, XA6]
      simp only [hst, hst2]
      exact Bt.sel [2] hh (by decide) (by simp only [YmD, FrSel, BlkSel, AV.ren, renL, AV.ok, okL, Option.some.injEq, exists_eq_left', List.length_cons, List.length_nil, Nat.reduceAdd, Nat.reduceLT, reduceCtorEq, implies_true, exists_eq', qh8]) (by simp only [YmD, FrSel, BlkSel, AV.ren, renL, AV.ok, okL, Option.some.injEq, exists_eq_left', List.length_cons, List.length_nil, Nat.reduceAdd, Nat.reduceLT, reduceCtorEq, implies_true, exists_eq'])
     ·obtain rfl : k = Xwi n := by omega
      have gi' : ((Xwi n : Int) < (Xwi n : Int)) = False := eq_false (by omega)
      have gp := eq_true hp
      simp only [Zsz, qtN, qup, simprocAttr, CO.tmps, Opd.tmps, optT, Nat.reducePow, Nat.reduceDiv, Nat.reduceMod, gi']
      exact Bt.eq (by rw [decide_eq_true hp]; rfl) rfl
  ·cases e
 ·cases e
end Go.Proofs.Ytpoojfnmhnedpaa
end
section
namespace Go.Proofs.Ytpoojfnmhnedpaa
set_option maxRecDepth 100000
set_option maxHeartbeats 4000000
theorem Bt.selO {P : Program} {h g l l' : List AB} {fr fr' : List AV} (sel : List Nat) (hlen : g.length = h.length) (hold : ∀ (i : Nat) B', g[i]? = some B' → (h[i]? = some B' ∧ B'.ok (fun i => decide (i < h.length)) = true) ∨ (∃ B, h[i]? = some B ∧ BWk (fun i => decide (i < h.length + sel.length)) (selN h.length sel) B' B)) (hnd : sel.Nodup) (hb : BlkSel h.length sel sel.length l sel l') (hfr : FrSel h.length sel sel.length fr fr') : Bt P h.length fr (h ++ l) fr' (g ++ l') := by
 intro ρ w cs hp r v
 obtain ⟨b1, b2⟩ := hb.get
 obtain ⟨f1, f2⟩ := hfr.get
 have hlt : ∀ (i k : Nat), sel[i]? = some k → k < l.length := fun i k hk => by
  have hi : i < l'.length := by rw [b1]; exact (List.getElem?_eq_some_iff.1 hk).1
  obtain ⟨k', B, q1, q2, _⟩ := b2 i l'[i] (List.getElem?_eq_getElem hi)
  rw [hk] at q1
  cases q1
  exact (List.getElem?_eq_some_iff.1 q2).1
 have hρ := r.len
 rw [List.length_append] at hρ
 let ρ' : Mp := ρ.take h.length ++ sel.map fun k => ρ.getD (h.length + k) (0, 0, 0)
 have old : ∀ i, i < h.length → ρ'[i]? = ρ[i]? := fun i hi => by
  simp only [ρ']
  rw [List.getElem?_append_left (by rw [List.length_take]; omega), List.getElem?_take, if_pos hi]
 have new : ∀ i k, sel[i]? = some k → ρ'[h.length + i]? = ρ[h.length + k]? := fun i k hk => by
  have := hlt i k hk
  simp only [ρ']
  rw [List.getElem?_append_right (by rw [List.length_take]; omega), List.length_take, show h.length + i - min h.length ρ.length = i by omega, List.getElem?_map, hk, Option.map_some, List.getD_eq_getElem?_getD, List.getElem?_eq_getElem (by omega : h.length + k < ρ.length)]
  rfl
 have hq : ∀ i, (fun i => decide (i < h.length + sel.length)) i = true → ρ'[i]? = ρ[selN h.length sel i]? := fun i hi => by
  by_cases h1 : i < h.length
  ·rw [Zat h1, old i h1]
  ·obtain ⟨k, rfl⟩ : ∃ k, i = h.length + k := ⟨i - h.length, by omega⟩
   have hk : k < sel.length := by simp only [decide_eq_true_eq] at hi; omega
   rw [YiE, List.getD_eq_getElem?_getD, List.getElem?_eq_getElem hk]
   exact new k _ (List.getElem?_eq_getElem hk)
 have cls : ∀ i B', (g ++ l')[i]? = some B' → (i < h.length ∧ h[i]? = some B' ∧ B'.ok (fun i => decide (i < h.length)) = true) ∨ (∃ j B, (h ++ l)[j]? = some B ∧ ρ'[i]? = ρ[j]? ∧ ((i < h.length ∧ j = i) ∨ (∃ i' k, i = h.length + i' ∧ sel[i']? = some k ∧ j = h.length + k)) ∧ BWk (fun i => decide (i < h.length + sel.length)) (selN h.length sel) B' B) := fun i B' hB => by
  rw [List.getElem?_append] at hB
  split at hB
  ·rename_i hlt'
   rw [hlen] at hlt'
   rcases hold i B' hB with ⟨q, qo⟩ | ⟨B, q, qb⟩
   ·exact .inl ⟨hlt', q, qo⟩
   ·exact .inr ⟨i, B, by rw [List.getElem?_append_left hlt']; exact q, old i hlt', .inl ⟨hlt', rfl⟩, qb⟩
  ·rename_i hge
   rw [hlen] at hge hB
   obtain ⟨k, B, q1, q2, q3⟩ := b2 _ B' hB
   refine .inr ⟨h.length + k, B, ?_, ?_, .inr ⟨i - h.length, k, by omega, q1, rfl⟩, q3⟩
   ·rw [List.getElem?_append_right (by omega), Nat.add_sub_cancel_left]
    exact q2
   ·have := new _ k q1
    rw [show h.length + (i - h.length) = i by omega] at this
    exact this
 have up : ∀ i B' x, (g ++ l')[i]? = some B' → ρ'[i]? = some x → ∃ j B, (h ++ l)[j]? = some B ∧ ρ[j]? = some x ∧ (B'.mut = true → B.mut = true) ∧ (B'.live = true → B.live = true) ∧ ((i < h.length ∧ j = i) ∨ (∃ i' k, i = h.length + i' ∧ sel[i']? = some k ∧ j = h.length + k)) := fun i B' x hB hx => by
  rcases cls i B' hB with ⟨hi, q, _⟩ | ⟨j, B, q1, q2, q3, q4⟩
  ·exact ⟨i, B', by rw [List.getElem?_append_left hi]; exact q, by rw [← old i hi]; exact hx, id, id, .inl ⟨hi, rfl⟩⟩
  ·exact ⟨j, B, q1, by rw [← q2]; exact hx, q4.mut, q4.live, q3⟩
 refine ⟨by rw [List.length_append, b1, hlen]; omega, ρ', ⟨f1.trans v.1, fun j a' c ha hc => ?_⟩, ⟨?_, fun i B' b o n hB hx => ?_, fun i j bi oi bj oj Bi Bj hne h1 h2 h3 h4 hm hl => ?_⟩, fun b ⟨i, B', o, h1, h2, h3⟩ => ?_, fun i b ⟨B', o, h1, h2, h3⟩ => ?_, fun i hi => ?_⟩
 ·rcases f2 j a' ha with rfl | ⟨q1, a, q2, q3⟩
  ·exact .top c
  ·exact VR.ren_down hq a' q1 c (q3 ρ c (v.2 j a c q2 hc))
 ·simp only [ρ', List.length_append, List.length_take, List.length_map, b1, hlen]
  omega
 ·rcases cls i B' hB with ⟨hi, q, qo⟩ | ⟨j, B, q1, q2, q3, q4⟩
  ·have := r.blk i B' b o n (by rw [List.getElem?_append_left hi]; exact q) (by rw [← old i hi]; exact hx)
   exact this.agree (q := fun i => decide (i < h.length)) (fun i hi => old i (by simpa using hi)) qo (fun _ => rfl)
  ·exact q4.br hq (r.blk _ B b o n q1 (by rw [← q2]; exact hx))
 ·obtain ⟨i', Ci, u1, u2, u3, _, u5⟩ := up i Bi _ h1 h3
  obtain ⟨j', Cj, z1, z2, _, z4, z5⟩ := up j Bj _ h2 h4
  refine r.sep i' j' bi oi bj oj Ci Cj (fun e => hne ?_) u1 z1 u2 z2 (u3 hm) (z4 hl)
  subst e
  rcases u5 with ⟨x1, x2⟩ | ⟨s, k, x1, x2, x3⟩ <;> rcases z5 with ⟨y1, y2⟩ | ⟨t, m, y1, y2, y3⟩
  ·omega
  ·omega
  ·omega
  ·have : k = m := by omega
   subst this
   have := (List.getElem?_inj (List.getElem?_eq_some_iff.1 x2).1 hnd).1 (x2.trans y2.symm)
   omega
 ·obtain ⟨j, B, q1, q2, q3, _, _⟩ := up i B' _ h1 h3
  exact ⟨j, B, o, q1, q3 h2, q2⟩
 ·obtain ⟨j, B, q1, q2, _, q4, q5⟩ := up i B' _ h1 h3
  refine ⟨j, ⟨B, o, q1, q4 h2, q2⟩, fun hi => ?_, fun hi => ?_⟩
  ·rcases q5 with ⟨_, x⟩ | ⟨s, k, x, y, z⟩
   ·exact x
   ·omega
  ·rcases q5 with ⟨x, _⟩ | ⟨s, k, z, y, x⟩
   ·omega
   ·omega
 ·exact old i hi
end Go.Proofs.Ytpoojfnmhnedpaa
end
section
namespace Go.Proofs.Ytpoojfnmhnedpaa
set_option maxRecDepth 100000
set_option maxHeartbeats 4000000
open Classical in
noncomputable def Zwn (a : AV) : Option Dg := if e : ∃ y, a = .ag (idR.f y) then some e.choose else none
theorem XiN (y : Dg) : Zwn (.ag (idR.f y)) = some y := by
 unfold Zwn
 have hx : ∃ z, AV.ag (idR.f y) = .ag (idR.f z) := ⟨y, rfl⟩
 rw [dif_pos hx]
 have := hx.choose_spec
 injection this with h
 rw [idR.inj _ _ h.symm]
theorem zTt {a : AV} {y : Dg} (e : Zwn a = some y) : a = .ag (idR.f y) := by
 unfold Zwn at e
 split at e
 ·rename_i h
  cases e
  exact h.choose_spec
 ·cases e
noncomputable def encV (ty : TypeId) (v : AV) : Option (List UInt8 × Bool) :=
 if ty = 3 then (match v with
  | .i .i64 n => if In64 n then some (JDk n, decide (0 ≤ n)) else none
  | _ => none)
 else if ty = 9 then (match v with
  | .s l => if l.length ≤ 1000000 then some (JDk l.length ++ l, true) else none
  | _ => none)
 else if ty = 23 then (Zwn v).map fun d => (d.l, true)
 else none
noncomputable def Jdx : List AV → List AB → Option (AV × List AB)
 | [.ns, .ifc ty v], h => (encV ty v).map fun p => (.tu [apS Xdk h.length p.1, .b p.2], h ++ [resB Xdk true p.1])
 | _, _ => none
theorem YEA (l : List UInt8) : (AV.s l).isStr = true := _root_.id rfl
theorem Qup (l : List UInt8) : lenV (.s l) = some (l.length : Int) := _root_.id rfl
theorem Qcl (h : List AB) (l : List UInt8) : srcV h 1 (.s l) = some (l.length, Xdk.cells l) := by
 rw [Yq3]
 rfl
theorem q9B {r : Row UInt8} (id : Nat) {l m : List UInt8} (h0 : l.length ≠ 0) : apS r id (l ++ m) = .sl id 0 (l.length + m.length) (l.length + m.length) (some r.sz) := by
 unfold apS
 rw [if_neg (by rw [List.length_append]; omega), List.length_append]
theorem ZzH {l m : List UInt8} (h0 : l.length ≠ 0) : resB Xdk true (l ++ m) = .blk true true (Xdk.cells l ++ Xdk.cells m) := by
 unfold resB
 rw [if_neg (by rw [List.length_append]; omega)]
 simp only [Row.cells, List.flatMap_append]
theorem XtR (n : Int) : (JDk n).length ≠ 0 := by
 unfold JDk
 split <;> simp
theorem XXJ : Spec Try.prog 75 Jdx := by
 intro args h v h' e
 unfold Jdx at e
 split at e
 ·rename_i ty x
  obtain ⟨p, hp, e⟩ := Option.map_eq_some_iff.1 e
  cases e
  unfold encV at hp
  split at hp
  ·rename_i ht
   split at hp
   ·rename_i n
    split at hp
    ·rename_i hn
     cases hp
     exact z4m _ _ _ _ (if_pos ⟨ht, hn⟩)
    ·cases hp
   ·cases hp
  split at hp
  ·rename_i ht
   subst ht
   split at hp
   ·rename_i l
    split at hp
    ·rename_i hl
     cases hp
     refine FnAt.c (FnAt.run (by kernel_rfl) (T := ⟨[⟨75, JQW, fun _ => []⟩], []⟩) ⟨⟨z4m, trivial⟩, trivial⟩ Try.func75 sw75 fun ho hh => ?_)
     have w1 : (In64 (l.length : Int)) = True := eq_true (by unfold In64; omega)
     have fs := fun (L : List AB) => Qcl (h ++ L) l
     have gr : ∀ id, apS Xdk id (JDk l.length) = rsl Xdk id (JDk l.length) := fun id => ZLk _ (XtR _)
     unfold w75
     by_cases h0 : l = []
     ·have fz : ∀ H id ys, appW H true 1 1 (apS Xdk id (JDk l.length)) l.length ys = some (apS Xdk id (JDk l.length), H) := fun H id ys => by
       rw [h0]
       rfl
      simp only [JaF, Qv5, Zsz, qtN, qup, simprocAttr, CO.tmps, Opd.tmps, optT, Nat.reducePow, Nat.reduceDiv, Nat.reduceMod, Ysp, z5S, JQW, w1, fs, YEA, Qup, Zs6, fz]
      exact Bt.eq (by rw [h0, List.append_nil]; rfl) (by rw [h0, List.append_nil])
     ·have hl0 : l.length ≠ 0 := fun q => h0 (List.eq_nil_of_length_eq_zero q)
      have el := ZEm l.length
      have fa := fun L k ys hb => qKZ (h := h) (p := h.length) rfl (r := Xdk) (sz := 1) rfl L k (JDk l.length) 1 l.length ys (XtR _) hb hl0 (by omega) (by unfold maxLen; omega)
      simp only [JaF, Qv5, Zsz, qtN, qup, simprocAttr, CO.tmps, Opd.tmps, optT, Nat.reducePow, Nat.reduceDiv, Nat.reduceMod, Ysp, z5S, JQW, w1, fs, YEA, Qup, gr, fa, Zs6]
      have hst := fun id => q9B (r := Xdk) id (l := JDk l.length) (m := l) (XtR _)
      have hst2 := ZzH (l := JDk l.length) (m := l) (XtR _)
      simp only [hst, hst2]
      exact Bt.sel [1] hh (by decide) (by simp only [YmD, FrSel, BlkSel, AV.ren, renL, AV.ok, okL, Option.some.injEq, exists_eq_left', List.length_cons, List.length_nil, Nat.reduceAdd, Nat.reduceLT, reduceCtorEq, implies_true, exists_eq']) ⟨.inr ⟨by simp only [YmD, FrSel, BlkSel, AV.ren, renL, AV.ok, okL, Option.some.injEq, exists_eq_left', List.length_cons, List.length_nil, Nat.reduceAdd, Nat.reduceLT, reduceCtorEq, implies_true, exists_eq'], by simp only [YmD, FrSel, BlkSel, AV.ren, renL, AV.ok, okL, Option.some.injEq, exists_eq_left', List.length_cons, List.length_nil, Nat.reduceAdd, Nat.reduceLT, reduceCtorEq, implies_true, exists_eq', Xcw]⟩, trivial⟩
    ·cases hp
   ·cases hp
  split at hp
  ·rename_i ht
   subst ht
   obtain ⟨d, hd, hp⟩ := Option.map_eq_some_iff.1 hp
   cases hp
   rw [zTt hd]
   refine FnAt.c (FnAt.run (by kernel_rfl) (T := ⟨[], []⟩) ⟨trivial, trivial⟩ Try.func75 sw75 fun ho hh => ?_)
   obtain ⟨b1, b2, b3, b4, b5⟩ := qUB d.h
   rw [show d.l.map u8A = idR.f d from rfl] at *
   have o1 : ∀ zs : List AV, zs.length = 32 → over zs 0 (idR.f d) = idR.f d := fun zs hz => ZjI zs _ (b1.trans hz.symm)
   have z3 : (32 * 1 ≤ 140737488355328 ∧ 32 ≤ maxLen) = True := eq_true ⟨by decide, by unfold maxLen; omega⟩
   have hl0 : d.l.length ≠ 0 := by rw [d.h]; decide
   have hst : ∀ id, apS Xdk id d.l = .sl id 0 32 32 (some 1) := fun id => by unfold apS; rw [if_neg hl0, d.h]; rfl
   have hst2 : resB Xdk true d.l = .blk true true (idR.f d) := by unfold resB; rw [if_neg hl0, Yq3]; rfl
   unfold w75
   simp only [JaF, Qv5, Zsz, qtN, qup, simprocAttr, CO.tmps, Opd.tmps, optT, Nat.reducePow, Nat.reduceDiv, Nat.reduceMod, Ysp, z5S, J7D, zti, Option.map_none, b1, b2, b3, b4, b5, o1, z3]
   simp only [hst, hst2]
   exact Bt.sel [1] hh (by decide) (by simp only [YmD, FrSel, BlkSel, AV.ren, renL, AV.ok, okL, Option.some.injEq, exists_eq_left', List.length_cons, List.length_nil, Nat.reduceAdd, Nat.reduceLT, reduceCtorEq, implies_true, exists_eq']) ⟨.inr ⟨by simp only [YmD, FrSel, BlkSel, AV.ren, renL, AV.ok, okL, Option.some.injEq, exists_eq_left', List.length_cons, List.length_nil, Nat.reduceAdd, Nat.reduceLT, reduceCtorEq, implies_true, exists_eq'], by simp only [YmD, FrSel, BlkSel, AV.ren, renL, AV.ok, okL, Option.some.injEq, exists_eq_left', List.length_cons, List.length_nil, Nat.reduceAdd, Nat.reduceLT, reduceCtorEq, implies_true, exists_eq', Xcw]⟩, trivial⟩
  ·cases hp
 ·cases e
end Go.Proofs.Ytpoojfnmhnedpaa
end
section
namespace Go.Proofs.Ytpoojfnmhnedpaa
set_option maxRecDepth 100000
set_option maxHeartbeats 4000000
def blkW (j : Nat) (lim : Int) (s : AV) : AB := .blk false true [.p j 0, .i .i64 lim, s]
def blkF (e : Int) : AB := .blk true true [.i .i64 e, .i .i64 0]
def XHw (s : AV) (h : List AB) : List AB := match s with
 | .sl q _ _ _ _ => h.set q .dead
 | _ => h
theorem JjV (s : AV) (h : List AB) : (XHw s h).length = h.length := by unfold XHw; split <;> simp
structure WrH (h : List AB) (i j : Nat) (lim : Int) (s : AV) (bs : List UInt8) (e : Int) : Prop where
 hi : h[i]? = some (blkW j lim s)
 hj : h[j]? = some (blkF e)
 hlim : lim ≤ 67108864
 hlen : (bs.length : Int) ≤ lim
 hs : (s = .ns ∧ bs = []) ∨ ∃ q, s = apS Xdk q bs ∧ bs.length ≠ 0 ∧ h[q]? = some (resB Xdk true bs)
section
variable {h : List AB} {i j : Nat} {lim : Int} {s : AV} {bs : List UInt8} {e : Int}
theorem WrH.ne (H : WrH h i j lim s bs e) : i ≠ j := by
 rintro rfl
 have := H.hi.symm.trans H.hj
 simp [blkW, blkF] at this
theorem WrH.il (H : WrH h i j lim s bs e) : i < h.length := (List.getElem?_eq_some_iff.1 H.hi).1
theorem WrH.jl (H : WrH h i j lim s bs e) : j < h.length := (List.getElem?_eq_some_iff.1 H.hj).1
theorem Y2H {l : List UInt8} (h0 : l.length ≠ 0) : resB Xdk true l = .blk true true (Xdk.cells l) := by unfold resB; rw [if_neg h0]
theorem YKX (q : Nat) {l : List UInt8} (h0 : l.length ≠ 0) : apS Xdk q l = .sl q 0 l.length l.length (some 1) := by unfold apS; rw [if_neg h0]; rfl
theorem WrH.q (H : WrH h i j lim s bs e) {q : Nat} (hq : s = apS Xdk q bs) (h0 : bs.length ≠ 0) : h[q]? = some (.blk true true (Xdk.cells bs)) ∧ q ≠ i ∧ q ≠ j ∧ q < h.length := by
 rcases H.hs with ⟨q1, q2⟩ | ⟨q', q1, _, q3⟩
 ·rw [q2] at h0
  exact absurd rfl h0
 ·have : q' = q := by
   rw [q1, YKX _ h0, YKX _ h0] at hq
   injection hq
  subst this
  rw [Y2H h0] at q3
  refine ⟨q3, ?_, ?_, (List.getElem?_eq_some_iff.1 q3).1⟩
  ·rintro rfl
   have := q3.symm.trans H.hi
   simp [blkW] at this
  ·rintro rfl
   have := q3.symm.trans H.hj
   simp only [blkF, Option.some.injEq, AB.blk.injEq, true_and] at this
   rw [Yq3] at this
   cases bs with
   | nil => exact h0 rfl
   | cons x l => simp [u8A] at this
theorem WrH.uniq {i : Nat} {x y : Nat × Int × AV × List UInt8 × Int} (H : WrH h i x.1 x.2.1 x.2.2.1 x.2.2.2.1 x.2.2.2.2) (K : WrH h i y.1 y.2.1 y.2.2.1 y.2.2.2.1 y.2.2.2.2) : x = y := by
 obtain ⟨j, lim, s, bs, e⟩ := x
 obtain ⟨j', lim', s', bs', e'⟩ := y
 dsimp only at H K
 have h1 := H.hi.symm.trans K.hi
 simp only [blkW, Option.some.injEq, AB.blk.injEq, List.cons.injEq, AV.p.injEq, AV.i.injEq, true_and, and_true] at h1
 obtain ⟨rfl, rfl, rfl⟩ := h1
 have h2 := H.hj.symm.trans K.hj
 simp only [blkF, Option.some.injEq, AB.blk.injEq, List.cons.injEq, AV.i.injEq, true_and, and_true] at h2
 subst h2
 have : bs = bs' := by
  rcases H.hs with ⟨q1, q2⟩ | ⟨q, q1, q2, q3⟩ <;> rcases K.hs with ⟨p1, p2⟩ | ⟨p, p1, p2, p3⟩
  ·rw [q2, p2]
  ·rw [q1, YKX _ p2] at p1; cases p1
  ·rw [p1, YKX _ q2] at q1; cases q1
  ·have hqp : p = q := by
    rw [q1, YKX _ q2, YKX _ p2] at p1
    injection p1 with p1
    exact p1.symm
   subst hqp
   exact zAb (q1.symm.trans p1) (by have := q3.symm.trans p3; injection this)
 rw [this]
open Classical in
noncomputable def wrM (h : List AB) (i : Nat) : Option (Nat × Int × AV × List UInt8 × Int) := if e : ∃ x : Nat × Int × AV × List UInt8 × Int, WrH h i x.1 x.2.1 x.2.2.1 x.2.2.2.1 x.2.2.2.2 then some e.choose else none
theorem WrH.get (H : WrH h i j lim s bs e) : wrM h i = some (j, lim, s, bs, e) := by
 have hx : ∃ x : Nat × Int × AV × List UInt8 × Int, WrH h i x.1 x.2.1 x.2.2.1 x.2.2.2.1 x.2.2.2.2 := ⟨(j, lim, s, bs, e), H⟩
 unfold wrM
 rw [dif_pos hx]
 exact congrArg some (WrH.uniq hx.choose_spec (y := (j, lim, s, bs, e)) H)
theorem YfZ {β : Type} {f : Nat × Int × AV × List UInt8 × Int → Option β} {b : β} (q : (wrM h i).bind f = some b) : ∃ j lim s bs e, WrH h i j lim s bs e ∧ f (j, lim, s, bs, e) = some b := by
 obtain ⟨x, h1, h2⟩ := Option.bind_eq_some_iff.1 q
 unfold wrM at h1
 split at h1
 ·rename_i hx
  cases h1
  exact ⟨_, _, _, _, _, hx.choose_spec, h2⟩
 ·cases h1
def wX (h : List AB) (i j : Nat) (lim : Int) (s : AV) (st : List UInt8 × Int) : Option Nat → List AB
 | none => h.set j (blkF st.2)
 | some k => ((XHw s h).set i (blkW j lim (apS Xdk (h.length + k) st.1))).set j (blkF st.2)
def wK (h : List AB) (s : AV) (st : List UInt8 × Int) : Option Nat → AV
 | none => s
 | some k => apS Xdk (h.length + k) st.1
def WInv (d : Nat) (bs : List UInt8) (st : List UInt8 × Int) (L : List AB) : Option Nat → Prop
 | none => st.1 = bs
 | some k => d ≤ k ∧ bs.length < st.1.length ∧ L[k]? = some (resB Xdk true st.1)
noncomputable def wOut (h : List AB) (i j : Nat) (lim : Int) (s : AV) (bs : List UInt8) (st : List UInt8 × Int) : List AB := wX h i j lim s st (if st.1 = bs then none else some 0) ++ [if st.1 = bs then .dead else resB Xdk true st.1]
noncomputable def wPut (h : List AB) (i : Nat) (enc : List UInt8) (ok : Bool) : Option (AV × List AB) := (wrM h i).bind fun x => some (.i .i64 (wput x.2.1 x.2.2.2.1 x.2.2.2.2 enc ok).2, wOut h i x.1 x.2.1 x.2.2.1 x.2.2.2.1 (wput x.2.1 x.2.2.2.1 x.2.2.2.2 enc ok))
noncomputable def wSeq (f : Int → List UInt8 × Int → List UInt8 × Int) (h : List AB) (i : Nat) : Option (AV × List AB) := (wrM h i).bind fun x => some (.tu [], wOut h i x.1 x.2.1 x.2.2.1 x.2.2.2.1 (f x.2.1 (x.2.2.2.1, x.2.2.2.2)))
structure FOk (f : Int → List UInt8 × Int → List UInt8 × Int) : Prop where
 le : ∀ lim st, (st.1.length : Int) ≤ lim → ((f lim st).1.length : Int) ≤ lim
 grow : ∀ lim st, (f lim st).1 = st.1 ∨ st.1.length < (f lim st).1.length
theorem Yf0 (st : List UInt8 × Int) (k : Option Nat) : (wX h i j lim s st k).length = h.length := by
 cases k with
 | none => simp [wX]
 | some k => simp [wX, JjV]
theorem wX_j (H : WrH h i j lim s bs e) (st : List UInt8 × Int) (k : Option Nat) : (wX h i j lim s st k)[j]? = some (blkF st.2) := by
 have := H.jl
 cases k with
 | none => simp only [wX]; rw [List.getElem?_set_self this]
 | some k => simp only [wX]; rw [List.getElem?_set_self (by rw [List.length_set, JjV]; exact this)]
theorem wX_i (H : WrH h i j lim s bs e) (st : List UInt8 × Int) (k : Option Nat) : (wX h i j lim s st k)[i]? = some (blkW j lim (wK h s st k)) := by
 have := H.il
 cases k with
 | none => simp only [wX, wK]; rw [List.getElem?_set_ne (Ne.symm H.ne), H.hi]
 | some k => simp only [wX, wK]; rw [List.getElem?_set_ne (Ne.symm H.ne), List.getElem?_set_self (by rw [JjV]; exact this)]
theorem KeE {s : AV} {h : List AB} {k : Nat} (hk : k ∉ idOf s) : (XHw s h)[k]? = h[k]? := by
 unfold XHw
 split
 ·rw [List.getElem?_set_ne (fun q => hk (by rw [q]; simp [idOf]))]
 ·rfl
theorem Q7m (st : List UInt8 × Int) (k : Option Nat) {m : Nat} (h1 : m ≠ i) (h2 : m ≠ j) (h3 : m ∉ idOf s) : (wX h i j lim s st k)[m]? = h[m]? := by
 cases k with
 | none => simp only [wX]; rw [List.getElem?_set_ne (Ne.symm h2)]
 | some k => simp only [wX]; rw [List.getElem?_set_ne (Ne.symm h2), List.getElem?_set_ne (Ne.symm h1), KeE h3]
theorem Ztp (bs' : List UInt8) (e e' : Int) (k : Option Nat) : (wX h i j lim s (bs', e) k).set j (blkF e') = wX h i j lim s (bs', e') k := by
 cases k with
 | none => simp only [wX]; rw [List.set_set]
 | some k => simp only [wX]; rw [List.set_set]
theorem qNj (H : WrH h i j lim s bs e) {st : List UInt8 × Int} {k : Option Nat} {d : Nat} {L : List AB} (I : WInv d bs st L k) (hl : (st.1.length : Int) ≤ lim) : WrH (wX h i j lim s st k ++ L) i j lim (wK h s st k) st.1 st.2 := by
 have hil := H.il
 have hjl := H.jl
 refine ⟨?_, ?_, H.hlim, hl, ?_⟩
 ·rw [List.getElem?_append_left (by rw [Yf0]; exact hil), wX_i H]
 ·rw [List.getElem?_append_left (by rw [Yf0]; exact hjl), wX_j H]
 ·cases k with
  | none =>
   have hb : st.1 = bs := I
   rcases H.hs with ⟨q1, q2⟩ | ⟨q, q1, q2, q3⟩
   ·exact .inl ⟨q1, by rw [hb, q2]⟩
   ·obtain ⟨p1, p2, p3, p4⟩ := H.q q1 q2
    refine .inr ⟨q, by rw [hb]; exact q1, by rw [hb]; exact q2, ?_⟩
    rw [List.getElem?_append_left (by rw [Yf0]; exact p4), hb]
    simp only [wX]
    rw [List.getElem?_set_ne (Ne.symm p3)]
    exact q3
  | some k =>
   obtain ⟨_, i1, i2⟩ := I
   refine .inr ⟨h.length + k, rfl, by omega, ?_⟩
   rw [List.getElem?_append_right (by rw [Yf0]; omega), Yf0, Nat.add_sub_cancel_left]
   exact i2
theorem zFL (lim : Int) (st : List UInt8 × Int) (enc : List UInt8) (ok : Bool) : (wput lim st.1 st.2 enc ok).1 = st.1 ∨ (wput lim st.1 st.2 enc ok).1 = st.1 ++ enc := by
 unfold wput
 split
 ·split
  ·split
   ·exact .inl rfl
   ·exact .inr rfl
  ·exact .inl rfl
 ·exact .inl rfl
theorem Y27 (lim : Int) (st : List UInt8 × Int) (enc : List UInt8) (ok : Bool) : (wput lim st.1 st.2 enc ok).1 = st.1 ∨ st.1.length < (wput lim st.1 st.2 enc ok).1.length := by
 rcases zFL lim st enc ok with q | q
 ·exact .inl q
 ·cases enc with
  | nil => exact .inl (by rw [q, List.append_nil])
  | cons a l => exact .inr (by rw [q, List.length_append, List.length_cons]; omega)
theorem XbI (H : WrH h i j lim s bs e) {st st' : List UInt8 × Int} {k : Option Nat} {D R : List AB} (I : WInv D.length bs st (D ++ R) k) (hle : (st'.1.length : Int) ≤ lim) (hg : st'.1 = st.1 ∨ st.1.length < st'.1.length) : ∃ k' R', wOut (wX h i j lim s st k ++ (D ++ R)) i j lim (wK h s st k) st.1 st' = wX h i j lim s st' k' ++ (D ++ R') ∧ WInv D.length bs st' (D ++ R') k' := by
 have hlen : (wX h i j lim s st k ++ (D ++ R)).length = h.length + (D ++ R).length := by rw [List.length_append, Yf0]
 have hil := H.il
 have hjl := H.jl
 unfold wOut
 have g2 : ∀ (A : List AB) (W0 W F0 F1 : AB), (((A.set i W0).set j F0).set i W).set j F1 = (A.set i W).set j F1 := fun A W0 W F0 F1 => by
  rw [List.set_comm _ _ (Ne.symm H.ne), List.set_set, List.set_set]
 by_cases hs : st'.1 = st.1
 ·rw [if_pos hs, if_pos hs]
  have e1 : wX (wX h i j lim s st k ++ (D ++ R)) i j lim (wK h s st k) st' none ++ [.dead] = wX h i j lim s st' k ++ (D ++ (R ++ [.dead])) := by
   show (wX h i j lim s st k ++ (D ++ R)).set j (blkF st'.2) ++ [.dead] = _
   rw [List.set_append_left _ _ (by rw [Yf0]; exact hjl), show st = (st.1, st.2) from rfl, Ztp, ← hs]
   simp only [List.append_assoc]
  refine ⟨k, R ++ [.dead], by rw [e1], ?_⟩
  cases k with
  | none => exact hs.trans I
  | some k =>
   obtain ⟨i0, i1, i2⟩ := I
   refine ⟨i0, by rw [hs]; exact i1, ?_⟩
   rw [← List.append_assoc, List.getElem?_append_left (List.getElem?_eq_some_iff.1 i2).1, hs]
   exact i2
 ·rw [if_neg hs, if_neg hs]
  have hlt := hg.resolve_left hs
  have e0 : (wX h i j lim s st k ++ (D ++ R)).length + 0 = h.length + (D ++ R).length := by rw [hlen, Nat.add_zero]
  cases k with
  | none =>
   have hb : st.1 = bs := I
   have e1 : wX (wX h i j lim s st none ++ (D ++ R)) i j lim s st' (some 0) ++ [resB Xdk true st'.1] = wX h i j lim s st' (some (D ++ R).length) ++ (D ++ (R ++ [resB Xdk true st'.1])) := by
    show ((XHw s (wX h i j lim s st none ++ (D ++ R))).set i (blkW j lim (apS Xdk ((wX h i j lim s st none ++ (D ++ R)).length + 0) st'.1))).set j (blkF st'.2) ++ [resB Xdk true st'.1] = _
    rw [e0]
    have k1 : XHw s (wX h i j lim s st none ++ (D ++ R)) = (XHw s h).set j (blkF st.2) ++ (D ++ R) := by
     rcases H.hs with ⟨q1, q2⟩ | ⟨q, q1, q2, q3⟩
     ·rw [q1]; rfl
     ·obtain ⟨p1, p2, p3, p4⟩ := H.q q1 q2
      rw [q1, YKX _ q2]
      simp only [XHw, wX]
      rw [List.set_append_left _ _ (by rw [List.length_set]; exact p4), List.set_comm _ _ (Ne.symm p3)]
    rw [k1, List.set_append_left _ _ (by rw [List.length_set, JjV]; exact hil), List.set_append_left _ _ (by rw [List.length_set, List.length_set, JjV]; exact hjl), List.set_comm _ _ (Ne.symm H.ne), List.set_set]
    simp only [wX, List.append_assoc]
   refine ⟨some (D ++ R).length, R ++ [resB Xdk true st'.1], by simp only [wK]; rw [e1], ⟨by rw [List.length_append]; omega, by rw [← hb]; exact hlt, ?_⟩⟩
   rw [← List.append_assoc, List.getElem?_append_right (Nat.le_refl _), Nat.sub_self]
   rfl
  | some k =>
   obtain ⟨i0, i1, i2⟩ := I
   have hk := (List.getElem?_eq_some_iff.1 i2).1
   have h0 : st.1.length ≠ 0 := by omega
   have e2 : (D ++ R).set k .dead = D ++ R.set (k - D.length) .dead := List.set_append_right _ _ i0
   have e1 : wX (wX h i j lim s st (some k) ++ (D ++ R)) i j lim (wK h s st (some k)) st' (some 0) ++ [resB Xdk true st'.1] = wX h i j lim s st' (some (D ++ R).length) ++ (D ++ (R.set (k - D.length) .dead ++ [resB Xdk true st'.1])) := by
    show ((XHw (wK h s st (some k)) (wX h i j lim s st (some k) ++ (D ++ R))).set i (blkW j lim (apS Xdk ((wX h i j lim s st (some k) ++ (D ++ R)).length + 0) st'.1))).set j (blkF st'.2) ++ [resB Xdk true st'.1] = _
    rw [e0]
    have k1 : XHw (wK h s st (some k)) (wX h i j lim s st (some k) ++ (D ++ R)) = wX h i j lim s st (some k) ++ (D ++ R.set (k - D.length) .dead) := by
     simp only [wK]
     rw [YKX _ h0]
     show (wX h i j lim s st (some k) ++ (D ++ R)).set (h.length + k) .dead = _
     rw [List.set_append_right _ _ (by rw [Yf0]; omega), Yf0, Nat.add_sub_cancel_left, e2]
    rw [k1, List.set_append_left _ _ (by rw [Yf0]; exact hil), List.set_append_left _ _ (by rw [List.length_set, Yf0]; exact hjl)]
    have g3 := g2 (XHw s h) (blkW j lim (apS Xdk (h.length + k) st.1)) (blkW j lim (apS Xdk (h.length + (D ++ R).length) st'.1)) (blkF st.2) (blkF st'.2)
    simp only [wX]
    rw [g3]
    simp only [List.append_assoc]
   refine ⟨some (D ++ R).length, R.set (k - D.length) .dead ++ [resB Xdk true st'.1], by rw [e1], ⟨by rw [List.length_append]; omega, by omega, ?_⟩⟩
   rw [← List.append_assoc, ← e2, List.getElem?_append_right (by rw [List.length_set]; exact Nat.le_refl _), List.length_set, Nat.sub_self]
   rfl
theorem ZNh (H : WrH h i j lim s bs e) {st : List UInt8 × Int} {k : Option Nat} {D R : List AB} (I : WInv D.length bs st (D ++ R) k) (hl : (st.1.length : Int) ≤ lim) (enc : List UInt8) (ok : Bool) : ∃ k' R', wPut (wX h i j lim s st k ++ (D ++ R)) i enc ok = some (.i .i64 (wput lim st.1 st.2 enc ok).2, wX h i j lim s (wput lim st.1 st.2 enc ok) k' ++ (D ++ R')) ∧ WInv D.length bs (wput lim st.1 st.2 enc ok) (D ++ R') k' ∧ ((wput lim st.1 st.2 enc ok).1.length : Int) ≤ lim := by
 have hle := ZYd lim st.1 st.2 enc ok hl
 obtain ⟨k', R', q1, q2⟩ := XbI H I hle (Y27 lim st enc ok)
 refine ⟨k', R', ?_, q2, hle⟩
 unfold wPut
 rw [(qNj H I hl).get, Option.bind_some, q1]
theorem zKp (H : WrH h i j lim s bs e) {f : Int → List UInt8 × Int → List UInt8 × Int} (F : FOk f) {st : List UInt8 × Int} {k : Option Nat} {D R : List AB} (I : WInv D.length bs st (D ++ R) k) (hl : (st.1.length : Int) ≤ lim) : ∃ k' R', wSeq f (wX h i j lim s st k ++ (D ++ R)) i = some (.tu [], wX h i j lim s (f lim st) k' ++ (D ++ R')) ∧ WInv D.length bs (f lim st) (D ++ R') k' ∧ ((f lim st).1.length : Int) ≤ lim := by
 have hle := F.le lim st hl
 obtain ⟨k', R', q1, q2⟩ := XbI H I hle (F.grow lim st)
 refine ⟨k', R', ?_, q2, hle⟩
 unfold wSeq
 rw [(qNj H I hl).get, Option.bind_some, q1]
theorem wX_0 (H : WrH h i j lim s bs e) : wX h i j lim s (bs, e) none = h := by
 simp only [wX]
 exact Xn4 H.hj
theorem qbP {P : Program} (H : WrH h i j lim s bs e) (hh : HOk h) {st : List UInt8 × Int} {k : Option Nat} {d : Nat} {L : List AB} (I : WInv d bs st L k) (v : AV) (hv : (v.fl || match v with | .tu [] => true | _ => false) = true) :
  Bt P h.length [v] (wX h i j lim s st k ++ L) [v] (wOut h i j lim s bs st) := by
 unfold wOut
 have hil := H.il
 have hjl := H.jl
 have hvo : ∀ q, v.ok q = true := fun q => by
  cases v <;> first | rfl | (cases hv; done) | skip
  rename_i l
  cases l <;> first | rfl | (cases hv; done)
 have hvr : ∀ f, v.ren f = v := fun f => by
  cases v <;> first | rfl | (cases hv; done) | skip
  rename_i l
  cases l <;> first | rfl | (cases hv; done)
 cases k with
 | none =>
  have hb : st.1 = bs := I
  rw [if_pos hb, if_pos hb]
  have hok : HOk (wX h i j lim s st none) := fun m B hB => by
   rw [Yf0]
   simp only [wX] at hB
   by_cases hm : m = j
   ·subst hm
    rw [List.getElem?_set_self hjl] at hB
    cases hB
    rfl
   ·rw [List.getElem?_set_ne (Ne.symm hm)] at hB
    exact hh m B hB
  have h1 := Bt.drop (P := P) (h := wX h i j lim s st none) (v := v) (a := v) L hok rfl (hvo _)
  have h2 := Bt.pad (P := P) (p := h.length) [v] (wX h i j lim s st none) 1
  rw [Yf0] at h1
  exact Bt.trans h1 h2
 | some k =>
  obtain ⟨i0, i1, i2⟩ := I
  have hne : st.1 ≠ bs := fun q => by rw [q] at i1; omega
  have h0 : st.1.length ≠ 0 := by omega
  rw [if_neg hne, if_neg hne]
  have := Bt.selO (P := P) (h := wX h i j lim s st (some k)) (g := wX h i j lim s st (some 0)) (l := L) (l' := [resB Xdk true st.1]) (fr := [v]) (fr' := [v]) [k] (by rw [Yf0, Yf0]) (fun m B hB => ?_) (by simp) ⟨⟨_, i2, of_eq_true (Q12 _ _ _ _)⟩, trivial⟩ ⟨.inr ⟨hvo _, by rw [hvr]; exact Wk.refl _⟩, trivial⟩
  ·rw [Yf0] at this
   exact this
  ·by_cases hm : m = i
   ·subst hm
    rw [wX_i H] at hB
    cases hB
    refine .inr ⟨_, wX_i H st (some k), ?_⟩
    simp only [wK, blkW]
    rw [YKX _ h0, YKX _ h0]
    refine ⟨id, ?_, ?_⟩
    ·simp only [JjW, ZWl, ok_p, ok_i, Yf0, Bool.and_true, Bool.and_eq_true]
     refine ⟨decide_eq_true (by omega), ?_⟩
     refine ⟨trivial, ?_⟩
     exact ZY3 (fun i => decide (i < h.length + [k].length)) _ _ _ _ _ (decide_eq_true (show h.length + 0 < h.length + 1 by omega))
    ·simp only [renL, AV.ren, Yf0]
     rw [Zat hjl, show selN h.length [k] (h.length + 0) = h.length + k from YiE 0]
     exact WkL.refl _
   ·by_cases hj : m = j
    ·subst hj
     rw [wX_j H] at hB
     cases hB
     exact .inl ⟨wX_j H st (some k), rfl⟩
    ·left
     have e1 : (wX h i j lim s st (some 0))[m]? = (XHw s h)[m]? := by
      simp only [wX]
      rw [List.getElem?_set_ne (Ne.symm hj), List.getElem?_set_ne (Ne.symm hm)]
     have e2 : (wX h i j lim s st (some k))[m]? = (XHw s h)[m]? := by
      simp only [wX]
      rw [List.getElem?_set_ne (Ne.symm hj), List.getElem?_set_ne (Ne.symm hm)]
     rw [e1] at hB
     rw [e2]
     refine ⟨hB, ?_⟩
     rw [Yf0]
     unfold XHw at hB
     split at hB
     ·rw [List.getElem?_set] at hB
      split at hB
      ·split at hB
       ·cases hB; rfl
       ·cases hB
      ·exact hh m B hB
     ·exact hh m B hB
end
end Go.Proofs.Ytpoojfnmhnedpaa
end
section
namespace Go.Proofs.Ytpoojfnmhnedpaa
set_option maxRecDepth 100000
set_option maxHeartbeats 4000000
def Jwu : List AV → List AB → Option (AV × List AB)
 | [.p i 0], h => match Za2 h i with
   | some [.p _ 0, _, _] => some (.b false, h)
   | _ => none
 | _, _ => none
theorem Yp7 : Spec Try.prog 57 Jwu := by
 intro args h v h' e
 unfold Jwu at e
 split at e
 ·rename_i i
  split at e
  ·rename_i j s p hb
   cases e
   refine FnAt.c (FnAt.run (by kernel_rfl) (T := ⟨[], []⟩) ⟨trivial, trivial⟩ Try.func57 sw57 fun ho hh => ?_)
   have f1 := Yx1 hb
   unfold w57
   simp only [JaF, Qv5, Zsz, qtN, qup, simprocAttr, CO.tmps, Opd.tmps, optT, Nat.reducePow, Nat.reduceDiv, Nat.reduceMod, f1, zoX, List.getElem?_cons_zero, List.getElem?_cons_succ]
   exact Bt.dropB _ hh rfl
  ·cases e
 ·cases e
def YQo : List AV → List AB → Option (AV × List AB)
 | [.i .i64 n], h => if 0 ≤ n ∧ n ≤ 67108864 then some (.tu [.p h.length 0, .i .i64 0], h ++ [.blk false true [.p (h.length + 1) 0, .i .i64 n, .ns], .blk true true [.i .i64 0, .i .i64 0]]) else none
 | _, _ => none
theorem KRj : Spec Try.prog 27 YQo := by
 intro args h v h' e
 unfold YQo at e
 split at e
 ·rename_i n
  split at e
  ·rename_i hn
   cases e
   refine FnAt.c (FnAt.run (by kernel_rfl) (T := ⟨[], []⟩) ⟨trivial, trivial⟩ Try.func27 sw27 fun ho hh => ?_)
   have g1 : (n < 0) = False := eq_false (by omega)
   have g2 : ((67108864 : Int) < n) = False := eq_false (by omega)
   unfold w27
   simp only [JaF, Qv5, Zsz, qtN, qup, simprocAttr, CO.tmps, Opd.tmps, optT, Nat.reducePow, Nat.reduceDiv, Nat.reduceMod, g1, g2]
   exact Bt.sel [1, 0] hh (by decide) (by simp only [YmD, FrSel, BlkSel, AV.ren, renL, AV.ok, okL, Option.some.injEq, exists_eq_left', List.length_cons, List.length_nil, Nat.reduceAdd, Nat.reduceLT, reduceCtorEq, implies_true, exists_eq', QtL, Jg7]) (by simp only [YmD, FrSel, BlkSel, AV.ren, renL, AV.ok, okL, Option.some.injEq, exists_eq_left', List.length_cons, List.length_nil, Nat.reduceAdd, Nat.reduceLT, reduceCtorEq, implies_true, exists_eq'])
  ·cases e
 ·cases e
end Go.Proofs.Ytpoojfnmhnedpaa
end
section
namespace Go.Proofs.Ytpoojfnmhnedpaa
set_option maxRecDepth 100000
set_option maxHeartbeats 4000000
def wtr (h : List AB) (i : Nat) : Option (Nat × Int × AV × Int × Int) := match h[i]? with
 | some (.blk false _ [.p j 0, .i .i64 n, s]) => match Za2 h j with
  | some [.i .i64 e, .i .i64 a] => some (j, n, s, e, a)
  | _ => none
 | _ => none
theorem q7v {β : Type} {h : List AB} {i : Nat} {f : Nat × Int × AV × Int × Int → Option β} {b : β} (q : (wtr h i).bind f = some b) : ∃ j n s e a, (∃ m, h[i]? = some (.blk false m [.p j 0, .i .i64 n, s])) ∧ Za2 h i = some [.p j 0, .i .i64 n, s] ∧ Za2 h j = some [.i .i64 e, .i .i64 a] ∧ f (j, n, s, e, a) = some b := by
 obtain ⟨x, h1, h2⟩ := Option.bind_eq_some_iff.1 q
 unfold wtr at h1
 split at h1
 ·rename_i hb
  split at h1
  ·rename_i hc
   cases h1
   exact ⟨_, _, _, _, _, ⟨_, hb⟩, by unfold Za2; rw [hb], hc, h2⟩
  ·cases h1
 ·cases h1
theorem QTv {h : List AB} (hh : HOk h) {i j : Nat} {s : AV} {n : Int} {m : Bool} (q : h[i]? = some (.blk false m [.p j 0, .i .i64 n, s])) : s.ok (fun k => decide (k < h.length)) = true := by
 have := hh i _ q
 simp only [AB.ok, JjW, Bool.and_eq_true] at this
 exact this.2.2.1
noncomputable def Yq0 : List AV → List AB → Option (AV × List AB)
 | [.p i 0], h => (wtr h i).bind fun x => (getS Xdk h x.2.2.1).bind fun bs => if bs.length ≤ 1000000 then
   if x.2.2.2.1 = 0 then some (.tu [rsl Xdk h.length bs, .i .i64 0], h ++ [resB Xdk true bs]) else some (.tu [.ns, .i .i64 x.2.2.2.1], h)
   else none
 | _, _ => none
theorem JsS : Spec Try.prog 30 Yq0 := by
 intro args h v h' e
 unfold Yq0 at e
 split at e
 ·rename_i i
  obtain ⟨j, n, s, er, a, ⟨m, hi⟩, hb, hc, e⟩ := q7v e
  dsimp only at e
  obtain ⟨bs, hs, e⟩ := Zly e
  split at e
  ·rename_i hl
   have l1 := eq_true hl
   refine FnAt.c (FnAt.run (by kernel_rfl) (T := ⟨[⟨57, Jwu, fun _ => []⟩, ⟨58, ZJ7, fun _ => []⟩, ⟨59, Q9c, fun _ => []⟩], []⟩) ⟨⟨Yp7, YfB, Yhi, trivial⟩, trivial⟩ Try.func30 sw30 fun ho hh => ?_)
   have f1 := Yx1 hb
   have f2 := Yx1 hc
   have f3 := hs.fx (QTv hh hi) (sz := 1) rfl
   unfold w30
   by_cases g : er = 0
   ·have g' := eq_true g
    rw [if_pos g] at e
    cases e
    simp only [JaF, Qv5, Zsz, qtN, qup, simprocAttr, CO.tmps, Opd.tmps, optT, Nat.reducePow, Nat.reduceDiv, Nat.reduceMod, f1, f2, f3, g', l1, Jwu, ZJ7, Q9c, zoX, List.getElem?_cons_zero, List.getElem?_cons_succ, ne_eq, not_true_eq_false, decide_true, decide_false]
    exact Bt.eq rfl rfl
   ·have g' := eq_false g
    rw [if_neg g] at e
    cases e
    simp only [JaF, Qv5, Zsz, qtN, qup, simprocAttr, CO.tmps, Opd.tmps, optT, Nat.reducePow, Nat.reduceDiv, Nat.reduceMod, f1, f2, f3, g', l1, Jwu, ZJ7, Q9c, zoX, List.getElem?_cons_zero, List.getElem?_cons_succ, ne_eq, not_false_eq_true, decide_true, decide_false]
    exact Bt.drop _ hh rfl (by simp only [Jiu, JjW, ZWl, YCx, ok_i, Bool.and_true])
  ·cases e
 ·cases e
end Go.Proofs.Ytpoojfnmhnedpaa
end
section
namespace Go.Proofs.Ytpoojfnmhnedpaa
set_option maxRecDepth 100000
set_option maxHeartbeats 4000000
theorem Qls {ty : TypeId} {v : AV} {p : List UInt8 × Bool} (h : encV ty v = some p) : p.1.length ≠ 0 ∧ p.1.length ≤ 1000009 := by
 unfold encV at h
 split at h
 ·split at h
  ·rename_i n
   split at h
   ·cases h
    exact ⟨XtR n, by have := ZEm n; dsimp only; omega⟩
   ·cases h
  ·cases h
 split at h
 ·split at h
  ·rename_i l
   split at h
   ·rename_i hl
    cases h
    have := XtR l.length
    have := ZEm l.length
    dsimp only
    rw [List.length_append]
    omega
   ·cases h
  ·cases h
 split at h
 ·obtain ⟨d, _, hp⟩ := Option.map_eq_some_iff.1 h
  cases hp
  rw [d.h]
  decide
 ·cases h
section
variable {h : List AB} {i j : Nat} {lim : Int} {s : AV} {bs : List UInt8} {e : Int}
theorem rd_i (H : WrH h i j lim s bs e) : Za2 h i = some [.p j 0, .i .i64 lim, s] := by unfold Za2; rw [H.hi]; rfl
theorem rd_j (H : WrH h i j lim s bs e) : Za2 h j = some [.i .i64 e, .i .i64 0] := by unfold Za2; rw [H.hj]; rfl
theorem Xyq (H : WrH h i j lim s bs e) (st : List UInt8 × Int) (k : Option Nat) (L : List AB) : ldV (wX h i j lim s st k ++ L) none (.p i 0) = some (.p j 0) ∧ ldV (wX h i j lim s st k ++ L) none (.p j 0) = some (.i .i64 st.2) := by
 have hil := H.il
 have hjl := H.jl
 constructor
 ·simp only [ldV, Za2]
  rw [List.getElem?_append_left (by rw [Yf0]; exact hil), wX_i H]
  rfl
 ·simp only [ldV, Za2]
  rw [List.getElem?_append_left (by rw [Yf0]; exact hjl), wX_j H]
  rfl
theorem KUy (H : WrH h i j lim s bs 0) (x : Int) (L : List AB) : QCQ [.p j 0, .i .i64 x, .i .i64 0] (h ++ L) = some (.tu [], wX h i j lim s (bs, x) none ++ L) := by
 have hjl := H.jl
 have hj : (h ++ L)[j]? = some (.blk true true [.i .i64 0, .i .i64 0]) := by rw [List.getElem?_append_left hjl]; exact H.hj
 unfold QCQ
 simp only [hj, if_true]
 rw [List.set_append_left _ _ hjl]
 rfl
theorem XAU (H : WrH h i j lim s bs e) {enc : List UInt8} (h0 : enc.length ≠ 0) (hm : enc.length ≤ 1000009) (L : List AB) : appW (h ++ L) true 1 1 s enc.length (Xdk.cells enc) = some (apS Xdk (h.length + L.length) (bs ++ enc), XHw s h ++ (L ++ [resB Xdk true (bs ++ enc)])) := by
 have hl1 := H.hlim
 have hl2 := H.hlen
 rcases H.hs with ⟨q1, q2⟩ | ⟨q, q1, q2, q3⟩
 ·rw [q1, q2, Ykd, if_neg h0, if_pos ⟨by omega, by unfold maxLen; omega⟩, List.nil_append, YKX _ h0, Y2H h0]
  rfl
 ·obtain ⟨p1, p2, p3, p4⟩ := H.q q1 q2
  have hne : bs.length + enc.length ≠ 0 := by omega
  have hg : (h ++ L)[q]? = some (.blk true true (Xdk.cells bs)) := by rw [List.getElem?_append_left p4]; exact p1
  have hcl : (Xdk.cells bs).length = bs.length := by rw [Xdk.cells_len, Xcw]; omega
  rw [q1, YKX _ q2, q9B _ q2, ZzH q2]
  simp only [appW, XHw, hg]
  rw [if_neg h0, if_neg (by omega), if_pos ⟨trivial, by omega, by omega, by unfold maxLen; omega⟩, if_neg (by simp), if_pos ⟨trivial, by decide, trivial, by omega⟩, List.drop_zero, List.length_append, List.set_append_left _ _ p4, List.append_assoc]
  rfl
theorem st_w (H : WrH h i j lim s bs 0) (k : Nat) (bs' : List UInt8) (L : List AB) : stV (XHw s h ++ L) none (.p i 2) (apS Xdk (h.length + k) bs') = some (wX h i j lim s (bs', 0) (some k) ++ L) := by
 have hq : i ∉ idOf s := by
  rcases H.hs with ⟨q1, q2⟩ | ⟨q, q1, q2, q3⟩
  ·rw [q1]; simp [idOf]
  ·obtain ⟨p1, p2, p3, p4⟩ := H.q q1 q2
   rw [q1, YKX _ q2]
   simp only [idOf, List.mem_singleton]
   exact Ne.symm p2
 have hqj : j ∉ idOf s := by
  rcases H.hs with ⟨q1, q2⟩ | ⟨q, q1, q2, q3⟩
  ·rw [q1]; simp [idOf]
  ·obtain ⟨p1, p2, p3, p4⟩ := H.q q1 q2
   rw [q1, YKX _ q2]
   simp only [idOf, List.mem_singleton]
   exact Ne.symm p3
 rw [ZAf (h := XHw s h) (i := i) (fl := false) (cells := [.p j 0, .i .i64 lim, s]) (by rw [KeE hq]; exact H.hi) (o := 2) (Nat.le_refl 3) (by unfold apS; split <;> rfl) (JBK _ _)]
 have : wX h i j lim s (bs', 0) (some k) = (XHw s h).set i (blkW j lim (apS Xdk (h.length + k) bs')) := by
  simp only [wX]
  rw [Xn4]
  rw [List.getElem?_set_ne H.ne, KeE hqj]
  exact H.hj
 rw [this]
 rfl
end
noncomputable def XIz : List AV → List AB → Option (AV × List AB)
 | [.p i 0, .ifc ty v], h => (encV ty v).bind fun p => wPut h i p.1 p.2
 | _, _ => none
theorem Jgi : Spec Try.prog 56 XIz := by
 intro args h v h' e
 unfold XIz at e
 split at e
 ·rename_i i ty x
  obtain ⟨⟨enc, ok⟩, hp, e⟩ := Option.bind_eq_some_iff.1 e
  obtain ⟨n0, n1⟩ := Qls hp
  dsimp only at e n0 n1
  unfold wPut at e
  obtain ⟨j, lim, s, bs, er, H, e⟩ := YfZ e
  dsimp only at e
  cases e
  unfold wOut
  refine FnAt.c (FnAt.run (by kernel_rfl) (T := ⟨[⟨57, Jwu, fun _ => []⟩, ⟨58, ZJ7, fun _ => []⟩, ⟨76, QCQ, wsP⟩, ⟨75, Jdx, fun _ => []⟩], []⟩) ⟨⟨Yp7, YfB, QSM, XXJ, trivial⟩, trivial⟩ Try.func56 sw56 fun ho hh => ?_)
  have f1 := Yx1 (rd_i H)
  have f2 := Yx1 (rd_j H)
  have hl1 := H.hlim
  have hl2 := H.hlen
  have hso : s.ok (fun k => decide (k < h.length)) = true := by
   have := hh i _ H.hi
   simp only [blkW, AB.ok, JjW, Bool.and_eq_true] at this
   exact this.2.2.1
  have hsl : s.isSl = true := by
   rcases H.hs with ⟨q1, q2⟩ | ⟨q, q1, q2, q3⟩
   ·rw [q1]; rfl
   ·rw [q1]; exact KRz _ _
  have hsv : lenV s = some (bs.length : Int) := by
   rcases H.hs with ⟨q1, q2⟩ | ⟨q, q1, q2, q3⟩
   ·rw [q1, q2]; rfl
   ·rw [q1]; exact XbL _ _
  have s1 := zuq hsl
  have s2 := YWW hsl
  have s3 := QCO hsl
  have s4 : ∀ c lo hi anc past, s.ok (qOk (h.length + c) lo hi anc past) = true := fun c lo hi anc past => AV.ok_mono (fun k hk => Y9z (by simp only [decide_eq_true_eq] at hk; omega)) s hso
  unfold w56
  by_cases g : er = 0
  case neg =>
   have g' := eq_false g
   have hw : wput lim bs er enc ok = (bs, er) := by unfold wput; rw [if_neg g]
   rw [hw, if_pos rfl, if_pos rfl]
   simp only [JaF, Qv5, Zsz, qtN, qup, simprocAttr, CO.tmps, Opd.tmps, optT, Nat.reducePow, Nat.reduceDiv, Nat.reduceMod, f1, f2, g', Jwu, ZJ7, zoX, List.getElem?_cons_zero, List.getElem?_cons_succ, not_false_eq_true, decide_true]
   exact qbP (st := (bs, er)) (k := none) (d := 0) (L := []) H hh rfl _ rfl |> fun q => by
    unfold wOut at q
    rw [if_pos rfl, if_pos rfl] at q
    have e0 : wX h i j lim s (bs, er) none = h := by
     simp only [wX]
     exact Xn4 H.hj
    rw [e0] at q ⊢
    exact q
  subst g
  have ff := KUy H
  have fl := fun st k L => (Xyq H st k L).1
  have fl2 := fun st k L => (Xyq H st k L).2
  cases ok with
  | false =>
   have hw : wput lim bs 0 enc false = (bs, 3) := rfl
   rw [hw]
   simp only [JaF, Qv5, Zsz, qtN, qup, simprocAttr, CO.tmps, Opd.tmps, optT, Nat.reducePow, Nat.reduceDiv, Nat.reduceMod, f1, f2, ff, fl, fl2, hp, Jwu, ZJ7, Jdx, zoX, List.getElem?_cons_zero, List.getElem?_cons_succ, not_true_eq_false, not_false_eq_true, decide_true, decide_false, ne_eq]
   refine qbP (P := Try.prog) (st := (bs, 3)) (k := none) (d := 0) (L := [resB Xdk true enc]) H hh rfl (.i .i64 3) rfl |> fun q => ?_
   unfold wOut at q
   rw [if_pos rfl, if_pos rfl] at q
   exact q
  | true =>
   have w1 : IntKind.i64.wrap ((bs.length : Int) + (enc.length : Int)) = (bs.length : Int) + (enc.length : Int) := KqL (by unfold In64; omega)
   by_cases g2 : lim < (bs.length : Int) + (enc.length : Int)
   ·have g2' := eq_true g2
    have hw : wput lim bs 0 enc true = (bs, 4) := by unfold wput; rw [if_pos rfl, if_pos rfl, if_pos g2]
    rw [hw]
    simp only [JaF, Qv5, Zsz, qtN, qup, simprocAttr, CO.tmps, Opd.tmps, optT, Nat.reducePow, Nat.reduceDiv, Nat.reduceMod, f1, f2, ff, fl, fl2, hp, g2', w1, s1, s2, s3, s4, hsv, Jwu, ZJ7, Jdx, zoX, List.getElem?_cons_zero, List.getElem?_cons_succ, not_true_eq_false, not_false_eq_true, decide_true, decide_false, ne_eq]
    refine qbP (P := Try.prog) (st := (bs, 4)) (k := none) (d := 0) (L := [resB Xdk true enc]) H hh rfl (.i .i64 4) rfl |> fun q => ?_
    unfold wOut at q
    rw [if_pos rfl, if_pos rfl] at q
    exact q
   ·have g2' := eq_false g2
    have hw : wput lim bs 0 enc true = (bs ++ enc, 0) := by unfold wput; rw [if_pos rfl, if_pos rfl, if_neg g2]
    rw [hw]
    have gr : ∀ id, apS Xdk id enc = rsl Xdk id enc := fun id => ZLk _ n0
    have fs := fun L k l e => Q1r (h := h) (r := Xdk) (sz := 1) rfl L k l e
    have fa := XAU H n0 n1
    have fst := st_w H
    simp only [JaF, Qv5, Zsz, qtN, qup, simprocAttr, CO.tmps, Opd.tmps, optT, Nat.reducePow, Nat.reduceDiv, Nat.reduceMod, f1, f2, ff, fl, fl2, hp, g2', w1, s1, s2, s3, s4, hsv, gr, fs, fa, fst, Zs6, Jwu, ZJ7, Jdx, zoX, List.getElem?_cons_zero, List.getElem?_cons_succ, not_true_eq_false, not_false_eq_true, decide_true, decide_false, ne_eq]
    exact qbP (st := (bs ++ enc, 0)) (k := some 1) (d := 0) H hh ⟨Nat.zero_le _, by rw [List.length_append]; omega, rfl⟩ (.i .i64 0) rfl
 ·cases e
end Go.Proofs.Ytpoojfnmhnedpaa
end
section
namespace Go.Proofs.Ytpoojfnmhnedpaa
set_option maxRecDepth 100000
set_option maxHeartbeats 4000000
noncomputable def Xs9 : List AV → List AB → Option (AV × List AB)
 | [.p i 0, .i .i64 n], h => if In64 n then wPut h i (JDk n) (decide (0 ≤ n)) else none
 | _, _ => none
noncomputable def ZZw : List AV → List AB → Option (AV × List AB)
 | [.p i 0, .s l], h => if l.length ≤ 1000000 then wPut h i (JDk l.length ++ l) true else none
 | _, _ => none
noncomputable def zoe : List AV → List AB → Option (AV × List AB)
 | [.p i 0, a], h => (Zwn a).bind fun d => wPut h i d.l true
 | _, _ => none
theorem Yzp : Spec Try.prog 28 Xs9 := by
 intro args h v h' e
 unfold Xs9 at e
 split at e
 ·rename_i i n
  split at e
  ·rename_i hn
   refine FnAt.c (FnAt.run (by kernel_rfl) (T := ⟨[⟨56, XIz, fun _ => []⟩], []⟩) ⟨⟨Jgi, trivial⟩, trivial⟩ Try.func28 sw28 fun ho hh => ?_)
   have tp : XIz [.p i 0, .ifc 3 (.i .i64 n)] (h ++ []) = some (v, h') := by
    rw [List.append_nil]
    unfold XIz
    have : encV 3 (.i .i64 n) = some (JDk n, decide (0 ≤ n)) := by
     unfold encV
     rw [if_pos rfl]
     exact if_pos hn
    simp only [this, Option.bind_some]
    exact e
   unfold w28
   simp only [JaF, Qv5, Zsz, qtN, qup, simprocAttr, CO.tmps, Opd.tmps, optT, Nat.reducePow, Nat.reduceDiv, Nat.reduceMod, z5S, tp]
   exact Bt.refl _ _ _
  ·cases e
 ·cases e
theorem JE3 : Spec Try.prog 29 ZZw := by
 intro args h v h' e
 unfold ZZw at e
 split at e
 ·rename_i i l
  split at e
  ·rename_i hn
   refine FnAt.c (FnAt.run (by kernel_rfl) (T := ⟨[⟨56, XIz, fun _ => []⟩], []⟩) ⟨⟨Jgi, trivial⟩, trivial⟩ Try.func29 sw29 fun ho hh => ?_)
   have tp : XIz [.p i 0, .ifc 9 (.s l)] (h ++ []) = some (v, h') := by
    rw [List.append_nil]
    unfold XIz
    have : encV 9 (.s l) = some (JDk l.length ++ l, true) := by
     unfold encV
     rw [if_neg (by decide), if_pos rfl]
     exact if_pos hn
    simp only [this, Option.bind_some]
    exact e
   unfold w29
   simp only [JaF, Qv5, Zsz, qtN, qup, simprocAttr, CO.tmps, Opd.tmps, optT, Nat.reducePow, Nat.reduceDiv, Nat.reduceMod, z5S, tp]
   exact Bt.refl _ _ _
  ·cases e
 ·cases e
theorem Xbc : Spec Try.prog 35 zoe := by
 intro args h v h' e
 unfold zoe at e
 split at e
 ·rename_i i a
  obtain ⟨d, hd, e2⟩ := Option.bind_eq_some_iff.1 e
  clear e
  obtain rfl := zTt hd
  unfold wPut at e2
  obtain ⟨j, lim, s, bs, er, H, e3⟩ := YfZ e2
  clear e2
  cases e3
  refine FnAt.c (FnAt.run (by kernel_rfl) (T := ⟨[⟨56, XIz, fun _ => []⟩], []⟩) ⟨⟨Jgi, trivial⟩, trivial⟩ Try.func35 sw35 fun ho hh => ?_)
  have ev : encV 23 (.ag (idR.f d)) = some (d.l, true) := by
   unfold encV
   rw [if_neg (by decide), if_neg (by decide), if_pos rfl, XiN]
   rfl
  obtain ⟨k, R, q1, q2, q3⟩ := ZNh (D := []) (R := [.blk true true (idR.f d)]) H (st := (bs, er)) (k := none) rfl H.hlen d.l true
  rw [wX_0 H] at q1
  have tp : XIz [.p i 0, .ifc 23 (.ag (idR.f d))] (h ++ [.blk true true (idR.f d)]) = some (.i .i64 (wput lim bs er d.l true).2, wX h i j lim s (wput lim bs er d.l true) k ++ R) := by
   unfold XIz
   simp only [ev, Option.bind_some]
   exact q1
  obtain ⟨b1, b2, b3, b4, b5⟩ := qUB d.h
  rw [show d.l.map u8A = idR.f d from rfl] at *
  unfold w35
  simp only [JaF, Qv5, Zsz, qtN, qup, simprocAttr, CO.tmps, Opd.tmps, optT, Nat.reducePow, Nat.reduceDiv, Nat.reduceMod, z5S, b1, b2, b3, tp]
  exact qbP H hh q2 _ rfl
 ·cases e
end Go.Proofs.Ytpoojfnmhnedpaa
end
