/- Part 16 of what the laws' proofs rest on. No condition. -/
import Derived.Test.YtpoojfnmhnedpaaMd15
set_option linter.all false
section
namespace Go.Proofs.Ytpoojfnmhnedpaa
set_option maxRecDepth 100000
set_option maxHeartbeats 4000000
theorem Ysq {T : Env} {fr : List AV} {h : List AB} (x : Opd) (t : TypeId) (ok : Bool) (z : AV) : opR T (.tas x t ok z) fr h = (match x.ev fr with
  | .ifc t' v => if t' = t then some (if ok = true then .tu [v, .b true] else v, h) else if ok = true then some (.tu [z, .b false], h) else none
  | .ni => if ok = true then some (.tu [z, .b false], h) else none
  | _ => none) := by
 simp only [opR, CO.isCall, CO.run]
 cases x.ev fr <;> rfl
theorem z5S {T : Env} {fr : List AV} {h : List AB} (t : TypeId) (x : Opd) : opR T (.ifc t x) fr h = some (.ifc t (x.ev fr), h) := _root_.id rfl
theorem Xmn (x : Int) : IntKind.u8.wrap x = ((UInt8.ofInt x).toNat : Int) := by
 rw [IntKind.wrap_u8, XaF]
theorem KqS (x : Int) : AV.i .u8 (IntKind.u8.wrap x) = u8A (UInt8.ofInt x) := by rw [Xmn]; rfl
theorem qAJ (b : UInt8) : (u8A b).one = true := _root_.id rfl
theorem X41 (b : UInt8) : (u8A b).known = true := _root_.id rfl
theorem ztu (b : UInt8) : (u8A b).cells = [u8A b] := _root_.id rfl
theorem q8C (b : UInt8) : (u8A b).flat = true := _root_.id rfl
theorem X3l (b : UInt8) : wrOk true (u8A b) = true := _root_.id rfl
def Q2r (n : Int) (k : Nat) : List UInt8 := UInt8.ofInt (191 + Xwj n) :: (List.range k).map (qh9 n (Xwj n))
theorem JP6 (n : Int) (k : Nat) : Q2r n (k + 1) = Q2r n k ++ [qh9 n (Xwj n) k] := by
 unfold Q2r
 rw [List.range_succ, List.map_append]
 rfl
theorem qxe (n : Int) (k : Nat) : (Q2r n k).length = k + 1 := by simp [Q2r]
instance (n : Int) : Decidable (In64 n) := by unfold In64; infer_instance
noncomputable def JQX : List AV → List AB → Option (AV × List AB)
 | [.ns, .ifc ty (.i .i64 n)], h => if ty = 3 ∧ In64 n then some (.tu [apS Xdl h.length (JDl n), .b (decide (0 ≤ n))], h ++ [resB Xdl true (JDl n)]) else none
 | _, _ => none
theorem z4m : Spec Try.prog 75 JQX := by
 intro args h v h' e
 unfold JQX at e
 split at e
 ·rename_i ty n
  split at e
  ·rename_i hty
   obtain ⟨rfl, hn⟩ := hty
   cases e
   refine FnAt.c (FnAt.run (by kernel_rfl) (T := ⟨[⟨78, KaM, fun _ => []⟩], []⟩) ⟨⟨ZYj, trivial⟩, trivial⟩ Try.func75 sw75 fun ho hh => ?_)
   unfold w75
   have z3 : (1 * 1 ≤ 140737488355328 ∧ 1 ≤ maxLen) = True := eq_true ⟨by decide, by unfold maxLen; omega⟩
   have sb := KhV n
   by_cases g1 : Xwj n = 0
   ·have g1' : ((Xwj n : Int) = 0) = True := eq_true (by omega)
    have he : JDl n = [UInt8.ofInt n] := by unfold JDl; rw [if_pos g1]
    rw [he]
    simp only [JaG, Qv6, Zsz, qtO, quq, simprocAttr, CO.tmps, Opd.tmps, optT, Nat.reducePow, Nat.reduceDiv, Nat.reduceMod, Ysq, z5S, KaM, g1', KqS, qAJ, X41, ztu, X3l, q8C, QVJ, X8j, z3]
    exact Bt.sel [1] hh (by decide) (by simp only [YmE, FrSel, BlkSel, AV.ren, renL, AV.ok, okL, Option.some.injEq, exists_eq_left', List.length_cons, List.length_nil, Nat.reduceAdd, Nat.reduceLT, reduceCtorEq, implies_true, exists_eq', qcf, XA7]) (by simp only [YmE, FrSel, BlkSel, AV.ren, renL, AV.ok, okL, Option.some.injEq, exists_eq_left', List.length_cons, List.length_nil, Nat.reduceAdd, Nat.reduceLT, reduceCtorEq, implies_true, exists_eq', zWs, Xcx])
   ·have g1' : ((Xwj n : Int) = 0) = False := eq_false (by omega)
    have he : JDl n = Q2r n (Xwj n) := by unfold JDl; rw [if_neg g1]; rfl
    have hp : 0 ≤ n := by
     have : ¬ n < 192 := fun q => g1 (by unfold Xwj; rw [if_pos q])
     omega
    have e1 : IntKind.i64.wrap (191 + (Xwj n : Int)) = 191 + (Xwj n : Int) := KqM (by unfold In64; omega)
    have e2 : IntKind.i64.wrap ((Xwj n : Int) - 1) = (Xwj n : Int) - 1 := KqM (by unfold In64; omega)
    rw [he]
    simp only [JaG, Qv6, Zsz, qtO, quq, simprocAttr, CO.tmps, Opd.tmps, optT, Nat.reducePow, Nat.reduceDiv, Nat.reduceMod, Ysq, z5S, KaM, g1', e1, KqS, qAJ, X41, ztu, X3l, q8C, QVJ, X8j, z3]
    refine JRq (S := Nat) (fun k => Xwj n - k) (fun k => [apS Xdl (h.length + 0) (Q2r n k)] ++ tp 5 ++ [.i .i64 n, .i .i64 (Xwj n)] ++ tp 30 ++ [.i .i64 (Xwj n), .i .i64 k] ++ tp 117) (fun k => h ++ [resB Xdl true (Q2r n k)]) (fun k => k ≤ Xwj n) 0 (Nat.zero_le _) ?_ fun k hk => ?_
    ·simp only [show Q2r n 0 = [UInt8.ofInt (191 + Xwj n)] from rfl, zWs, qcf, XA7]
     exact Bt.sel [1] hh (by decide) (by simp only [YmE, FrSel, BlkSel, AV.ren, renL, AV.ok, okL, Option.some.injEq, exists_eq_left', List.length_cons, List.length_nil, Nat.reduceAdd, Nat.reduceLT, reduceCtorEq, implies_true, exists_eq']) (by simp only [tp_0, tp_s, ZsF, YSa, Int.natCast_zero, YmE, FrSel, BlkSel, AV.ren, renL, AV.ok, okL, Option.some.injEq, exists_eq_left', List.length_cons, List.length_nil, Nat.reduceAdd, Nat.reduceLT, reduceCtorEq, implies_true, exists_eq', Xcx])
    ·by_cases gi : k < Xwj n
     ·have gi' : ((k : Int) < (Xwj n : Int)) = True := eq_true (by omega)
      have q1 : IntKind.i64.wrap ((k : Int) + 1) = ((k + 1 : Nat) : Int) := KqM (by unfold In64; omega)
      have q2 : IntKind.i64.wrap ((Xwj n : Int) - 1 - (k : Int)) = ((Xwj n - 1 - k : Nat) : Int) := by
       rw [show (Xwj n : Int) - 1 - (k : Int) = ((Xwj n - 1 - k : Nat) : Int) by omega]
       exact KqM (by unfold In64; omega)
      have q3 : IntKind.i64.wrap (8 * ((Xwj n - 1 - k : Nat) : Int)) = ((8 * (Xwj n - 1 - k) : Nat) : Int) := by
       rw [Int.natCast_mul]
       exact KqM (by unfold In64; omega)
      have q4 : min (8 * (Xwj n - 1 - k)) 64 = 8 * (Xwj n - 1 - k) := by omega
      have q5 : Int.fdiv n (2 ^ (8 * (Xwj n - 1 - k))) = n / 2 ^ (8 * (Xwj n - 1 - k)) := Int.fdiv_eq_ediv_of_nonneg _ (Int.le_of_lt (Int.pow_pos (by decide)))
      have hB : (Q2r n k).length ≠ 0 := by rw [qxe]; omega
      have gr : ∀ id, apS Xdl id (Q2r n k) = rsl Xdl id (Q2r n k) := fun id => ZLk _ hB
      have lo := qxe n k
      have fa := fun L j ys hb => qK0 (h := h) (p := h.length) rfl (r := Xdl) (sz := 1) rfl L j (Q2r n k) 1 1 ys hB hb (by decide) (by omega) (by unfold maxLen; omega)
      simp only [gr, Zsz, qtO, quq, simprocAttr, CO.tmps, Opd.tmps, optT, Nat.reducePow, Nat.reduceDiv, Nat.reduceMod, gi', q1, e2, q2, q3, q4, q5, zCe, KOV, ZIZ, KqS, qAJ, X41, ztu, X3l, q8C, QVJ, fa]
      refine ⟨k + 1, gi, by dsimp only; omega, ?_⟩
      have hst : apS Xdl (h.length + 0) (Q2r n (k + 1)) = .sl (h.length + 0) 0 ((Q2r n k).length + 1) ((Q2r n k).length + 1) (some 1) := by rw [JP6, qFt, Xcx]
      have hst2 : resB Xdl true (Q2r n (k + 1)) = .blk true true (Xdl.cells (Q2r n k) ++ [u8A (qh9 n (Xwj n) k)]) := by rw [JP6, XtT, XA7]
      simp only [hst, hst2]
      exact Bt.sel [2] hh (by decide) (by simp only [YmE, FrSel, BlkSel, AV.ren, renL, AV.ok, okL, Option.some.injEq, exists_eq_left', List.length_cons, List.length_nil, Nat.reduceAdd, Nat.reduceLT, reduceCtorEq, implies_true, exists_eq', qh9]) (by simp only [YmE, FrSel, BlkSel, AV.ren, renL, AV.ok, okL, Option.some.injEq, exists_eq_left', List.length_cons, List.length_nil, Nat.reduceAdd, Nat.reduceLT, reduceCtorEq, implies_true, exists_eq'])
     ·obtain rfl : k = Xwj n := by omega
      have gi' : ((Xwj n : Int) < (Xwj n : Int)) = False := eq_false (by omega)
      have gp := eq_true hp
      simp only [Zsz, qtO, quq, simprocAttr, CO.tmps, Opd.tmps, optT, Nat.reducePow, Nat.reduceDiv, Nat.reduceMod, gi']
      exact Bt.eq (by rw [decide_eq_true hp]; rfl) rfl
  ·cases e
 ·cases e
end Go.Proofs.Ytpoojfnmhnedpaa
end
section
namespace Go.Proofs.Ytpoojfnmhnedpaa
set_option maxRecDepth 100000
set_option maxHeartbeats 4000000
theorem Bt.selO {P : Program} {h g l l' : List AB} {fr fr' : List AV} (sel : List Nat) (hlen : g.length = h.length) (hold : ∀ (i : Nat) B', g[i]? = some B' → (h[i]? = some B' ∧ B'.ok (fun i => decide (i < h.length)) = true) ∨ (∃ B, h[i]? = some B ∧ BWk (fun i => decide (i < h.length + sel.length)) (selN h.length sel) B' B)) (hnd : sel.Nodup) (hb : BlkSel h.length sel sel.length l sel l') (hfr : FrSel h.length sel sel.length fr fr') : Bt P h.length fr (h ++ l) fr' (g ++ l') := by
 intro ρ w cs hp r v
 obtain ⟨b1, b2⟩ := hb.get
 obtain ⟨f1, f2⟩ := hfr.get
 have hlt : ∀ (i k : Nat), sel[i]? = some k → k < l.length := fun i k hk => by
  have hi : i < l'.length := by rw [b1]; exact (List.getElem?_eq_some_iff.1 hk).1
  obtain ⟨k', B, q1, q2, _⟩ := b2 i l'[i] (List.getElem?_eq_getElem hi)
  rw [hk] at q1
  cases q1
  exact (List.getElem?_eq_some_iff.1 q2).1
 have hρ := r.len
 rw [List.length_append] at hρ
 let ρ' : Mp := ρ.take h.length ++ sel.map fun k => ρ.getD (h.length + k) (0, 0, 0)
 have old : ∀ i, i < h.length → ρ'[i]? = ρ[i]? := fun i hi => by
  simp only [ρ']
  rw [List.getElem?_append_left (by rw [List.length_take]; omega), List.getElem?_take, if_pos hi]
 have new : ∀ i k, sel[i]? = some k → ρ'[h.length + i]? = ρ[h.length + k]? := fun i k hk => by
  have := hlt i k hk
  simp only [ρ']
  rw [List.getElem?_append_right (by rw [List.length_take]; omega), List.length_take, show h.length + i - min h.length ρ.length = i by omega, List.getElem?_map, hk, Option.map_some, List.getD_eq_getElem?_getD, List.getElem?_eq_getElem (by omega : h.length + k < ρ.length)]
  rfl
 have hq : ∀ i, (fun i => decide (i < h.length + sel.length)) i = true → ρ'[i]? = ρ[selN h.length sel i]? := fun i hi => by
  by_cases h1 : i < h.length
  ·rw [Zat h1, old i h1]
  ·obtain ⟨k, rfl⟩ : ∃ k, i = h.length + k := ⟨i - h.length, by omega⟩
   have hk : k < sel.length := by simp only [decide_eq_true_eq] at hi; omega
   rw [YiF, List.getD_eq_getElem?_getD, List.getElem?_eq_getElem hk]
   exact new k _ (List.getElem?_eq_getElem hk)
 have cls : ∀ i B', (g ++ l')[i]? = some B' → (i < h.length ∧ h[i]? = some B' ∧ B'.ok (fun i => decide (i < h.length)) = true) ∨ (∃ j B, (h ++ l)[j]? = some B ∧ ρ'[i]? = ρ[j]? ∧ ((i < h.length ∧ j = i) ∨ (∃ i' k, i = h.length + i' ∧ sel[i']? = some k ∧ j = h.length + k)) ∧ BWk (fun i => decide (i < h.length + sel.length)) (selN h.length sel) B' B) := fun i B' hB => by
  rw [List.getElem?_append] at hB
  split at hB
  ·rename_i hlt'
   rw [hlen] at hlt'
   rcases hold i B' hB with ⟨q, qo⟩ | ⟨B, q, qb⟩
   ·exact .inl ⟨hlt', q, qo⟩
   ·exact .inr ⟨i, B, by rw [List.getElem?_append_left hlt']; exact q, old i hlt', .inl ⟨hlt', rfl⟩, qb⟩
  ·rename_i hge
   rw [hlen] at hge hB
   obtain ⟨k, B, q1, q2, q3⟩ := b2 _ B' hB
   refine .inr ⟨h.length + k, B, ?_, ?_, .inr ⟨i - h.length, k, by omega, q1, rfl⟩, q3⟩
   ·rw [List.getElem?_append_right (by omega), Nat.add_sub_cancel_left]
    exact q2
   ·have := new _ k q1
    rw [show h.length + (i - h.length) = i by omega] at this
    exact this
 have up : ∀ i B' x, (g ++ l')[i]? = some B' → ρ'[i]? = some x → ∃ j B, (h ++ l)[j]? = some B ∧ ρ[j]? = some x ∧ (B'.mut = true → B.mut = true) ∧ (B'.live = true → B.live = true) ∧ ((i < h.length ∧ j = i) ∨ (∃ i' k, i = h.length + i' ∧ sel[i']? = some k ∧ j = h.length + k)) := fun i B' x hB hx => by
  rcases cls i B' hB with ⟨hi, q, _⟩ | ⟨j, B, q1, q2, q3, q4⟩
  ·exact ⟨i, B', by rw [List.getElem?_append_left hi]; exact q, by rw [← old i hi]; exact hx, id, id, .inl ⟨hi, rfl⟩⟩
  ·exact ⟨j, B, q1, by rw [← q2]; exact hx, q4.mut, q4.live, q3⟩
 refine ⟨by rw [List.length_append, b1, hlen]; omega, ρ', ⟨f1.trans v.1, fun j a' c ha hc => ?_⟩, ⟨?_, fun i B' b o n hB hx => ?_, fun i j bi oi bj oj Bi Bj hne h1 h2 h3 h4 hm hl => ?_⟩, fun b ⟨i, B', o, h1, h2, h3⟩ => ?_, fun i b ⟨B', o, h1, h2, h3⟩ => ?_, fun i hi => ?_⟩
 ·rcases f2 j a' ha with rfl | ⟨q1, a, q2, q3⟩
  ·exact .top c
  ·exact VR.ren_down hq a' q1 c (q3 ρ c (v.2 j a c q2 hc))
 ·simp only [ρ', List.length_append, List.length_take, List.length_map, b1, hlen]
  omega
 ·rcases cls i B' hB with ⟨hi, q, qo⟩ | ⟨j, B, q1, q2, q3, q4⟩
  ·have := r.blk i B' b o n (by rw [List.getElem?_append_left hi]; exact q) (by rw [← old i hi]; exact hx)
   exact this.agree (q := fun i => decide (i < h.length)) (fun i hi => old i (by simpa using hi)) qo (fun _ => rfl)
  ·exact q4.br hq (r.blk _ B b o n q1 (by rw [← q2]; exact hx))
 ·obtain ⟨i', Ci, u1, u2, u3, _, u5⟩ := up i Bi _ h1 h3
  obtain ⟨j', Cj, z1, z2, _, z4, z5⟩ := up j Bj _ h2 h4
  refine r.sep i' j' bi oi bj oj Ci Cj (fun e => hne ?_) u1 z1 u2 z2 (u3 hm) (z4 hl)
  subst e
  rcases u5 with ⟨x1, x2⟩ | ⟨s, k, x1, x2, x3⟩ <;> rcases z5 with ⟨y1, y2⟩ | ⟨t, m, y1, y2, y3⟩
  ·omega
  ·omega
  ·omega
  ·have : k = m := by omega
   subst this
   have := (List.getElem?_inj (List.getElem?_eq_some_iff.1 x2).1 hnd).1 (x2.trans y2.symm)
   omega
 ·obtain ⟨j, B, q1, q2, q3, _, _⟩ := up i B' _ h1 h3
  exact ⟨j, B, o, q1, q3 h2, q2⟩
 ·obtain ⟨j, B, q1, q2, _, q4, q5⟩ := up i B' _ h1 h3
  refine ⟨j, ⟨B, o, q1, q4 h2, q2⟩, fun hi => ?_, fun hi => ?_⟩
  ·rcases q5 with ⟨_, x⟩ | ⟨s, k, x, y, z⟩
   ·exact x
   ·omega
  ·rcases q5 with ⟨x, _⟩ | ⟨s, k, z, y, x⟩
   ·omega
   ·omega
 ·exact old i hi
end Go.Proofs.Ytpoojfnmhnedpaa
end
section
namespace Go.Proofs.Ytpoojfnmhnedpaa
set_option maxRecDepth 100000
set_option maxHeartbeats 4000000
open Classical in
noncomputable def Zwn (a : AV) : Option Dg := if e : ∃ y, a = .ag (idR.f y) then some e.choose else none
theorem XiO (y : Dg) : Zwn (.ag (idR.f y)) = some y := by
 unfold Zwn
 have hx : ∃ z, AV.ag (idR.f y) = .ag (idR.f z) := ⟨y, rfl⟩
 rw [dif_pos hx]
 have := hx.choose_spec
 injection this with h
 rw [idR.inj _ _ h.symm]
theorem zTt {a : AV} {y : Dg} (e : Zwn a = some y) : a = .ag (idR.f y) := by
 unfold Zwn at e
 split at e
 ·rename_i h
  cases e
  exact h.choose_spec
 ·cases e
noncomputable def encV (ty : TypeId) (v : AV) : Option (List UInt8 × Bool) :=
 if ty = 3 then (match v with
  | .i .i64 n => if In64 n then some (JDl n, decide (0 ≤ n)) else none
  | _ => none)
 else if ty = 9 then (match v with
  | .s l => if l.length ≤ 1000000 then some (JDl l.length ++ l, true) else none
  | _ => none)
 else if ty = 23 then (Zwn v).map fun d => (d.l, true)
 else none
noncomputable def Jdy : List AV → List AB → Option (AV × List AB)
 | [.ns, .ifc ty v], h => (encV ty v).map fun p => (.tu [apS Xdl h.length p.1, .b p.2], h ++ [resB Xdl true p.1])
 | _, _ => none
theorem YEB (l : List UInt8) : (AV.s l).isStr = true := _root_.id rfl
theorem Quq (l : List UInt8) : lenV (.s l) = some (l.length : Int) := _root_.id rfl
theorem Qcl (h : List AB) (l : List UInt8) : srcV h 1 (.s l) = some (l.length, Xdl.cells l) := by
 rw [Yq4]
 rfl
theorem q9B {r : Row UInt8} (id : Nat) {l m : List UInt8} (h0 : l.length ≠ 0) : apS r id (l ++ m) = .sl id 0 (l.length + m.length) (l.length + m.length) (some r.sz) := by
 unfold apS
 rw [if_neg (by rw [List.length_append]; omega), List.length_append]
theorem ZzH {l m : List UInt8} (h0 : l.length ≠ 0) : resB Xdl true (l ++ m) = .blk true true (Xdl.cells l ++ Xdl.cells m) := by
 unfold resB
 rw [if_neg (by rw [List.length_append]; omega)]
 simp only [Row.cells, List.flatMap_append]
theorem XtS (n : Int) : (JDl n).length ≠ 0 := by
 unfold JDl
 split <;> simp
theorem XXK : Spec Try.prog 75 Jdy := by
 intro args h v h' e
 unfold Jdy at e
 split at e
 ·rename_i ty x
  obtain ⟨p, hp, e⟩ := Option.map_eq_some_iff.1 e
  cases e
  unfold encV at hp
  split at hp
  ·rename_i ht
   split at hp
   ·rename_i n
    split at hp
    ·rename_i hn
     cases hp
     exact z4m _ _ _ _ (if_pos ⟨ht, hn⟩)
    ·cases hp
   ·cases hp
  split at hp
  ·rename_i ht
   subst ht
   split at hp
   ·rename_i l
    split at hp
    ·rename_i hl
     cases hp
     refine FnAt.c (FnAt.run (by kernel_rfl) (T := ⟨[⟨75, JQX, fun _ => []⟩], []⟩) ⟨⟨z4m, trivial⟩, trivial⟩ Try.func75 sw75 fun ho hh => ?_)
     have w1 : (In64 (l.length : Int)) = True := eq_true (by unfold In64; omega)
     have fs := fun (L : List AB) => Qcl (h ++ L) l
     have gr : ∀ id, apS Xdl id (JDl l.length) = rsl Xdl id (JDl l.length) := fun id => ZLk _ (XtS _)
     unfold w75
     by_cases h0 : l = []
     ·have fz : ∀ H id ys, appW H true 1 1 (apS Xdl id (JDl l.length)) l.length ys = some (apS Xdl id (JDl l.length), H) := fun H id ys => by
       rw [h0]
       rfl
      simp only [JaG, Qv6, Zsz, qtO, quq, simprocAttr, CO.tmps, Opd.tmps, optT, Nat.reducePow, Nat.reduceDiv, Nat.reduceMod, Ysq, z5S, JQX, w1, fs, YEB, Quq, Zs6, fz]
      exact Bt.eq (by rw [h0, List.append_nil]; rfl) (by rw [h0, List.append_nil])
     ·have hl0 : l.length ≠ 0 := fun q => h0 (List.eq_nil_of_length_eq_zero q)
      have el := ZEm l.length
      have fa := fun L k ys hb => qK0 (h := h) (p := h.length) rfl (r := Xdl) (sz := 1) rfl L k (JDl l.length) 1 l.length ys (XtS _) hb hl0 (by omega) (by unfold maxLen; omega)
      simp only [JaG, Qv6, Zsz, qtO, quq, simprocAttr, CO.tmps, Opd.tmps, optT, Nat.reducePow, Nat.reduceDiv, Nat.reduceMod, Ysq, z5S, JQX, w1, fs, YEB, Quq, gr, fa, Zs6]
      have hst := fun id => q9B (r := Xdl) id (l := JDl l.length) (m := l) (XtS _)
      have hst2 := ZzH (l := JDl l.length) (m := l) (XtS _)
      simp only [hst, hst2]
      exact Bt.sel [1] hh (by decide) (by simp only [YmE, FrSel, BlkSel, AV.ren, renL, AV.ok, okL, Option.some.injEq, exists_eq_left', List.length_cons, List.length_nil, Nat.reduceAdd, Nat.reduceLT, reduceCtorEq, implies_true, exists_eq']) ⟨.inr ⟨by simp only [YmE, FrSel, BlkSel, AV.ren, renL, AV.ok, okL, Option.some.injEq, exists_eq_left', List.length_cons, List.length_nil, Nat.reduceAdd, Nat.reduceLT, reduceCtorEq, implies_true, exists_eq'], by simp only [YmE, FrSel, BlkSel, AV.ren, renL, AV.ok, okL, Option.some.injEq, exists_eq_left', List.length_cons, List.length_nil, Nat.reduceAdd, Nat.reduceLT, reduceCtorEq, implies_true, exists_eq', Xcx]⟩, trivial⟩
    ·cases hp
   ·cases hp
  split at hp
  ·rename_i ht
   subst ht
   obtain ⟨d, hd, hp⟩ := Option.map_eq_some_iff.1 hp
   cases hp
   rw [zTt hd]
   refine FnAt.c (FnAt.run (by kernel_rfl) (T := ⟨[], []⟩) ⟨trivial, trivial⟩ Try.func75 sw75 fun ho hh => ?_)
   obtain ⟨b1, b2, b3, b4, b5⟩ := qUC d.h
   rw [show d.l.map u8A = idR.f d from rfl] at *
   have o1 : ∀ zs : List AV, zs.length = 32 → over zs 0 (idR.f d) = idR.f d := fun zs hz => ZjI zs _ (b1.trans hz.symm)
   have z3 : (32 * 1 ≤ 140737488355328 ∧ 32 ≤ maxLen) = True := eq_true ⟨by decide, by unfold maxLen; omega⟩
   have hl0 : d.l.length ≠ 0 := by rw [d.h]; decide
   have hst : ∀ id, apS Xdl id d.l = .sl id 0 32 32 (some 1) := fun id => by unfold apS; rw [if_neg hl0, d.h]; rfl
   have hst2 : resB Xdl true d.l = .blk true true (idR.f d) := by unfold resB; rw [if_neg hl0, Yq4]; rfl
   unfold w75
   simp only [JaG, Qv6, Zsz, qtO, quq, simprocAttr, CO.tmps, Opd.tmps, optT, Nat.reducePow, Nat.reduceDiv, Nat.reduceMod, Ysq, z5S, J7E, zti, Option.map_none, b1, b2, b3, b4, b5, o1, z3]
   simp only [hst, hst2]
   exact Bt.sel [1] hh (by decide) (by simp only [YmE, FrSel, BlkSel, AV.ren, renL, AV.ok, okL, Option.some.injEq, exists_eq_left', List.length_cons, List.length_nil, Nat.reduceAdd, Nat.reduceLT, reduceCtorEq, implies_true, exists_eq']) ⟨.inr ⟨by simp only [YmE, FrSel, BlkSel, AV.ren, renL, AV.ok, okL, Option.some.injEq, exists_eq_left', List.length_cons, List.length_nil, Nat.reduceAdd, Nat.reduceLT, reduceCtorEq, implies_true, exists_eq'], by simp only [YmE, FrSel, BlkSel, AV.ren, renL, AV.ok, okL, Option.some.injEq, exists_eq_left', List.length_cons, List.length_nil, Nat.reduceAdd, Nat.reduceLT, reduceCtorEq, implies_true, exists_eq', Xcx]⟩, trivial⟩
  ·cases hp
 ·cases e
end Go.Proofs.Ytpoojfnmhnedpaa
end
section
namespace Go.Proofs.Ytpoojfnmhnedpaa
set_option maxRecDepth 100000
set_option maxHeartbeats 4000000
def blkW (j : Nat) (lim : Int) (s : AV) : AB := .blk false true [.p j 0, .i .i64 lim, s]
def blkF (e : Int) : AB := .blk true true [.i .i64 e, .i .i64 0]
def XHx (s : AV) (h : List AB) : List AB := match s with
 | .sl q _ _ _ _ => h.set q .dead
 | _ => h
theorem JjW (s : AV) (h : List AB) : (XHx s h).length = h.length := by unfold XHx; split <;> simp
structure WrH (h : List AB) (i j : Nat) (lim : Int) (s : AV) (bs : List UInt8) (e : Int) : Prop where
 hi : h[i]? = some (blkW j lim s)
 hj : h[j]? = some (blkF e)
 hlim : lim ≤ 67108864
 hlen : (bs.length : Int) ≤ lim
 hs : (s = .ns ∧ bs = []) ∨ ∃ q, s = apS Xdl q bs ∧ bs.length ≠ 0 ∧ h[q]? = some (resB Xdl true bs)
section
variable {h : List AB} {i j : Nat} {lim : Int} {s : AV} {bs : List UInt8} {e : Int}
theorem WrH.ne (H : WrH h i j lim s bs e) : i ≠ j := by
 rintro rfl
 have := H.hi.symm.trans H.hj
 simp [blkW, blkF] at this
theorem WrH.il (H : WrH h i j lim s bs e) : i < h.length := (List.getElem?_eq_some_iff.1 H.hi).1
theorem WrH.jl (H : WrH h i j lim s bs e) : j < h.length := (List.getElem?_eq_some_iff.1 H.hj).1
theorem Y2I {l : List UInt8} (h0 : l.length ≠ 0) : resB Xdl true l = .blk true true (Xdl.cells l) := by unfold resB; rw [if_neg h0]
theorem YKY (q : Nat) {l : List UInt8} (h0 : l.length ≠ 0) : apS Xdl q l = .sl q 0 l.length l.length (some 1) := by unfold apS; rw [if_neg h0]; rfl
theorem WrH.q (H : WrH h i j lim s bs e) {q : Nat} (hq : s = apS Xdl q bs) (h0 : bs.length ≠ 0) : h[q]? = some (.blk true true (Xdl.cells bs)) ∧ q ≠ i ∧ q ≠ j ∧ q < h.length := by
 rcases H.hs with ⟨q1, q2⟩ | ⟨q', q1, _, q3⟩
 ·rw [q2] at h0
  exact absurd rfl h0
 ·have : q' = q := by
   rw [q1, YKY _ h0, YKY _ h0] at hq
   injection hq
  subst this
  rw [Y2I h0] at q3
  refine ⟨q3, ?_, ?_, (List.getElem?_eq_some_iff.1 q3).1⟩
  ·rintro rfl
   have := q3.symm.trans H.hi
   simp [blkW] at this
  ·rintro rfl
   have := q3.symm.trans H.hj
   simp only [blkF, Option.some.injEq, AB.blk.injEq, true_and] at this
   rw [Yq4] at this
   cases bs with
   | nil => exact h0 rfl
   | cons x l => simp [u8A] at this
theorem WrH.uniq {i : Nat} {x y : Nat × Int × AV × List UInt8 × Int} (H : WrH h i x.1 x.2.1 x.2.2.1 x.2.2.2.1 x.2.2.2.2) (K : WrH h i y.1 y.2.1 y.2.2.1 y.2.2.2.1 y.2.2.2.2) : x = y := by
 obtain ⟨j, lim, s, bs, e⟩ := x
 obtain ⟨j', lim', s', bs', e'⟩ := y
 dsimp only at H K
 have h1 := H.hi.symm.trans K.hi
 simp only [blkW, Option.some.injEq, AB.blk.injEq, List.cons.injEq, AV.p.injEq, AV.i.injEq, true_and, and_true] at h1
 obtain ⟨rfl, rfl, rfl⟩ := h1
 have h2 := H.hj.symm.trans K.hj
 simp only [blkF, Option.some.injEq, AB.blk.injEq, List.cons.injEq, AV.i.injEq, true_and, and_true] at h2
 subst h2
 have : bs = bs' := by
  rcases H.hs with ⟨q1, q2⟩ | ⟨q, q1, q2, q3⟩ <;> rcases K.hs with ⟨p1, p2⟩ | ⟨p, p1, p2, p3⟩
  ·rw [q2, p2]
  ·rw [q1, YKY _ p2] at p1; cases p1
  ·rw [p1, YKY _ q2] at q1; cases q1
  ·have hqp : p = q := by
    rw [q1, YKY _ q2, YKY _ p2] at p1
    injection p1 with p1
    exact p1.symm
   subst hqp
   exact zAb (q1.symm.trans p1) (by have := q3.symm.trans p3; injection this)
 rw [this]
open Classical in
noncomputable def wrM (h : List AB) (i : Nat) : Option (Nat × Int × AV × List UInt8 × Int) := if e : ∃ x : Nat × Int × AV × List UInt8 × Int, WrH h i x.1 x.2.1 x.2.2.1 x.2.2.2.1 x.2.2.2.2 then some e.choose else none
theorem WrH.get (H : WrH h i j lim s bs e) : wrM h i = some (j, lim, s, bs, e) := by
 have hx : ∃ x : Nat × Int × AV × List UInt8 × Int, WrH h i x.1 x.2.1 x.2.2.1 x.2.2.2.1 x.2.2.2.2 := ⟨(j, lim, s, bs, e), H⟩
 unfold wrM
 rw [dif_pos hx]
 exact congrArg some (WrH.uniq hx.choose_spec (y := (j, lim, s, bs, e)) H)
theorem Yf0 {β : Type} {f : Nat × Int × AV × List UInt8 × Int → Option β} {b : β} (q : (wrM h i).bind f = some b) : ∃ j lim s bs e, WrH h i j lim s bs e ∧ f (j, lim, s, bs, e) = some b := by
 obtain ⟨x, h1, h2⟩ := Option.bind_eq_some_iff.1 q
 unfold wrM at h1
 split at h1
 ·rename_i hx
  cases h1
  exact ⟨_, _, _, _, _, hx.choose_spec, h2⟩
 ·cases h1
def wX (h : List AB) (i j : Nat) (lim : Int) (s : AV) (st : List UInt8 × Int) : Option Nat → List AB
 | none => h.set j (blkF st.2)
 | some k => ((XHx s h).set i (blkW j lim (apS Xdl (h.length + k) st.1))).set j (blkF st.2)
def wK (h : List AB) (s : AV) (st : List UInt8 × Int) : Option Nat → AV
 | none => s
 | some k => apS Xdl (h.length + k) st.1
def WInv (d : Nat) (bs : List UInt8) (st : List UInt8 × Int) (L : List AB) : Option Nat → Prop
 | none => st.1 = bs
 | some k => d ≤ k ∧ bs.length < st.1.length ∧ L[k]? = some (resB Xdl true st.1)
noncomputable def wOut (h : List AB) (i j : Nat) (lim : Int) (s : AV) (bs : List UInt8) (st : List UInt8 × Int) : List AB := wX h i j lim s st (if st.1 = bs then none else some 0) ++ [if st.1 = bs then .dead else resB Xdl true st.1]
noncomputable def wPut (h : List AB) (i : Nat) (enc : List UInt8) (ok : Bool) : Option (AV × List AB) := (wrM h i).bind fun x => some (.i .i64 (wput x.2.1 x.2.2.2.1 x.2.2.2.2 enc ok).2, wOut h i x.1 x.2.1 x.2.2.1 x.2.2.2.1 (wput x.2.1 x.2.2.2.1 x.2.2.2.2 enc ok))
noncomputable def wSeq (f : Int → List UInt8 × Int → List UInt8 × Int) (h : List AB) (i : Nat) : Option (AV × List AB) := (wrM h i).bind fun x => some (.tu [], wOut h i x.1 x.2.1 x.2.2.1 x.2.2.2.1 (f x.2.1 (x.2.2.2.1, x.2.2.2.2)))
structure FOk (f : Int → List UInt8 × Int → List UInt8 × Int) : Prop where
 le : ∀ lim st, (st.1.length : Int) ≤ lim → ((f lim st).1.length : Int) ≤ lim
 grow : ∀ lim st, (f lim st).1 = st.1 ∨ st.1.length < (f lim st).1.length
theorem Yf1 (st : List UInt8 × Int) (k : Option Nat) : (wX h i j lim s st k).length = h.length := by
 cases k with
 | none => simp [wX]
 | some k => simp [wX, JjW]
theorem wX_j (H : WrH h i j lim s bs e) (st : List UInt8 × Int) (k : Option Nat) : (wX h i j lim s st k)[j]? = some (blkF st.2) := by
 have := H.jl
 cases k with
 | none => simp only [wX]; rw [List.getElem?_set_self this]
 | some k => simp only [wX]; rw [List.getElem?_set_self (by rw [List.length_set, JjW]; exact this)]
theorem wX_i (H : WrH h i j lim s bs e) (st : List UInt8 × Int) (k : Option Nat) : (wX h i j lim s st k)[i]? = some (blkW j lim (wK h s st k)) := by
 have := H.il
 cases k with
 | none => simp only [wX, wK]; rw [List.getElem?_set_ne (Ne.symm H.ne), H.hi]
 | some k => simp only [wX, wK]; rw [List.getElem?_set_ne (Ne.symm H.ne), List.getElem?_set_self (by rw [JjW]; exact this)]
theorem KeF {s : AV} {h : List AB} {k : Nat} (hk : k ∉ idOf s) : (XHx s h)[k]? = h[k]? := by
 unfold XHx
 split
 ·rw [List.getElem?_set_ne (fun q => hk (by rw [q]; simp [idOf]))]
 ·rfl
theorem Q7n (st : List UInt8 × Int) (k : Option Nat) {m : Nat} (h1 : m ≠ i) (h2 : m ≠ j) (h3 : m ∉ idOf s) : (wX h i j lim s st k)[m]? = h[m]? := by
 cases k with
 | none => simp only [wX]; rw [List.getElem?_set_ne (Ne.symm h2)]
 | some k => simp only [wX]; rw [List.getElem?_set_ne (Ne.symm h2), List.getElem?_set_ne (Ne.symm h1), KeF h3]
theorem Ztp (bs' : List UInt8) (e e' : Int) (k : Option Nat) : (wX h i j lim s (bs', e) k).set j (blkF e') = wX h i j lim s (bs', e') k := by
 cases k with
 | none => simp only [wX]; rw [List.set_set]
 | some k => simp only [wX]; rw [List.set_set]
theorem qNk (H : WrH h i j lim s bs e) {st : List UInt8 × Int} {k : Option Nat} {d : Nat} {L : List AB} (I : WInv d bs st L k) (hl : (st.1.length : Int) ≤ lim) : WrH (wX h i j lim s st k ++ L) i j lim (wK h s st k) st.1 st.2 := by
 have hil := H.il
 have hjl := H.jl
 refine ⟨?_, ?_, H.hlim, hl, ?_⟩
 ·rw [List.getElem?_append_left (by rw [Yf1]; exact hil), wX_i H]
 ·rw [List.getElem?_append_left (by rw [Yf1]; exact hjl), wX_j H]
 ·cases k with
  | none =>
   have hb : st.1 = bs := I
   rcases H.hs with ⟨q1, q2⟩ | ⟨q, q1, q2, q3⟩
   ·exact .inl ⟨q1, by rw [hb, q2]⟩
   ·obtain ⟨p1, p2, p3, p4⟩ := H.q q1 q2
    refine .inr ⟨q, by rw [hb]; exact q1, by rw [hb]; exact q2, ?_⟩
    rw [List.getElem?_append_left (by rw [Yf1]; exact p4), hb]
    simp only [wX]
    rw [List.getElem?_set_ne (Ne.symm p3)]
    exact q3
  | some k =>
   obtain ⟨_, i1, i2⟩ := I
   refine .inr ⟨h.length + k, rfl, by omega, ?_⟩
   rw [List.getElem?_append_right (by rw [Yf1]; omega), Yf1, Nat.add_sub_cancel_left]
   exact i2
theorem zFL (lim : Int) (st : List UInt8 × Int) (enc : List UInt8) (ok : Bool) : (wput lim st.1 st.2 enc ok).1 = st.1 ∨ (wput lim st.1 st.2 enc ok).1 = st.1 ++ enc := by
 unfold wput
 split
 ·split
  ·split
   ·exact .inl rfl
   ·exact .inr rfl
  ·exact .inl rfl
 ·exact .inl rfl
theorem Y28 (lim : Int) (st : List UInt8 × Int) (enc : List UInt8) (ok : Bool) : (wput lim st.1 st.2 enc ok).1 = st.1 ∨ st.1.length < (wput lim st.1 st.2 enc ok).1.length := by
 rcases zFL lim st enc ok with q | q
 ·exact .inl q
 ·cases enc with
  | nil => exact .inl (by rw [q, List.append_nil])
  | cons a l => exact .inr (by rw [q, List.length_append, List.length_cons]; omega)
theorem XbJ (H : WrH h i j lim s bs e) {st st' : List UInt8 × Int} {k : Option Nat} {D R : List AB} (I : WInv D.length bs st (D ++ R) k) (hle : (st'.1.length : Int) ≤ lim) (hg : st'.1 = st.1 ∨ st.1.length < st'.1.length) : ∃ k' R', wOut (wX h i j lim s st k ++ (D ++ R)) i j lim (wK h s st k) st.1 st' = wX h i j lim s st' k' ++ (D ++ R') ∧ WInv D.length bs st' (D ++ R') k' := by
 have hlen : (wX h i j lim s st k ++ (D ++ R)).length = h.length + (D ++ R).length := by rw [List.length_append, Yf1]
 have hil := H.il
 have hjl := H.jl
 unfold wOut
 have g2 : ∀ (A : List AB) (W0 W F0 F1 : AB), (((A.set i W0).set j F0).set i W).set j F1 = (A.set i W).set j F1 := fun A W0 W F0 F1 => by
  rw [List.set_comm _ _ (Ne.symm H.ne), List.set_set, List.set_set]
 by_cases hs : st'.1 = st.1
 ·rw [if_pos hs, if_pos hs]
  have e1 : wX (wX h i j lim s st k ++ (D ++ R)) i j lim (wK h s st k) st' none ++ [.dead] = wX h i j lim s st' k ++ (D ++ (R ++ [.dead])) := by
   show (wX h i j lim s st k ++ (D ++ R)).set j (blkF st'.2) ++ [.dead] = _
   rw [List.set_append_left _ _ (by rw [Yf1]; exact hjl), show st = (st.1, st.2) from rfl, Ztp, ← hs]
   simp only [List.append_assoc]
  refine ⟨k, R ++ [.dead], by rw [e1], ?_⟩
  cases k with
  | none => exact hs.trans I
  | some k =>
   obtain ⟨i0, i1, i2⟩ := I
   refine ⟨i0, by rw [hs]; exact i1, ?_⟩
   rw [← List.append_assoc, List.getElem?_append_left (List.getElem?_eq_some_iff.1 i2).1, hs]
   exact i2
 ·rw [if_neg hs, if_neg hs]
  have hlt := hg.resolve_left hs
  have e0 : (wX h i j lim s st k ++ (D ++ R)).length + 0 = h.length + (D ++ R).length := by rw [hlen, Nat.add_zero]
  cases k with
  | none =>
   have hb : st.1 = bs := I
   have e1 : wX (wX h i j lim s st none ++ (D ++ R)) i j lim s st' (some 0) ++ [resB Xdl true st'.1] = wX h i j lim s st' (some (D ++ R).length) ++ (D ++ (R ++ [resB Xdl true st'.1])) := by
    show ((XHx s (wX h i j lim s st none ++ (D ++ R))).set i (blkW j lim (apS Xdl ((wX h i j lim s st none ++ (D ++ R)).length + 0) st'.1))).set j (blkF st'.2) ++ [resB Xdl true st'.1] = _
    rw [e0]
    have k1 : XHx s (wX h i j lim s st none ++ (D ++ R)) = (XHx s h).set j (blkF st.2) ++ (D ++ R) := by
     rcases H.hs with ⟨q1, q2⟩ | ⟨q, q1, q2, q3⟩
     ·rw [q1]; rfl
     ·obtain ⟨p1, p2, p3, p4⟩ := H.q q1 q2
      rw [q1, YKY _ q2]
      simp only [XHx, wX]
      rw [List.set_append_left _ _ (by rw [List.length_set]; exact p4), List.set_comm _ _ (Ne.symm p3)]
    rw [k1, List.set_append_left _ _ (by rw [List.length_set, JjW]; exact hil), List.set_append_left _ _ (by rw [List.length_set, List.length_set, JjW]; exact hjl), List.set_comm _ _ (Ne.symm H.ne), List.set_set]
    simp only [wX, List.append_assoc]
   refine ⟨some (D ++ R).length, R ++ [resB Xdl true st'.1], by simp only [wK]; rw [e1], ⟨by rw [List.length_append]; omega, by rw [← hb]; exact hlt, ?_⟩⟩
   rw [← List.append_assoc, List.getElem?_append_right (Nat.le_refl _), Nat.sub_self]
   rfl
  | some k =>
   obtain ⟨i0, i1, i2⟩ := I
   have hk := (List.getElem?_eq_some_iff.1 i2).1
   have h0 : st.1.length ≠ 0 := by omega
   have e2 : (D ++ R).set k .dead = D ++ R.set (k - D.length) .dead := List.set_append_right _ _ i0
   have e1 : wX (wX h i j lim s st (some k) ++ (D ++ R)) i j lim (wK h s st (some k)) st' (some 0) ++ [resB Xdl true st'.1] = wX h i j lim s st' (some (D ++ R).length) ++ (D ++ (R.set (k - D.length) .dead ++ [resB Xdl true st'.1])) := by
    show ((XHx (wK h s st (some k)) (wX h i j lim s st (some k) ++ (D ++ R))).set i (blkW j lim (apS Xdl ((wX h i j lim s st (some k) ++ (D ++ R)).length + 0) st'.1))).set j (blkF st'.2) ++ [resB Xdl true st'.1] = _
    rw [e0]
    have k1 : XHx (wK h s st (some k)) (wX h i j lim s st (some k) ++ (D ++ R)) = wX h i j lim s st (some k) ++ (D ++ R.set (k - D.length) .dead) := by
     simp only [wK]
     rw [YKY _ h0]
     show (wX h i j lim s st (some k) ++ (D ++ R)).set (h.length + k) .dead = _
     rw [List.set_append_right _ _ (by rw [Yf1]; omega), Yf1, Nat.add_sub_cancel_left, e2]
    rw [k1, List.set_append_left _ _ (by rw [Yf1]; exact hil), List.set_append_left _ _ (by rw [List.length_set, Yf1]; exact hjl)]
    have g3 := g2 (XHx s h) (blkW j lim (apS Xdl (h.length + k) st.1)) (blkW j lim (apS Xdl (h.length + (D ++ R).length) st'.1)) (blkF st.2) (blkF st'.2)
    simp only [wX]
    rw [g3]
    simp only [List.append_assoc]
   refine ⟨some (D ++ R).length, R.set (k - D.length) .dead ++ [resB Xdl true st'.1], by rw [e1], ⟨by rw [List.length_append]; omega, by omega, ?_⟩⟩
   rw [← List.append_assoc, ← e2, List.getElem?_append_right (by rw [List.length_set]; exact Nat.le_refl _), List.length_set, Nat.sub_self]
   rfl
theorem ZNh (H : WrH h i j lim s bs e) {st : List UInt8 × Int} {k : Option Nat} {D R : List AB} (I : WInv D.length bs st (D ++ R) k) (hl : (st.1.length : Int) ≤ lim) (enc : List UInt8) (ok : Bool) : ∃ k' R', wPut (wX h i j lim s st k ++ (D ++ R)) i enc ok = some (.i .i64 (wput lim st.1 st.2 enc ok).2, wX h i j lim s (wput lim st.1 st.2 enc ok) k' ++ (D ++ R')) ∧ WInv D.length bs (wput lim st.1 st.2 enc ok) (D ++ R') k' ∧ ((wput lim st.1 st.2 enc ok).1.length : Int) ≤ lim := by
 have hle := ZYd lim st.1 st.2 enc ok hl
 obtain ⟨k', R', q1, q2⟩ := XbJ H I hle (Y28 lim st enc ok)
 refine ⟨k', R', ?_, q2, hle⟩
 unfold wPut
 rw [(qNk H I hl).get, Option.bind_some, q1]
theorem zKp (H : WrH h i j lim s bs e) {f : Int → List UInt8 × Int → List UInt8 × Int} (F : FOk f) {st : List UInt8 × Int} {k : Option Nat} {D R : List AB} (I : WInv D.length bs st (D ++ R) k) (hl : (st.1.length : Int) ≤ lim) : ∃ k' R', wSeq f (wX h i j lim s st k ++ (D ++ R)) i = some (.tu [], wX h i j lim s (f lim st) k' ++ (D ++ R')) ∧ WInv D.length bs (f lim st) (D ++ R') k' ∧ ((f lim st).1.length : Int) ≤ lim := by
 have hle := F.le lim st hl
 obtain ⟨k', R', q1, q2⟩ := XbJ H I hle (F.grow lim st)
 refine ⟨k', R', ?_, q2, hle⟩
 unfold wSeq
 rw [(qNk H I hl).get, Option.bind_some, q1]
theorem wX_0 (H : WrH h i j lim s bs e) : wX h i j lim s (bs, e) none = h := by
 simp only [wX]
 exact Xn5 H.hj
theorem qbQ {P : Program} (H : WrH h i j lim s bs e) (hh : HOk h) {st : List UInt8 × Int} {k : Option Nat} {d : Nat} {L : List AB} (I : WInv d bs st L k) (v : AV) (hv : (v.fl || match v with | .tu [] => true | _ => false) = true) :
  Bt P h.length [v] (wX h i j lim s st k ++ L) [v] (wOut h i j lim s bs st) := by
 unfold wOut
 have hil := H.il
 have hjl := H.jl
 have hvo : ∀ q, v.ok q = true := fun q => by
  cases v <;> first | rfl | (cases hv; done) | skip
  rename_i l
  cases l <;> first | rfl | (cases hv; done)
 have hvr : ∀ f, v.ren f = v := fun f => by
  cases v <;> first | rfl | (cases hv; done) | skip
  rename_i l
  cases l <;> first | rfl | (cases hv; done)
 cases k with
 | none =>
  have hb : st.1 = bs := I
  rw [if_pos hb, if_pos hb]
  have hok : HOk (wX h i j lim s st none) := fun m B hB => by
   rw [Yf1]
   simp only [wX] at hB
   by_cases hm : m = j
   ·subst hm
    rw [List.getElem?_set_self hjl] at hB
    cases hB
    rfl
   ·rw [List.getElem?_set_ne (Ne.symm hm)] at hB
    exact hh m B hB
  have h1 := Bt.drop (P := P) (h := wX h i j lim s st none) (v := v) (a := v) L hok rfl (hvo _)
  have h2 := Bt.pad (P := P) (p := h.length) [v] (wX h i j lim s st none) 1
  rw [Yf1] at h1
  exact Bt.trans h1 h2
 | some k =>
  obtain ⟨i0, i1, i2⟩ := I
  have hne : st.1 ≠ bs := fun q => by rw [q] at i1; omega
  have h0 : st.1.length ≠ 0 := by omega
  rw [if_neg hne, if_neg hne]
  have := Bt.selO (P := P) (h := wX h i j lim s st (some k)) (g := wX h i j lim s st (some 0)) (l := L) (l' := [resB Xdl true st.1]) (fr := [v]) (fr' := [v]) [k] (by rw [Yf1, Yf1]) (fun m B hB => ?_) (by simp) ⟨⟨_, i2, of_eq_true (Q13 _ _ _ _)⟩, trivial⟩ ⟨.inr ⟨hvo _, by rw [hvr]; exact Wk.refl _⟩, trivial⟩
  ·rw [Yf1] at this
   exact this
  ·by_cases hm : m = i
   ·subst hm
    rw [wX_i H] at hB
    cases hB
    refine .inr ⟨_, wX_i H st (some k), ?_⟩
    simp only [wK, blkW]
    rw [YKY _ h0, YKY _ h0]
    refine ⟨id, ?_, ?_⟩
    ·simp only [JjX, ZWl, ok_p, ok_i, Yf1, Bool.and_true, Bool.and_eq_true]
     refine ⟨decide_eq_true (by omega), ?_⟩
     refine ⟨trivial, ?_⟩
     exact ZY3 (fun i => decide (i < h.length + [k].length)) _ _ _ _ _ (decide_eq_true (show h.length + 0 < h.length + 1 by omega))
    ·simp only [renL, AV.ren, Yf1]
     rw [Zat hjl, show selN h.length [k] (h.length + 0) = h.length + k from YiF 0]
     exact WkL.refl _
   ·by_cases hj : m = j
    ·subst hj
     rw [wX_j H] at hB
     cases hB
     exact .inl ⟨wX_j H st (some k), rfl⟩
    ·left
     have e1 : (wX h i j lim s st (some 0))[m]? = (XHx s h)[m]? := by
      simp only [wX]
      rw [List.getElem?_set_ne (Ne.symm hj), List.getElem?_set_ne (Ne.symm hm)]
     have e2 : (wX h i j lim s st (some k))[m]? = (XHx s h)[m]? := by
      simp only [wX]
      rw [List.getElem?_set_ne (Ne.symm hj), List.getElem?_set_ne (Ne.symm hm)]
     rw [e1] at hB
     rw [e2]
     refine ⟨hB, ?_⟩
     rw [Yf1]
     unfold XHx at hB
     split at hB
     ·rw [List.getElem?_set] at hB
      split at hB
      ·split at hB
       ·cases hB; rfl
       ·cases hB
      ·exact hh m B hB
     ·exact hh m B hB
end
end Go.Proofs.Ytpoojfnmhnedpaa
end
section
namespace Go.Proofs.Ytpoojfnmhnedpaa
set_option maxRecDepth 100000
set_option maxHeartbeats 4000000
def qB (h : List AB) (i : Nat) (s : AV) (x : RSt) : List AB := h.set i (.blk false true [s, .i .i64 (x.pos : Nat), .i .i64 x.err, .i .i64 x.ea])
structure QdH (h : List AB) (i : Nat) (s : AV) (bs : List UInt8) : Prop where
 hi : i < h.length
 rd : Rd Xdl h s bs
 q : ∀ k ∈ idOf s, k ≠ i
 cap : s.capOk = true
 lt : ∀ k ∈ idOf s, k < h.length
noncomputable def rdQ (h : List AB) (i : Nat) : Option (AV × List UInt8 × RSt) := match h[i]? with
 | some (.blk false true [s, .i .i64 p, .i .i64 e, .i .i64 a]) => (getS Xdl h s).bind fun bs => if 0 ≤ p ∧ p ≤ bs.length ∧ (idOf s).all (fun k => decide (k ≠ i ∧ k < h.length)) = true ∧ s.capOk = true then some (s, bs, ⟨p.toNat, e, a⟩) else none
 | _ => none
section
variable {h : List AB} {i : Nat} {s : AV} {bs : List UInt8} {x : RSt}
theorem XD9 : (qB h i s x).length = h.length := by unfold qB; rw [List.length_set]
theorem qB_i (H : QdH h i s bs) : (qB h i s x)[i]? = some (.blk false true [s, .i .i64 (x.pos : Nat), .i .i64 x.err, .i .i64 x.ea]) := by
 unfold qB
 rw [List.getElem?_set_self H.hi]
theorem YhC {k : Nat} (hi : k ≠ i) : (qB h i s x)[k]? = h[k]? := by
 unfold qB
 rw [List.getElem?_set_ne (Ne.symm hi)]
theorem QFS (H : QdH h i s bs) (y : RSt) (L : List AB) : qB (qB h i s x ++ L) i s y = qB h i s y ++ L := by
 have := H.hi
 unfold qB
 rw [List.set_append_left _ _ (by rw [List.length_set]; exact this), List.set_set]
theorem JgC {n : Nat} {e a : Int} (hi : h[i]? = some (.blk false true [s, .i .i64 (n : Nat), .i .i64 e, .i .i64 a])) : qB h i s ⟨n, e, a⟩ = h := by
 unfold qB
 exact Xn5 hi
theorem QdH.qB (H : QdH h i s bs) (x : RSt) : Rd Xdl (qB h i s x) s bs := H.rd.setB H.q _
theorem ZPu (H : QdH h i s bs) (ho : s.ok (fun k => decide (k < h.length)) = true) (hh : HOk h) (x : RSt) : HOk (qB h i s x) := by
 intro k B hB
 rw [XD9]
 by_cases h1 : k = i
 ·subst h1
  rw [qB_i H] at hB
  cases hB
  simp only [AB.ok, JjX, ZWl, ok_i, ho, Bool.and_true]
 ·rw [YhC h1] at hB
  exact hh k B hB
theorem X3Q {β : Type} {f : AV × List UInt8 × RSt → Option β} {b : β} (q : (rdQ h i).bind f = some b) : ∃ s bs n e a, h[i]? = some (.blk false true [s, .i .i64 (n : Nat), .i .i64 e, .i .i64 a]) ∧ QdH h i s bs ∧ n ≤ bs.length ∧ f (s, bs, ⟨n, e, a⟩) = some b := by
 obtain ⟨y, h1, h2⟩ := Option.bind_eq_some_iff.1 q
 unfold rdQ at h1
 split at h1
 ·rename_i s p e a hi
  obtain ⟨bs, hs, h1⟩ := Zly h1
  split at h1
  ·rename_i hc
   cases h1
   obtain ⟨h0, hl, hq, hcap⟩ := hc
   obtain ⟨n, rfl⟩ := Int.eq_ofNat_of_zero_le h0
   rw [Int.toNat_natCast] at h2
   exact ⟨s, bs, n, e, a, hi, ⟨(List.getElem?_eq_some_iff.1 hi).1, hs, fun k hk => (of_decide_eq_true (List.all_eq_true.1 hq k hk)).1, hcap, fun k hk => (of_decide_eq_true (List.all_eq_true.1 hq k hk)).2⟩, by omega, h2⟩
  ·cases h1
 ·cases h1
theorem qu6 (H : QdH h i s bs) (hx : x.pos ≤ bs.length) (L : List AB) : rdQ (qB h i s x ++ L) i = some (s, bs, x) := by
 unfold rdQ
 simp only [List.getElem?_append_left (show i < (Go.Proofs.Ytpoojfnmhnedpaa.qB h i s x).length by rw [XD9]; exact H.hi), qB_i H]
 rw [((H.qB x).app L).get, Option.bind_some, if_pos ⟨by omega, by omega, List.all_eq_true.2 fun k hk => decide_eq_true ⟨H.q k hk, by have := H.lt k hk; rw [List.length_append, XD9]; omega⟩, H.cap⟩, Int.toNat_natCast]
theorem ZGF {L : List AB} {a : Nat} {n : Nat} {e e' : Int} (ha : L[a]? = some (.blk false true [s, .i .i64 (n : Nat), .i .i64 e, .i .i64 e'])) (hs : Rd Xdl h s bs) (ho : ∀ k ∈ idOf s, k < h.length) (hc : s.capOk = true) (hx : n ≤ bs.length) : rdQ (h ++ L) (h.length + a) = some (s, bs, ⟨n, e, e'⟩) := by
 unfold rdQ
 simp only [YOy, ha]
 rw [(hs.app L).get, Option.bind_some, if_pos ⟨by omega, by omega, List.all_eq_true.2 fun k hk => decide_eq_true ⟨by have := ho k hk; omega, by have := ho k hk; rw [List.length_append]; omega⟩, hc⟩, Int.toNat_natCast]
theorem Ylt (H : QdH h i s bs) {s' : AV} {l : List UInt8} (e : Rd Xdl h s' l) (hq : ∀ k ∈ idOf s', k ∈ idOf s) : (∀ (x : RSt) L n, n < l.length → ldV (qB h i s x ++ L) none (elP 1 s' n 0) = some (u8A (l.getD n 0))) ∧ (∀ (x : RSt) L, getS Xdl (qB h i s x ++ L) s' = some l) ∧ (∀ (x : RSt) L, srcV (qB h i s x ++ L) 1 s' = some (l.length, Xdl.cells l)) := by
 have e' : ∀ x, Rd Xdl (Go.Proofs.Ytpoojfnmhnedpaa.qB h i s x) s' l := fun x => e.setB (fun k hk => H.q k (hq k hk)) _
 exact ⟨fun x L n hn => ((e' x).app L).ld n 0 hn Nat.one_pos, fun x L => ((e' x).app L).get, fun x L => (e' x).src rfl L⟩
theorem Zlx (H : QdH h i s bs) (ho : s.ok (fun k => decide (k < h.length)) = true) :
  (∀ (x : RSt) L, Za2 (qB h i s x ++ L) i = some [s, .i .i64 (x.pos : Nat), .i .i64 x.err, .i .i64 x.ea]) ∧
  (∀ (x : RSt) L o, ldV (qB h i s x ++ L) none (.p i o) = [s, AV.i .i64 (x.pos : Nat), .i .i64 x.err, .i .i64 x.ea][o]?) ∧
  (∀ (x : RSt) L, ldV (qB h i s x ++ L) (some 2) (.p i 2) = some (.ag [.i .i64 x.err, .i .i64 x.ea])) ∧
  (∀ (x : RSt) L (n : Nat), stV (qB h i s x ++ L) none (.p i 1) (.i .i64 (n : Nat)) = some (qB h i s ⟨n, x.err, x.ea⟩ ++ L)) ∧
  (∀ (x : RSt) L (e a : Int), stV (qB h i s x ++ L) (some 2) (.p i 2) (.ag [.i .i64 e, .i .i64 a]) = some (qB h i s ⟨x.pos, e, a⟩ ++ L)) ∧
  (∀ c lo hi anc past, qOk (h.length + c) lo hi anc past i = true) ∧ (∀ c, (i < h.length + c) = True) ∧ (i < h.length) = True ∧ (∀ x, (qB h i s x).length = h.length) ∧ (∀ x, ((qB h i s x).map AB.freeze).length = h.length) ∧ (∀ c, (h.length + c ≤ i) = False) ∧ (h.length ≤ i) = False := by
 have r1 : ∀ (x : RSt) L, Za2 (qB h i s x ++ L) i = some [s, .i .i64 (x.pos : Nat), .i .i64 x.err, .i .i64 x.ea] := fun x L => by
  unfold Za2
  rw [List.getElem?_append_left (by rw [XD9]; exact H.hi), qB_i H]
 have hi := H.hi
 refine ⟨r1, fun x L o => by simp only [ldV, r1, Option.bind_some], fun x L => by simp only [ldV, r1, Option.bind_some]; rfl, fun x L n => ?_, fun x L e a => ?_, fun c lo hi anc past => Y9A (by omega), fun c => eq_true (by omega), eq_true hi, fun x => XD9, fun x => by rw [List.length_map, XD9], fun c => eq_false (by omega), eq_false (by omega)⟩
 ·rw [ZAf (qB_i H) (o := 1) (by simp) rfl rfl]
  unfold qB
  rw [List.set_set]
  rfl
 ·have := J5n (qB_i H (x := x)) (o := 2) (vs := [.i .i64 e, .i .i64 a]) (Nat.le_refl 4) rfl L
  refine Eq.trans this ?_
  unfold qB
  rw [List.set_set]
  rfl
theorem zn6 (H : QdH h i s bs) (ho : s.ok (fun k => decide (k < h.length)) = true) : s.isStr = false ∧ s.one = true ∧ s.known = true ∧ s.cells = [s] ∧ lenV s = some (bs.length : Int) ∧
  (∀ k m, iadV 1 s (.i k m) = if 0 ≤ m ∧ m < (bs.length : Int) then some (elP 1 s m.toNat 0) else none) ∧ (∀ (x : RSt) L n, n < bs.length → ldV (qB h i s x ++ L) none (elP 1 s n 0) = some (u8A (bs.getD n 0))) ∧
  (∀ (x : RSt) L, getS Xdl (qB h i s x ++ L) s = some bs) ∧ (∀ (x : RSt) L, srcV (qB h i s x ++ L) 1 s = some (bs.length, Xdl.cells bs)) ∧
  (∀ c lo hi anc past, s.ok (qOk (h.length + c) lo hi anc past) = true) ∧ (∀ c, s.ok (fun i => decide (i < h.length + c)) = true) ∧
  (∀ n j c lo hi anc past, n < bs.length → (elP 1 s n j).ok (qOk (h.length + c) lo hi anc past) = true) ∧ (∀ n j c, n < bs.length → (elP 1 s n j).ok (fun i => decide (i < h.length + c)) = true) := by
 obtain ⟨f1, f2, f3, f4, f5, f6, f7, f8, f9, f10, f11, f12, f13, f14⟩ := H.rd.fx ho (sz := 1) rfl
 refine ⟨f1, f2, f3, f4, f5, f6, fun x L n hn => ?_, fun x L => ((H.qB x).app L).get, fun x L => (H.qB x).src rfl L, f11, f12, f13, f14⟩
 exact ((H.qB x).app L).ld n 0 hn Nat.one_pos
theorem QvP (H : QdH h i s bs) (ho : s.ok (fun k => decide (k < h.length)) = true) (hh : HOk h) :
  (∀ (x : RSt) L, HOk (qB h i s x ++ L) = ((L.all fun B => B.ok (fun i => decide (i < h.length + L.length))) = true)) ∧
  (∀ (x : RSt) L c anc past n' w, n' = h.length + L.length → KPB (seen (h.length + c) anc past n') [h.length + w] 0 (qB h i s x ++ L) = (qB h i s x).map AB.freeze ++ mskL h.length c anc past [h.length + w] 0 L) ∧
  (∀ (x : RSt) w G l, Jlh [h.length + w] ((qB h i s x).map AB.freeze ++ G) 0 (qB h i s x ++ l) = qB h i s x ++ mrgL h.length [h.length + w] 0 G l) := by
 refine ⟨fun x L => ?_, fun x L c anc past n' w hn => ?_, fun x w G l => ?_⟩
 ·have := qtq (ZPu H ho hh x) L
  rw [this, XD9]
 ·exact XFh (h := Go.Proofs.Ytpoojfnmhnedpaa.qB h i s x) (p := h.length) XD9 c anc n' past [h.length + w] L hn (by simp)
 ·have := X1f (h := Go.Proofs.Ytpoojfnmhnedpaa.qB h i s x) [h.length + w] G l (by simp [XD9])
  rw [XD9] at this
  exact this
theorem btQ {P : Program} {v a : AV} (e : v = a) : Bt P h.length [v] (qB h i s x ++ []) [a] (qB h i s x) := by
 rw [List.append_nil, e]
 exact Bt.refl _ _ _
theorem btQD {P : Program} (H : QdH h i s bs) (hok : s.ok (fun k => decide (k < h.length)) = true) (hh : HOk h) {v a : AV} (L : List AB) (e : v = a) (ho : v.ok (fun k => decide (k < h.length)) = true) : Bt P h.length [v] (qB h i s x ++ L) [a] (qB h i s x) := by
 have := Bt.drop (P := P) (h := qB h i s x) (v := v) (a := a) L (ZPu H hok hh x) e (by rw [XD9]; exact ho)
 rw [XD9] at this
 exact this
theorem btQS {P : Program} (H : QdH h i s bs) (hok : s.ok (fun k => decide (k < h.length)) = true) (hh : HOk h) {l l' : List AB} {fr fr' : List AV} (sel : List Nat) (hnd : sel.Nodup) (hb : BlkSel h.length sel sel.length l sel l') (hfr : FrSel h.length sel sel.length fr fr') : Bt P h.length fr (qB h i s x ++ l) fr' (qB h i s x ++ l') := by
 have := Bt.sel (P := P) (h := qB h i s x) (l := l) (l' := l') (fr := fr) (fr' := fr') sel (ZPu H hok hh x) hnd (by rw [XD9]; exact hb) (by rw [XD9]; exact hfr)
 rw [XD9] at this
 exact this
theorem qah (hh : HOk h) {n : Nat} {e a : Int} (q : h[i]? = some (.blk false true [s, .i .i64 (n : Nat), .i .i64 e, .i .i64 a])) : s.ok (fun k => decide (k < h.length)) = true := by
 have := hh i _ q
 simp only [AB.ok, JjX, Bool.and_eq_true] at this
 exact this.1
end
noncomputable def J5P : List AV → List AB → Option (AV × List AB)
 | [.p i 0, .i .i64 e, .i .i64 a], h => (rdQ h i).bind fun y => some (.tu [], qB h i y.1 (y.2.2.fail e a))
 | _, _ => none
theorem XSh : Spec Try.prog 81 J5P := by
 intro args h v h' e
 unfold J5P at e
 split at e
 ·rename_i i er at0
  obtain ⟨s, bs, n, e0, a, hi, H, hn, e1⟩ := X3Q e
  clear e
  cases e1
  refine FnAt.c (FnAt.run (by kernel_rfl) (T := ⟨[], []⟩) ⟨trivial, trivial⟩ Try.func81 sw81 fun ho hh => ?_)
  have hok := qah hh hi
  have e2 : h ++ [] = qB h i s ⟨n, e0, a⟩ ++ [] := by rw [JgC hi]
  rw [e2]
  have f1 := Zlx H hok
  unfold w81
  by_cases g : e0 = 0
  ·have g' := eq_true g
   have hr : RSt.fail ⟨n, e0, a⟩ er at0 = ⟨n, er, at0⟩ := by unfold RSt.fail; rw [if_pos g]
   dsimp only
   rw [hr]
   simp only [JaG, Qv6, Zsz, qtO, quq, simprocAttr, CO.tmps, Opd.tmps, optT, Nat.reducePow, Nat.reduceDiv, Nat.reduceMod, f1, g', List.getElem?_cons_zero, List.getElem?_cons_succ]
   exact btQ rfl
  ·have g' := eq_false g
   have hr : RSt.fail ⟨n, e0, a⟩ er at0 = ⟨n, e0, a⟩ := by unfold RSt.fail; rw [if_neg g]
   dsimp only
   rw [hr]
   simp only [JaG, Qv6, Zsz, qtO, quq, simprocAttr, CO.tmps, Opd.tmps, optT, Nat.reducePow, Nat.reduceDiv, Nat.reduceMod, f1, g', List.getElem?_cons_zero, List.getElem?_cons_succ]
   exact btQ rfl
 ·cases e
noncomputable def zhz : List AV → List AB → Option (AV × List AB)
 | [.p i 0], h => (rdQ h i).bind fun y => some (.i .i64 (qPL y.2.1 y.2.2), h)
 | _, _ => none
theorem qdV : Spec Try.prog 55 zhz := by
 intro args h v h' e
 unfold zhz at e
 split at e
 ·rename_i i
  obtain ⟨s, bs, n, e0, a, hi, H, hn, e1⟩ := X3Q e
  clear e
  cases e1
  refine FnAt.c (FnAt.run (by kernel_rfl) (T := ⟨[], []⟩) ⟨trivial, trivial⟩ Try.func55 sw55 fun ho hh => ?_)
  have hok := qah hh hi
  have e2 : h = qB h i s ⟨n, e0, a⟩ := by rw [JgC hi]
  have e3 : h ++ [] = qB h i s ⟨n, e0, a⟩ ++ [] := by rw [JgC hi]
  rw [e3]
  have f1 := Zlx H hok
  have f2 := zn6 H hok
  have m1 := H.rd.2
  unfold maxLen at m1
  dsimp only
  have fin : ∀ v a' : AV, v = a' → Bt Try.prog h.length [v] (qB h i s ⟨n, e0, a⟩ ++ []) [a'] h := fun v a' e => by
   rw [JgC hi, List.append_nil, e]
   exact Bt.refl _ _ _
  unfold w55
  by_cases g : e0 = 0
  ·have g' := eq_true g
   have w1 : IntKind.i64.wrap ((bs.length : Int) - (n : Int)) = (bs.length : Int) - n := KqM (by unfold In64; omega)
   have hr : qPL bs ⟨n, e0, a⟩ = (bs.length : Int) - n := by unfold qPL; rw [if_pos g]
   rw [hr]
   simp only [JaG, Qv6, Zsz, qtO, quq, simprocAttr, CO.tmps, Opd.tmps, optT, Nat.reducePow, Nat.reduceDiv, Nat.reduceMod, f1, f2, g', w1, List.getElem?_cons_zero, List.getElem?_cons_succ, ne_eq, not_true_eq_false, decide_false]
   exact fin _ _ rfl
  ·have g' := eq_false g
   have hr : qPL bs ⟨n, e0, a⟩ = 0 := by unfold qPL; rw [if_neg g]
   rw [hr]
   simp only [JaG, Qv6, Zsz, qtO, quq, simprocAttr, CO.tmps, Opd.tmps, optT, Nat.reducePow, Nat.reduceDiv, Nat.reduceMod, f1, f2, g', List.getElem?_cons_zero, List.getElem?_cons_succ, ne_eq, not_false_eq_true, decide_true]
   exact fin _ _ rfl
 ·cases e
noncomputable def JOk : List AV → List AB → Option (AV × List AB)
 | [.p i 0], h => (rdQ h i).bind fun y => some (.ag [.i .i64 (qSQ y.2.1 y.2.2).1, .i .i64 (qSQ y.2.1 y.2.2).2], h)
 | _, _ => none
theorem zxk : Spec Try.prog 54 JOk := by
 intro args h v h' e
 unfold JOk at e
 split at e
 ·rename_i i
  obtain ⟨s, bs, n, e0, a, hi, H, hn, e1⟩ := X3Q e
  clear e
  cases e1
  refine FnAt.c (FnAt.run (by kernel_rfl) (T := ⟨[], []⟩) ⟨trivial, trivial⟩ Try.func54 sw54 fun ho hh => ?_)
  have hok := qah hh hi
  have e3 : h ++ [] = qB h i s ⟨n, e0, a⟩ ++ [] := by rw [JgC hi]
  rw [e3]
  have f1 := Zlx H hok
  have f2 := zn6 H hok
  dsimp only
  have fin : ∀ (L : List AB) (v a' : AV), v = a' → v.ok (fun k => decide (k < h.length)) = true → Bt Try.prog h.length [v] (qB h i s ⟨n, e0, a⟩ ++ L) [a'] h := fun L v a' e ho => by
   have := btQD (P := Try.prog) (x := ⟨n, e0, a⟩) H hok hh L e ho
   rw [JgC hi] at this ⊢
   exact this
  unfold w54
  by_cases g : e0 = 0
  ·have g' := eq_true g
   by_cases g2 : n < bs.length
   ·have g2' : ((n : Int) < (bs.length : Int)) = True := eq_true (by omega)
    have hr : qSQ bs ⟨n, e0, a⟩ = (4, (n : Int)) := by unfold qSQ; rw [if_pos ⟨g, g2⟩]
    rw [hr]
    simp only [JaG, Qv6, Zsz, qtO, quq, simprocAttr, CO.tmps, Opd.tmps, optT, Nat.reducePow, Nat.reduceDiv, Nat.reduceMod, QjP, Yzo, qA4, ZMj, f1, f2, g', g2', List.getElem?_cons_zero, List.getElem?_cons_succ, ne_eq, not_true_eq_false, decide_false]
    exact fin _ _ _ rfl rfl
   ·have g2' : ((n : Int) < (bs.length : Int)) = False := eq_false (by omega)
    have hr : qSQ bs ⟨n, e0, a⟩ = (e0, a) := by unfold qSQ; rw [if_neg fun q => g2 q.2]
    rw [hr]
    simp only [JaG, Qv6, Zsz, qtO, quq, simprocAttr, CO.tmps, Opd.tmps, optT, Nat.reducePow, Nat.reduceDiv, Nat.reduceMod, QjP, Yzo, qA4, ZMj, f1, f2, g', g2', List.getElem?_cons_zero, List.getElem?_cons_succ, ne_eq, not_true_eq_false, decide_false]
    exact fin _ _ _ rfl rfl
  ·have g' := eq_false g
   have hr : qSQ bs ⟨n, e0, a⟩ = (e0, a) := by unfold qSQ; rw [if_neg fun q => g q.1]
   rw [hr]
   simp only [JaG, Qv6, Zsz, qtO, quq, simprocAttr, CO.tmps, Opd.tmps, optT, Nat.reducePow, Nat.reduceDiv, Nat.reduceMod, QjP, Yzo, qA4, ZMj, f1, f2, g', List.getElem?_cons_zero, List.getElem?_cons_succ, ne_eq, not_false_eq_true, decide_true]
   exact fin _ _ _ rfl rfl
 ·cases e
def qCl : List AV → List AB → Option (AV × List AB)
 | [s], h => if s.isSl = true then some (.p h.length 0, h ++ [.blk false true [s, .i .i64 0, .i .i64 0, .i .i64 0]]) else none
 | _, _ => none
theorem qZT : Spec Try.prog 52 qCl := by
 intro args h v h' e
 unfold qCl at e
 split at e
 ·rename_i s
  split at e
  ·rename_i hs
   cases e
   refine FnAt.c (FnAt.run (by kernel_rfl) (T := ⟨[], []⟩) ⟨trivial, trivial⟩ Try.func52 sw52 fun ho hh => ?_)
   have s1 := YWX hs
   have s2 := KAM hs
   have s3 := QCP hs
   unfold w52
   simp only [JaG, Qv6, Zsz, qtO, quq, simprocAttr, CO.tmps, Opd.tmps, optT, Nat.reducePow, Nat.reduceDiv, Nat.reduceMod, s1, s2, s3]
   exact Bt.eq rfl rfl
  ·cases e
 ·cases e
end Go.Proofs.Ytpoojfnmhnedpaa
end
