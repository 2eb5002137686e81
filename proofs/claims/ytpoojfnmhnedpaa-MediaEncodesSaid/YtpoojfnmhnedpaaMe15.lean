/- Part 15 of what the laws' proofs rest on. No condition. -/
import Derived.Test.YtpoojfnmhnedpaaMe14
set_option linter.all false
section
namespace Go.Proofs.Ytpoojfnmhnedpaa
set_option maxRecDepth 100000
set_option maxHeartbeats 4000000
theorem QyO {T : Env} {fr : List AV} {h : List AB} (x : Opd) (t : TypeId) (ok : Bool) (z : AV) : opR T (.tas x t ok z) fr h = (match x.ev fr with
  | .ifc t' v => if t' = t then some (if ok = true then .tu [v, .b true] else v, h) else if ok = true then some (.tu [z, .b false], h) else none
  | .ni => if ok = true then some (.tu [z, .b false], h) else none
  | _ => none) := by
 simp only [opR, CO.isCall, CO.run]
 cases x.ev fr <;> rfl
theorem zIw {T : Env} {fr : List AV} {h : List AB} (t : TypeId) (x : Opd) : opR T (.ifc t x) fr h = some (.ifc t (x.ev fr), h) := _root_.id rfl
theorem K63 (x : Int) : IntKind.u8.wrap x = ((UInt8.ofInt x).toNat : Int) := by
 rw [IntKind.wrap_u8, YJH]
theorem JM2 (x : Int) : AV.i .u8 (IntKind.u8.wrap x) = u8A (UInt8.ofInt x) := by rw [K63]; rfl
theorem XJc (b : UInt8) : (u8A b).one = true := _root_.id rfl
theorem z68 (b : UInt8) : (u8A b).known = true := _root_.id rfl
theorem Xhf (b : UInt8) : (u8A b).cells = [u8A b] := _root_.id rfl
theorem QZT (b : UInt8) : (u8A b).flat = true := _root_.id rfl
theorem Zrv (b : UInt8) : wrOk true (u8A b) = true := _root_.id rfl
def Jhj (n : Int) (k : Nat) : List UInt8 := UInt8.ofInt (191 + XDt n) :: (List.range k).map (zPu n (XDt n))
theorem XkE (n : Int) (k : Nat) : Jhj n (k + 1) = Jhj n k ++ [zPu n (XDt n) k] := by
 unfold Jhj
 rw [List.range_succ, List.map_append]
 rfl
theorem qBE (n : Int) (k : Nat) : (Jhj n k).length = k + 1 := by simp [Jhj]
instance (n : Int) : Decidable (In64 n) := by unfold In64; infer_instance
noncomputable def JAR : List AV → List AB → Option (AV × List AB)
 | [.ns, .ifc ty (.i .i64 n)], h => if ty = 3 ∧ In64 n then some (.tu [apS XQp h.length (Jmv n), .b (decide (0 ≤ n))], h ++ [resB XQp true (Jmv n)]) else none
 | _, _ => none
theorem qHs : Spec Try.prog 75 JAR := by
 intro args h v h' e
 unfold JAR at e
 split at e
 ·rename_i ty n
  split at e
  ·rename_i hty
   obtain ⟨rfl, hn⟩ := hty
   cases e
   refine FnAt.c (FnAt.run (by kernel_rfl) (T := ⟨[⟨78, Zjo, fun _ => []⟩], []⟩) ⟨⟨J7w, trivial⟩, trivial⟩ Try.func75 sw75 fun ho hh => ?_)
   unfold w75
   have z3 : (1 * 1 ≤ 140737488355328 ∧ 1 ≤ maxLen) = True := eq_true ⟨by decide, by unfold maxLen; omega⟩
   have sb := KEl n
   by_cases g1 : XDt n = 0
   ·have g1' : ((XDt n : Int) = 0) = True := eq_true (by omega)
    have he : Jmv n = [UInt8.ofInt n] := by unfold Jmv; rw [if_pos g1]
    rw [he]
    simp only [Qfy, Q7I, qe2, qur, X6x, simprocAttr, CO.tmps, Opd.tmps, optT, Nat.reducePow, Nat.reduceDiv, Nat.reduceMod, QyO, zIw, Zjo, g1', JM2, XJc, z68, Xhf, Zrv, QZT, qVj, XiN, z3]
    exact Bt.sel [1] hh (by decide) (by simp only [XQy, FrSel, BlkSel, AV.ren, renL, AV.ok, okL, Option.some.injEq, exists_eq_left', List.length_cons, List.length_nil, Nat.reduceAdd, Nat.reduceLT, reduceCtorEq, implies_true, exists_eq', Ztp, Jp5]) (by simp only [XQy, FrSel, BlkSel, AV.ren, renL, AV.ok, okL, Option.some.injEq, exists_eq_left', List.length_cons, List.length_nil, Nat.reduceAdd, Nat.reduceLT, reduceCtorEq, implies_true, exists_eq', KsF, ZGD])
   ·have g1' : ((XDt n : Int) = 0) = False := eq_false (by omega)
    have he : Jmv n = Jhj n (XDt n) := by unfold Jmv; rw [if_neg g1]; rfl
    have hp : 0 ≤ n := by
     have : ¬ n < 192 := fun q => g1 (by unfold XDt; rw [if_pos q])
     omega
    have e1 : IntKind.i64.wrap (191 + (XDt n : Int)) = 191 + (XDt n : Int) := zdT (by unfold In64; omega)
    have e2 : IntKind.i64.wrap ((XDt n : Int) - 1) = (XDt n : Int) - 1 := zdT (by unfold In64; omega)
    rw [he]
    simp only [Qfy, Q7I, qe2, qur, X6x, simprocAttr, CO.tmps, Opd.tmps, optT, Nat.reducePow, Nat.reduceDiv, Nat.reduceMod, QyO, zIw, Zjo, g1', e1, JM2, XJc, z68, Xhf, Zrv, QZT, qVj, XiN, z3]
    refine QSO (S := Nat) (fun k => XDt n - k) (fun k => [apS XQp (h.length + 0) (Jhj n k)] ++ tp 5 ++ [.i .i64 n, .i .i64 (XDt n)] ++ tp 30 ++ [.i .i64 (XDt n), .i .i64 k] ++ tp 117) (fun k => h ++ [resB XQp true (Jhj n k)]) (fun k => k ≤ XDt n) 0 (Nat.zero_le _) ?_ fun k hk => ?_
    ·simp only [show Jhj n 0 = [UInt8.ofInt (191 + XDt n)] from rfl, KsF, Ztp, Jp5]
     exact Bt.sel [1] hh (by decide) (by simp only [XQy, FrSel, BlkSel, AV.ren, renL, AV.ok, okL, Option.some.injEq, exists_eq_left', List.length_cons, List.length_nil, Nat.reduceAdd, Nat.reduceLT, reduceCtorEq, implies_true, exists_eq']) (by simp only [tp_0, tp_s, Qtm, YXO, Int.natCast_zero, XQy, FrSel, BlkSel, AV.ren, renL, AV.ok, okL, Option.some.injEq, exists_eq_left', List.length_cons, List.length_nil, Nat.reduceAdd, Nat.reduceLT, reduceCtorEq, implies_true, exists_eq', ZGD])
    ·by_cases gi : k < XDt n
     ·have gi' : ((k : Int) < (XDt n : Int)) = True := eq_true (by omega)
      have q1 : IntKind.i64.wrap ((k : Int) + 1) = ((k + 1 : Nat) : Int) := zdT (by unfold In64; omega)
      have q2 : IntKind.i64.wrap ((XDt n : Int) - 1 - (k : Int)) = ((XDt n - 1 - k : Nat) : Int) := by
       rw [show (XDt n : Int) - 1 - (k : Int) = ((XDt n - 1 - k : Nat) : Int) by omega]
       exact zdT (by unfold In64; omega)
      have q3 : IntKind.i64.wrap (8 * ((XDt n - 1 - k : Nat) : Int)) = ((8 * (XDt n - 1 - k) : Nat) : Int) := by
       rw [Int.natCast_mul]
       exact zdT (by unfold In64; omega)
      have q4 : min (8 * (XDt n - 1 - k)) 64 = 8 * (XDt n - 1 - k) := by omega
      have q5 : Int.fdiv n (2 ^ (8 * (XDt n - 1 - k))) = n / 2 ^ (8 * (XDt n - 1 - k)) := Int.fdiv_eq_ediv_of_nonneg _ (Int.le_of_lt (Int.pow_pos (by decide)))
      have hB : (Jhj n k).length ≠ 0 := by rw [qBE]; omega
      have gr : ∀ id, apS XQp id (Jhj n k) = rsl XQp id (Jhj n k) := fun id => JeD _ hB
      have lo := qBE n k
      have fa := fun L j ys hb => XS3 (h := h) (p := h.length) rfl (r := XQp) (sz := 1) rfl L j (Jhj n k) 1 1 ys hB hb (by decide) (by omega) (by unfold maxLen; omega)
      simp only [gr, qe2, qur, X6x, simprocAttr, CO.tmps, Opd.tmps, optT, Nat.reducePow, Nat.reduceDiv, Nat.reduceMod, gi', q1, e2, q2, q3, q4, q5, KUB, Q7H, ZY2, JM2, XJc, z68, Xhf, Zrv, QZT, qVj, fa]
      refine ⟨k + 1, gi, by dsimp only; omega, ?_⟩
      have hst : apS XQp (h.length + 0) (Jhj n (k + 1)) = .sl (h.length + 0) 0 ((Jhj n k).length + 1) ((Jhj n k).length + 1) (some 1) := by rw [XkE, zAf, ZGD]
      have hst2 : resB XQp true (Jhj n (k + 1)) = .blk true true (XQp.cells (Jhj n k) ++ [u8A (zPu n (XDt n) k)]) := by rw [XkE, Qtn, Jp5]
      simp only [hst, hst2]
      exact Bt.sel [2] hh (by decide) (by simp only [XQy, FrSel, BlkSel, AV.ren, renL, AV.ok, okL, Option.some.injEq, exists_eq_left', List.length_cons, List.length_nil, Nat.reduceAdd, Nat.reduceLT, reduceCtorEq, implies_true, exists_eq', zPu]) (by simp only [XQy, FrSel, BlkSel, AV.ren, renL, AV.ok, okL, Option.some.injEq, exists_eq_left', List.length_cons, List.length_nil, Nat.reduceAdd, Nat.reduceLT, reduceCtorEq, implies_true, exists_eq'])
     ·obtain rfl : k = XDt n := by omega
      have gi' : ((XDt n : Int) < (XDt n : Int)) = False := eq_false (by omega)
      have gp := eq_true hp
      simp only [qe2, qur, X6x, simprocAttr, CO.tmps, Opd.tmps, optT, Nat.reducePow, Nat.reduceDiv, Nat.reduceMod, gi']
      exact Bt.eq (by rw [decide_eq_true hp]; rfl) rfl
  ·cases e
 ·cases e
end Go.Proofs.Ytpoojfnmhnedpaa
end
section
namespace Go.Proofs.Ytpoojfnmhnedpaa
set_option maxRecDepth 100000
set_option maxHeartbeats 4000000
theorem Bt.selO {P : Program} {h g l l' : List AB} {fr fr' : List AV} (sel : List Nat) (hlen : g.length = h.length) (hold : ∀ (i : Nat) B', g[i]? = some B' → (h[i]? = some B' ∧ B'.ok (fun i => decide (i < h.length)) = true) ∨ (∃ B, h[i]? = some B ∧ BWk (fun i => decide (i < h.length + sel.length)) (selN h.length sel) B' B)) (hnd : sel.Nodup) (hb : BlkSel h.length sel sel.length l sel l') (hfr : FrSel h.length sel sel.length fr fr') : Bt P h.length fr (h ++ l) fr' (g ++ l') := by
 intro ρ w cs hp r v
 obtain ⟨b1, b2⟩ := hb.get
 obtain ⟨f1, f2⟩ := hfr.get
 have hlt : ∀ (i k : Nat), sel[i]? = some k → k < l.length := fun i k hk => by
  have hi : i < l'.length := by rw [b1]; exact (List.getElem?_eq_some_iff.1 hk).1
  obtain ⟨k', B, q1, q2, _⟩ := b2 i l'[i] (List.getElem?_eq_getElem hi)
  rw [hk] at q1
  cases q1
  exact (List.getElem?_eq_some_iff.1 q2).1
 have hρ := r.len
 rw [List.length_append] at hρ
 let ρ' : Mp := ρ.take h.length ++ sel.map fun k => ρ.getD (h.length + k) (0, 0, 0)
 have old : ∀ i, i < h.length → ρ'[i]? = ρ[i]? := fun i hi => by
  simp only [ρ']
  rw [List.getElem?_append_left (by rw [List.length_take]; omega), List.getElem?_take, if_pos hi]
 have new : ∀ i k, sel[i]? = some k → ρ'[h.length + i]? = ρ[h.length + k]? := fun i k hk => by
  have := hlt i k hk
  simp only [ρ']
  rw [List.getElem?_append_right (by rw [List.length_take]; omega), List.length_take, show h.length + i - min h.length ρ.length = i by omega, List.getElem?_map, hk, Option.map_some, List.getD_eq_getElem?_getD, List.getElem?_eq_getElem (by omega : h.length + k < ρ.length)]
  rfl
 have hq : ∀ i, (fun i => decide (i < h.length + sel.length)) i = true → ρ'[i]? = ρ[selN h.length sel i]? := fun i hi => by
  by_cases h1 : i < h.length
  ·rw [zLb h1, old i h1]
  ·obtain ⟨k, rfl⟩ : ∃ k, i = h.length + k := ⟨i - h.length, by omega⟩
   have hk : k < sel.length := by simp only [decide_eq_true_eq] at hi; omega
   rw [Qbt, List.getD_eq_getElem?_getD, List.getElem?_eq_getElem hk]
   exact new k _ (List.getElem?_eq_getElem hk)
 have cls : ∀ i B', (g ++ l')[i]? = some B' → (i < h.length ∧ h[i]? = some B' ∧ B'.ok (fun i => decide (i < h.length)) = true) ∨ (∃ j B, (h ++ l)[j]? = some B ∧ ρ'[i]? = ρ[j]? ∧ ((i < h.length ∧ j = i) ∨ (∃ i' k, i = h.length + i' ∧ sel[i']? = some k ∧ j = h.length + k)) ∧ BWk (fun i => decide (i < h.length + sel.length)) (selN h.length sel) B' B) := fun i B' hB => by
  rw [List.getElem?_append] at hB
  split at hB
  ·rename_i hlt'
   rw [hlen] at hlt'
   rcases hold i B' hB with ⟨q, qo⟩ | ⟨B, q, qb⟩
   ·exact .inl ⟨hlt', q, qo⟩
   ·exact .inr ⟨i, B, by rw [List.getElem?_append_left hlt']; exact q, old i hlt', .inl ⟨hlt', rfl⟩, qb⟩
  ·rename_i hge
   rw [hlen] at hge hB
   obtain ⟨k, B, q1, q2, q3⟩ := b2 _ B' hB
   refine .inr ⟨h.length + k, B, ?_, ?_, .inr ⟨i - h.length, k, by omega, q1, rfl⟩, q3⟩
   ·rw [List.getElem?_append_right (by omega), Nat.add_sub_cancel_left]
    exact q2
   ·have := new _ k q1
    rw [show h.length + (i - h.length) = i by omega] at this
    exact this
 have up : ∀ i B' x, (g ++ l')[i]? = some B' → ρ'[i]? = some x → ∃ j B, (h ++ l)[j]? = some B ∧ ρ[j]? = some x ∧ (B'.mut = true → B.mut = true) ∧ (B'.live = true → B.live = true) ∧ ((i < h.length ∧ j = i) ∨ (∃ i' k, i = h.length + i' ∧ sel[i']? = some k ∧ j = h.length + k)) := fun i B' x hB hx => by
  rcases cls i B' hB with ⟨hi, q, _⟩ | ⟨j, B, q1, q2, q3, q4⟩
  ·exact ⟨i, B', by rw [List.getElem?_append_left hi]; exact q, by rw [← old i hi]; exact hx, id, id, .inl ⟨hi, rfl⟩⟩
  ·exact ⟨j, B, q1, by rw [← q2]; exact hx, q4.mut, q4.live, q3⟩
 refine ⟨by rw [List.length_append, b1, hlen]; omega, ρ', ⟨f1.trans v.1, fun j a' c ha hc => ?_⟩, ⟨?_, fun i B' b o n hB hx => ?_, fun i j bi oi bj oj Bi Bj hne h1 h2 h3 h4 hm hl => ?_⟩, fun b ⟨i, B', o, h1, h2, h3⟩ => ?_, fun i b ⟨B', o, h1, h2, h3⟩ => ?_, fun i hi => ?_⟩
 ·rcases f2 j a' ha with rfl | ⟨q1, a, q2, q3⟩
  ·exact .top c
  ·exact VR.ren_down hq a' q1 c (q3 ρ c (v.2 j a c q2 hc))
 ·simp only [ρ', List.length_append, List.length_take, List.length_map, b1, hlen]
  omega
 ·rcases cls i B' hB with ⟨hi, q, qo⟩ | ⟨j, B, q1, q2, q3, q4⟩
  ·have := r.blk i B' b o n (by rw [List.getElem?_append_left hi]; exact q) (by rw [← old i hi]; exact hx)
   exact this.agree (q := fun i => decide (i < h.length)) (fun i hi => old i (by simpa using hi)) qo (fun _ => rfl)
  ·exact q4.br hq (r.blk _ B b o n q1 (by rw [← q2]; exact hx))
 ·obtain ⟨i', Ci, u1, u2, u3, _, u5⟩ := up i Bi _ h1 h3
  obtain ⟨j', Cj, z1, z2, _, z4, z5⟩ := up j Bj _ h2 h4
  refine r.sep i' j' bi oi bj oj Ci Cj (fun e => hne ?_) u1 z1 u2 z2 (u3 hm) (z4 hl)
  subst e
  rcases u5 with ⟨x1, x2⟩ | ⟨s, k, x1, x2, x3⟩ <;> rcases z5 with ⟨y1, y2⟩ | ⟨t, m, y1, y2, y3⟩
  ·omega
  ·omega
  ·omega
  ·have : k = m := by omega
   subst this
   have := (List.getElem?_inj (List.getElem?_eq_some_iff.1 x2).1 hnd).1 (x2.trans y2.symm)
   omega
 ·obtain ⟨j, B, q1, q2, q3, _, _⟩ := up i B' _ h1 h3
  exact ⟨j, B, o, q1, q3 h2, q2⟩
 ·obtain ⟨j, B, q1, q2, _, q4, q5⟩ := up i B' _ h1 h3
  refine ⟨j, ⟨B, o, q1, q4 h2, q2⟩, fun hi => ?_, fun hi => ?_⟩
  ·rcases q5 with ⟨_, x⟩ | ⟨s, k, x, y, z⟩
   ·exact x
   ·omega
  ·rcases q5 with ⟨x, _⟩ | ⟨s, k, z, y, x⟩
   ·omega
   ·omega
 ·exact old i hi
end Go.Proofs.Ytpoojfnmhnedpaa
end
section
namespace Go.Proofs.Ytpoojfnmhnedpaa
set_option maxRecDepth 100000
set_option maxHeartbeats 4000000
open Classical in
noncomputable def Yhm (a : AV) : Option Dg := if e : ∃ y, a = .ag (idR.f y) then some e.choose else none
theorem QSu (y : Dg) : Yhm (.ag (idR.f y)) = some y := by
 unfold Yhm
 have hx : ∃ z, AV.ag (idR.f y) = .ag (idR.f z) := ⟨y, rfl⟩
 rw [dif_pos hx]
 have := hx.choose_spec
 injection this with h
 rw [idR.inj _ _ h.symm]
theorem Jqk {a : AV} {y : Dg} (e : Yhm a = some y) : a = .ag (idR.f y) := by
 unfold Yhm at e
 split at e
 ·rename_i h
  cases e
  exact h.choose_spec
 ·cases e
noncomputable def encV (ty : TypeId) (v : AV) : Option (List UInt8 × Bool) :=
 if ty = 3 then (match v with
  | .i .i64 n => if In64 n then some (Jmv n, decide (0 ≤ n)) else none
  | _ => none)
 else if ty = 9 then (match v with
  | .s l => if l.length ≤ 1000000 then some (Jmv l.length ++ l, true) else none
  | _ => none)
 else if ty = 23 then (Yhm v).map fun d => (d.l, true)
 else none
noncomputable def X7U : List AV → List AB → Option (AV × List AB)
 | [.ns, .ifc ty v], h => (encV ty v).map fun p => (.tu [apS XQp h.length p.1, .b p.2], h ++ [resB XQp true p.1])
 | _, _ => none
theorem Ycb (l : List UInt8) : (AV.s l).isStr = true := _root_.id rfl
theorem QGc (l : List UInt8) : lenV (.s l) = some (l.length : Int) := _root_.id rfl
theorem JRR (h : List AB) (l : List UInt8) : srcV h 1 (.s l) = some (l.length, XQp.cells l) := by
 rw [Kbg]
 rfl
theorem X20 {r : Row UInt8} (id : Nat) {l m : List UInt8} (h0 : l.length ≠ 0) : apS r id (l ++ m) = .sl id 0 (l.length + m.length) (l.length + m.length) (some r.sz) := by
 unfold apS
 rw [if_neg (by rw [List.length_append]; omega), List.length_append]
theorem ZPs {l m : List UInt8} (h0 : l.length ≠ 0) : resB XQp true (l ++ m) = .blk true true (XQp.cells l ++ XQp.cells m) := by
 unfold resB
 rw [if_neg (by rw [List.length_append]; omega)]
 simp only [Row.cells, List.flatMap_append]
theorem zt3 (n : Int) : (Jmv n).length ≠ 0 := by
 unfold Jmv
 split <;> simp
theorem Xei : Spec Try.prog 75 X7U := by
 intro args h v h' e
 unfold X7U at e
 split at e
 ·rename_i ty x
  obtain ⟨p, hp, e⟩ := Option.map_eq_some_iff.1 e
  cases e
  unfold encV at hp
  split at hp
  ·rename_i ht
   split at hp
   ·rename_i n
    split at hp
    ·rename_i hn
     cases hp
     exact qHs _ _ _ _ (if_pos ⟨ht, hn⟩)
    ·cases hp
   ·cases hp
  split at hp
  ·rename_i ht
   subst ht
   split at hp
   ·rename_i l
    split at hp
    ·rename_i hl
     cases hp
     refine FnAt.c (FnAt.run (by kernel_rfl) (T := ⟨[⟨75, JAR, fun _ => []⟩], []⟩) ⟨⟨qHs, trivial⟩, trivial⟩ Try.func75 sw75 fun ho hh => ?_)
     have w1 : (In64 (l.length : Int)) = True := eq_true (by unfold In64; omega)
     have fs := fun (L : List AB) => JRR (h ++ L) l
     have gr : ∀ id, apS XQp id (Jmv l.length) = rsl XQp id (Jmv l.length) := fun id => JeD _ (zt3 _)
     unfold w75
     by_cases h0 : l = []
     ·have fz : ∀ H id ys, appW H true 1 1 (apS XQp id (Jmv l.length)) l.length ys = some (apS XQp id (Jmv l.length), H) := fun H id ys => by
       rw [h0]
       rfl
      simp only [Qfy, Q7I, qe2, qur, X6x, simprocAttr, CO.tmps, Opd.tmps, optT, Nat.reducePow, Nat.reduceDiv, Nat.reduceMod, QyO, zIw, JAR, w1, fs, Ycb, QGc, qtp, fz]
      exact Bt.eq (by rw [h0, List.append_nil]; rfl) (by rw [h0, List.append_nil])
     ·have hl0 : l.length ≠ 0 := fun q => h0 (List.eq_nil_of_length_eq_zero q)
      have el := q1l l.length
      have fa := fun L k ys hb => XS3 (h := h) (p := h.length) rfl (r := XQp) (sz := 1) rfl L k (Jmv l.length) 1 l.length ys (zt3 _) hb hl0 (by omega) (by unfold maxLen; omega)
      simp only [Qfy, Q7I, qe2, qur, X6x, simprocAttr, CO.tmps, Opd.tmps, optT, Nat.reducePow, Nat.reduceDiv, Nat.reduceMod, QyO, zIw, JAR, w1, fs, Ycb, QGc, gr, fa, qtp]
      have hst := fun id => X20 (r := XQp) id (l := Jmv l.length) (m := l) (zt3 _)
      have hst2 := ZPs (l := Jmv l.length) (m := l) (zt3 _)
      simp only [hst, hst2]
      exact Bt.sel [1] hh (by decide) (by simp only [XQy, FrSel, BlkSel, AV.ren, renL, AV.ok, okL, Option.some.injEq, exists_eq_left', List.length_cons, List.length_nil, Nat.reduceAdd, Nat.reduceLT, reduceCtorEq, implies_true, exists_eq']) ⟨.inr ⟨by simp only [XQy, FrSel, BlkSel, AV.ren, renL, AV.ok, okL, Option.some.injEq, exists_eq_left', List.length_cons, List.length_nil, Nat.reduceAdd, Nat.reduceLT, reduceCtorEq, implies_true, exists_eq'], by simp only [XQy, FrSel, BlkSel, AV.ren, renL, AV.ok, okL, Option.some.injEq, exists_eq_left', List.length_cons, List.length_nil, Nat.reduceAdd, Nat.reduceLT, reduceCtorEq, implies_true, exists_eq', ZGD]⟩, trivial⟩
    ·cases hp
   ·cases hp
  split at hp
  ·rename_i ht
   subst ht
   obtain ⟨d, hd, hp⟩ := Option.map_eq_some_iff.1 hp
   cases hp
   rw [Jqk hd]
   refine FnAt.c (FnAt.run (by kernel_rfl) (T := ⟨[], []⟩) ⟨trivial, trivial⟩ Try.func75 sw75 fun ho hh => ?_)
   obtain ⟨b1, b2, b3, b4, b5⟩ := ZrQ d.h
   rw [show d.l.map u8A = idR.f d from rfl] at *
   have o1 : ∀ zs : List AV, zs.length = 32 → over zs 0 (idR.f d) = idR.f d := fun zs hz => qkR zs _ (b1.trans hz.symm)
   have z3 : (32 * 1 ≤ 140737488355328 ∧ 32 ≤ maxLen) = True := eq_true ⟨by decide, by unfold maxLen; omega⟩
   have hl0 : d.l.length ≠ 0 := by rw [d.h]; decide
   have hst : ∀ id, apS XQp id d.l = .sl id 0 32 32 (some 1) := fun id => by unfold apS; rw [if_neg hl0, d.h]; rfl
   have hst2 : resB XQp true d.l = .blk true true (idR.f d) := by unfold resB; rw [if_neg hl0, Kbg]; rfl
   unfold w75
   simp only [Qfy, Q7I, qe2, qur, X6x, simprocAttr, CO.tmps, Opd.tmps, optT, Nat.reducePow, Nat.reduceDiv, Nat.reduceMod, QyO, zIw, Y6S, Yqp, Option.map_none, b1, b2, b3, b4, b5, o1, z3]
   simp only [hst, hst2]
   exact Bt.sel [1] hh (by decide) (by simp only [XQy, FrSel, BlkSel, AV.ren, renL, AV.ok, okL, Option.some.injEq, exists_eq_left', List.length_cons, List.length_nil, Nat.reduceAdd, Nat.reduceLT, reduceCtorEq, implies_true, exists_eq']) ⟨.inr ⟨by simp only [XQy, FrSel, BlkSel, AV.ren, renL, AV.ok, okL, Option.some.injEq, exists_eq_left', List.length_cons, List.length_nil, Nat.reduceAdd, Nat.reduceLT, reduceCtorEq, implies_true, exists_eq'], by simp only [XQy, FrSel, BlkSel, AV.ren, renL, AV.ok, okL, Option.some.injEq, exists_eq_left', List.length_cons, List.length_nil, Nat.reduceAdd, Nat.reduceLT, reduceCtorEq, implies_true, exists_eq', ZGD]⟩, trivial⟩
  ·cases hp
 ·cases e
end Go.Proofs.Ytpoojfnmhnedpaa
end
section
namespace Go.Proofs.Ytpoojfnmhnedpaa
set_option maxRecDepth 100000
set_option maxHeartbeats 4000000
def blkW (j : Nat) (lim : Int) (s : AV) : AB := .blk false true [.p j 0, .i .i64 lim, s]
def blkF (e : Int) : AB := .blk true true [.i .i64 e, .i .i64 0]
def YlR (s : AV) (h : List AB) : List AB := match s with
 | .sl q _ _ _ _ => h.set q .dead
 | _ => h
theorem ZtQ (s : AV) (h : List AB) : (YlR s h).length = h.length := by unfold YlR; split <;> simp
structure WrH (h : List AB) (i j : Nat) (lim : Int) (s : AV) (bs : List UInt8) (e : Int) : Prop where
 hi : h[i]? = some (blkW j lim s)
 hj : h[j]? = some (blkF e)
 hlim : lim ≤ 67108864
 hlen : (bs.length : Int) ≤ lim
 hs : (s = .ns ∧ bs = []) ∨ ∃ q, s = apS XQp q bs ∧ bs.length ≠ 0 ∧ h[q]? = some (resB XQp true bs)
section
variable {h : List AB} {i j : Nat} {lim : Int} {s : AV} {bs : List UInt8} {e : Int}
theorem WrH.ne (H : WrH h i j lim s bs e) : i ≠ j := by
 rintro rfl
 have := H.hi.symm.trans H.hj
 simp [blkW, blkF] at this
theorem WrH.il (H : WrH h i j lim s bs e) : i < h.length := (List.getElem?_eq_some_iff.1 H.hi).1
theorem WrH.jl (H : WrH h i j lim s bs e) : j < h.length := (List.getElem?_eq_some_iff.1 H.hj).1
theorem qgk {l : List UInt8} (h0 : l.length ≠ 0) : resB XQp true l = .blk true true (XQp.cells l) := by unfold resB; rw [if_neg h0]
theorem YFm (q : Nat) {l : List UInt8} (h0 : l.length ≠ 0) : apS XQp q l = .sl q 0 l.length l.length (some 1) := by unfold apS; rw [if_neg h0]; rfl
theorem WrH.q (H : WrH h i j lim s bs e) {q : Nat} (hq : s = apS XQp q bs) (h0 : bs.length ≠ 0) : h[q]? = some (.blk true true (XQp.cells bs)) ∧ q ≠ i ∧ q ≠ j ∧ q < h.length := by
 rcases H.hs with ⟨q1, q2⟩ | ⟨q', q1, _, q3⟩
 ·rw [q2] at h0
  exact absurd rfl h0
 ·have : q' = q := by
   rw [q1, YFm _ h0, YFm _ h0] at hq
   injection hq
  subst this
  rw [qgk h0] at q3
  refine ⟨q3, ?_, ?_, (List.getElem?_eq_some_iff.1 q3).1⟩
  ·rintro rfl
   have := q3.symm.trans H.hi
   simp [blkW] at this
  ·rintro rfl
   have := q3.symm.trans H.hj
   simp only [blkF, Option.some.injEq, AB.blk.injEq, true_and] at this
   rw [Kbg] at this
   cases bs with
   | nil => exact h0 rfl
   | cons x l => simp [u8A] at this
theorem WrH.uniq {i : Nat} {x y : Nat × Int × AV × List UInt8 × Int} (H : WrH h i x.1 x.2.1 x.2.2.1 x.2.2.2.1 x.2.2.2.2) (K : WrH h i y.1 y.2.1 y.2.2.1 y.2.2.2.1 y.2.2.2.2) : x = y := by
 obtain ⟨j, lim, s, bs, e⟩ := x
 obtain ⟨j', lim', s', bs', e'⟩ := y
 dsimp only at H K
 have h1 := H.hi.symm.trans K.hi
 simp only [blkW, Option.some.injEq, AB.blk.injEq, List.cons.injEq, AV.p.injEq, AV.i.injEq, true_and, and_true] at h1
 obtain ⟨rfl, rfl, rfl⟩ := h1
 have h2 := H.hj.symm.trans K.hj
 simp only [blkF, Option.some.injEq, AB.blk.injEq, List.cons.injEq, AV.i.injEq, true_and, and_true] at h2
 subst h2
 have : bs = bs' := by
  rcases H.hs with ⟨q1, q2⟩ | ⟨q, q1, q2, q3⟩ <;> rcases K.hs with ⟨p1, p2⟩ | ⟨p, p1, p2, p3⟩
  ·rw [q2, p2]
  ·rw [q1, YFm _ p2] at p1; cases p1
  ·rw [p1, YFm _ q2] at q1; cases q1
  ·have hqp : p = q := by
    rw [q1, YFm _ q2, YFm _ p2] at p1
    injection p1 with p1
    exact p1.symm
   subst hqp
   exact XOa (q1.symm.trans p1) (by have := q3.symm.trans p3; injection this)
 rw [this]
open Classical in
noncomputable def wrM (h : List AB) (i : Nat) : Option (Nat × Int × AV × List UInt8 × Int) := if e : ∃ x : Nat × Int × AV × List UInt8 × Int, WrH h i x.1 x.2.1 x.2.2.1 x.2.2.2.1 x.2.2.2.2 then some e.choose else none
theorem WrH.get (H : WrH h i j lim s bs e) : wrM h i = some (j, lim, s, bs, e) := by
 have hx : ∃ x : Nat × Int × AV × List UInt8 × Int, WrH h i x.1 x.2.1 x.2.2.1 x.2.2.2.1 x.2.2.2.2 := ⟨(j, lim, s, bs, e), H⟩
 unfold wrM
 rw [dif_pos hx]
 exact congrArg some (WrH.uniq hx.choose_spec (y := (j, lim, s, bs, e)) H)
theorem Z2u {β : Type} {f : Nat × Int × AV × List UInt8 × Int → Option β} {b : β} (q : (wrM h i).bind f = some b) : ∃ j lim s bs e, WrH h i j lim s bs e ∧ f (j, lim, s, bs, e) = some b := by
 obtain ⟨x, h1, h2⟩ := Option.bind_eq_some_iff.1 q
 unfold wrM at h1
 split at h1
 ·rename_i hx
  cases h1
  exact ⟨_, _, _, _, _, hx.choose_spec, h2⟩
 ·cases h1
def wX (h : List AB) (i j : Nat) (lim : Int) (s : AV) (st : List UInt8 × Int) : Option Nat → List AB
 | none => h.set j (blkF st.2)
 | some k => ((YlR s h).set i (blkW j lim (apS XQp (h.length + k) st.1))).set j (blkF st.2)
def wK (h : List AB) (s : AV) (st : List UInt8 × Int) : Option Nat → AV
 | none => s
 | some k => apS XQp (h.length + k) st.1
def WInv (d : Nat) (bs : List UInt8) (st : List UInt8 × Int) (L : List AB) : Option Nat → Prop
 | none => st.1 = bs
 | some k => d ≤ k ∧ bs.length < st.1.length ∧ L[k]? = some (resB XQp true st.1)
noncomputable def wOut (h : List AB) (i j : Nat) (lim : Int) (s : AV) (bs : List UInt8) (st : List UInt8 × Int) : List AB := wX h i j lim s st (if st.1 = bs then none else some 0) ++ [if st.1 = bs then .dead else resB XQp true st.1]
noncomputable def wPut (h : List AB) (i : Nat) (enc : List UInt8) (ok : Bool) : Option (AV × List AB) := (wrM h i).bind fun x => some (.i .i64 (wput x.2.1 x.2.2.2.1 x.2.2.2.2 enc ok).2, wOut h i x.1 x.2.1 x.2.2.1 x.2.2.2.1 (wput x.2.1 x.2.2.2.1 x.2.2.2.2 enc ok))
noncomputable def wSeq (f : Int → List UInt8 × Int → List UInt8 × Int) (h : List AB) (i : Nat) : Option (AV × List AB) := (wrM h i).bind fun x => some (.tu [], wOut h i x.1 x.2.1 x.2.2.1 x.2.2.2.1 (f x.2.1 (x.2.2.2.1, x.2.2.2.2)))
structure FOk (f : Int → List UInt8 × Int → List UInt8 × Int) : Prop where
 le : ∀ lim st, (st.1.length : Int) ≤ lim → ((f lim st).1.length : Int) ≤ lim
 grow : ∀ lim st, (f lim st).1 = st.1 ∨ st.1.length < (f lim st).1.length
theorem X9p (st : List UInt8 × Int) (k : Option Nat) : (wX h i j lim s st k).length = h.length := by
 cases k with
 | none => simp [wX]
 | some k => simp [wX, ZtQ]
theorem wX_j (H : WrH h i j lim s bs e) (st : List UInt8 × Int) (k : Option Nat) : (wX h i j lim s st k)[j]? = some (blkF st.2) := by
 have := H.jl
 cases k with
 | none => simp only [wX]; rw [List.getElem?_set_self this]
 | some k => simp only [wX]; rw [List.getElem?_set_self (by rw [List.length_set, ZtQ]; exact this)]
theorem wX_i (H : WrH h i j lim s bs e) (st : List UInt8 × Int) (k : Option Nat) : (wX h i j lim s st k)[i]? = some (blkW j lim (wK h s st k)) := by
 have := H.il
 cases k with
 | none => simp only [wX, wK]; rw [List.getElem?_set_ne (Ne.symm H.ne), H.hi]
 | some k => simp only [wX, wK]; rw [List.getElem?_set_ne (Ne.symm H.ne), List.getElem?_set_self (by rw [ZtQ]; exact this)]
theorem YAN {s : AV} {h : List AB} {k : Nat} (hk : k ∉ idOf s) : (YlR s h)[k]? = h[k]? := by
 unfold YlR
 split
 ·rw [List.getElem?_set_ne (fun q => hk (by rw [q]; simp [idOf]))]
 ·rfl
theorem Yhx (st : List UInt8 × Int) (k : Option Nat) {m : Nat} (h1 : m ≠ i) (h2 : m ≠ j) (h3 : m ∉ idOf s) : (wX h i j lim s st k)[m]? = h[m]? := by
 cases k with
 | none => simp only [wX]; rw [List.getElem?_set_ne (Ne.symm h2)]
 | some k => simp only [wX]; rw [List.getElem?_set_ne (Ne.symm h2), List.getElem?_set_ne (Ne.symm h1), YAN h3]
theorem qEH (bs' : List UInt8) (e e' : Int) (k : Option Nat) : (wX h i j lim s (bs', e) k).set j (blkF e') = wX h i j lim s (bs', e') k := by
 cases k with
 | none => simp only [wX]; rw [List.set_set]
 | some k => simp only [wX]; rw [List.set_set]
theorem YFz (H : WrH h i j lim s bs e) {st : List UInt8 × Int} {k : Option Nat} {d : Nat} {L : List AB} (I : WInv d bs st L k) (hl : (st.1.length : Int) ≤ lim) : WrH (wX h i j lim s st k ++ L) i j lim (wK h s st k) st.1 st.2 := by
 have hil := H.il
 have hjl := H.jl
 refine ⟨?_, ?_, H.hlim, hl, ?_⟩
 ·rw [List.getElem?_append_left (by rw [X9p]; exact hil), wX_i H]
 ·rw [List.getElem?_append_left (by rw [X9p]; exact hjl), wX_j H]
 ·cases k with
  | none =>
   have hb : st.1 = bs := I
   rcases H.hs with ⟨q1, q2⟩ | ⟨q, q1, q2, q3⟩
   ·exact .inl ⟨q1, by rw [hb, q2]⟩
   ·obtain ⟨p1, p2, p3, p4⟩ := H.q q1 q2
    refine .inr ⟨q, by rw [hb]; exact q1, by rw [hb]; exact q2, ?_⟩
    rw [List.getElem?_append_left (by rw [X9p]; exact p4), hb]
    simp only [wX]
    rw [List.getElem?_set_ne (Ne.symm p3)]
    exact q3
  | some k =>
   obtain ⟨_, i1, i2⟩ := I
   refine .inr ⟨h.length + k, rfl, by omega, ?_⟩
   rw [List.getElem?_append_right (by rw [X9p]; omega), X9p, Nat.add_sub_cancel_left]
   exact i2
theorem ZZG (lim : Int) (st : List UInt8 × Int) (enc : List UInt8) (ok : Bool) : (wput lim st.1 st.2 enc ok).1 = st.1 ∨ (wput lim st.1 st.2 enc ok).1 = st.1 ++ enc := by
 unfold wput
 split
 ·split
  ·split
   ·exact .inl rfl
   ·exact .inr rfl
  ·exact .inl rfl
 ·exact .inl rfl
theorem zhp (lim : Int) (st : List UInt8 × Int) (enc : List UInt8) (ok : Bool) : (wput lim st.1 st.2 enc ok).1 = st.1 ∨ st.1.length < (wput lim st.1 st.2 enc ok).1.length := by
 rcases ZZG lim st enc ok with q | q
 ·exact .inl q
 ·cases enc with
  | nil => exact .inl (by rw [q, List.append_nil])
  | cons a l => exact .inr (by rw [q, List.length_append, List.length_cons]; omega)
theorem Jup (H : WrH h i j lim s bs e) {st st' : List UInt8 × Int} {k : Option Nat} {D R : List AB} (I : WInv D.length bs st (D ++ R) k) (hle : (st'.1.length : Int) ≤ lim) (hg : st'.1 = st.1 ∨ st.1.length < st'.1.length) : ∃ k' R', wOut (wX h i j lim s st k ++ (D ++ R)) i j lim (wK h s st k) st.1 st' = wX h i j lim s st' k' ++ (D ++ R') ∧ WInv D.length bs st' (D ++ R') k' := by
 have hlen : (wX h i j lim s st k ++ (D ++ R)).length = h.length + (D ++ R).length := by rw [List.length_append, X9p]
 have hil := H.il
 have hjl := H.jl
 unfold wOut
 have g2 : ∀ (A : List AB) (W0 W F0 F1 : AB), (((A.set i W0).set j F0).set i W).set j F1 = (A.set i W).set j F1 := fun A W0 W F0 F1 => by
  rw [List.set_comm _ _ (Ne.symm H.ne), List.set_set, List.set_set]
 by_cases hs : st'.1 = st.1
 ·rw [if_pos hs, if_pos hs]
  have e1 : wX (wX h i j lim s st k ++ (D ++ R)) i j lim (wK h s st k) st' none ++ [.dead] = wX h i j lim s st' k ++ (D ++ (R ++ [.dead])) := by
   show (wX h i j lim s st k ++ (D ++ R)).set j (blkF st'.2) ++ [.dead] = _
   rw [List.set_append_left _ _ (by rw [X9p]; exact hjl), show st = (st.1, st.2) from rfl, qEH, ← hs]
   simp only [List.append_assoc]
  refine ⟨k, R ++ [.dead], by rw [e1], ?_⟩
  cases k with
  | none => exact hs.trans I
  | some k =>
   obtain ⟨i0, i1, i2⟩ := I
   refine ⟨i0, by rw [hs]; exact i1, ?_⟩
   rw [← List.append_assoc, List.getElem?_append_left (List.getElem?_eq_some_iff.1 i2).1, hs]
   exact i2
 ·rw [if_neg hs, if_neg hs]
  have hlt := hg.resolve_left hs
  have e0 : (wX h i j lim s st k ++ (D ++ R)).length + 0 = h.length + (D ++ R).length := by rw [hlen, Nat.add_zero]
  cases k with
  | none =>
   have hb : st.1 = bs := I
   have e1 : wX (wX h i j lim s st none ++ (D ++ R)) i j lim s st' (some 0) ++ [resB XQp true st'.1] = wX h i j lim s st' (some (D ++ R).length) ++ (D ++ (R ++ [resB XQp true st'.1])) := by
    show ((YlR s (wX h i j lim s st none ++ (D ++ R))).set i (blkW j lim (apS XQp ((wX h i j lim s st none ++ (D ++ R)).length + 0) st'.1))).set j (blkF st'.2) ++ [resB XQp true st'.1] = _
    rw [e0]
    have k1 : YlR s (wX h i j lim s st none ++ (D ++ R)) = (YlR s h).set j (blkF st.2) ++ (D ++ R) := by
     rcases H.hs with ⟨q1, q2⟩ | ⟨q, q1, q2, q3⟩
     ·rw [q1]; rfl
     ·obtain ⟨p1, p2, p3, p4⟩ := H.q q1 q2
      rw [q1, YFm _ q2]
      simp only [YlR, wX]
      rw [List.set_append_left _ _ (by rw [List.length_set]; exact p4), List.set_comm _ _ (Ne.symm p3)]
    rw [k1, List.set_append_left _ _ (by rw [List.length_set, ZtQ]; exact hil), List.set_append_left _ _ (by rw [List.length_set, List.length_set, ZtQ]; exact hjl), List.set_comm _ _ (Ne.symm H.ne), List.set_set]
    simp only [wX, List.append_assoc]
   refine ⟨some (D ++ R).length, R ++ [resB XQp true st'.1], by simp only [wK]; rw [e1], ⟨by rw [List.length_append]; omega, by rw [← hb]; exact hlt, ?_⟩⟩
   rw [← List.append_assoc, List.getElem?_append_right (Nat.le_refl _), Nat.sub_self]
   rfl
  | some k =>
   obtain ⟨i0, i1, i2⟩ := I
   have hk := (List.getElem?_eq_some_iff.1 i2).1
   have h0 : st.1.length ≠ 0 := by omega
   have e2 : (D ++ R).set k .dead = D ++ R.set (k - D.length) .dead := List.set_append_right _ _ i0
   have e1 : wX (wX h i j lim s st (some k) ++ (D ++ R)) i j lim (wK h s st (some k)) st' (some 0) ++ [resB XQp true st'.1] = wX h i j lim s st' (some (D ++ R).length) ++ (D ++ (R.set (k - D.length) .dead ++ [resB XQp true st'.1])) := by
    show ((YlR (wK h s st (some k)) (wX h i j lim s st (some k) ++ (D ++ R))).set i (blkW j lim (apS XQp ((wX h i j lim s st (some k) ++ (D ++ R)).length + 0) st'.1))).set j (blkF st'.2) ++ [resB XQp true st'.1] = _
    rw [e0]
    have k1 : YlR (wK h s st (some k)) (wX h i j lim s st (some k) ++ (D ++ R)) = wX h i j lim s st (some k) ++ (D ++ R.set (k - D.length) .dead) := by
     simp only [wK]
     rw [YFm _ h0]
     show (wX h i j lim s st (some k) ++ (D ++ R)).set (h.length + k) .dead = _
     rw [List.set_append_right _ _ (by rw [X9p]; omega), X9p, Nat.add_sub_cancel_left, e2]
    rw [k1, List.set_append_left _ _ (by rw [X9p]; exact hil), List.set_append_left _ _ (by rw [List.length_set, X9p]; exact hjl)]
    have g3 := g2 (YlR s h) (blkW j lim (apS XQp (h.length + k) st.1)) (blkW j lim (apS XQp (h.length + (D ++ R).length) st'.1)) (blkF st.2) (blkF st'.2)
    simp only [wX]
    rw [g3]
    simp only [List.append_assoc]
   refine ⟨some (D ++ R).length, R.set (k - D.length) .dead ++ [resB XQp true st'.1], by rw [e1], ⟨by rw [List.length_append]; omega, by omega, ?_⟩⟩
   rw [← List.append_assoc, ← e2, List.getElem?_append_right (by rw [List.length_set]; exact Nat.le_refl _), List.length_set, Nat.sub_self]
   rfl
theorem KJ0 (H : WrH h i j lim s bs e) {st : List UInt8 × Int} {k : Option Nat} {D R : List AB} (I : WInv D.length bs st (D ++ R) k) (hl : (st.1.length : Int) ≤ lim) (enc : List UInt8) (ok : Bool) : ∃ k' R', wPut (wX h i j lim s st k ++ (D ++ R)) i enc ok = some (.i .i64 (wput lim st.1 st.2 enc ok).2, wX h i j lim s (wput lim st.1 st.2 enc ok) k' ++ (D ++ R')) ∧ WInv D.length bs (wput lim st.1 st.2 enc ok) (D ++ R') k' ∧ ((wput lim st.1 st.2 enc ok).1.length : Int) ≤ lim := by
 have hle := ZHa lim st.1 st.2 enc ok hl
 obtain ⟨k', R', q1, q2⟩ := Jup H I hle (zhp lim st enc ok)
 refine ⟨k', R', ?_, q2, hle⟩
 unfold wPut
 rw [(YFz H I hl).get, Option.bind_some, q1]
theorem YBE (H : WrH h i j lim s bs e) {f : Int → List UInt8 × Int → List UInt8 × Int} (F : FOk f) {st : List UInt8 × Int} {k : Option Nat} {D R : List AB} (I : WInv D.length bs st (D ++ R) k) (hl : (st.1.length : Int) ≤ lim) : ∃ k' R', wSeq f (wX h i j lim s st k ++ (D ++ R)) i = some (.tu [], wX h i j lim s (f lim st) k' ++ (D ++ R')) ∧ WInv D.length bs (f lim st) (D ++ R') k' ∧ ((f lim st).1.length : Int) ≤ lim := by
 have hle := F.le lim st hl
 obtain ⟨k', R', q1, q2⟩ := Jup H I hle (F.grow lim st)
 refine ⟨k', R', ?_, q2, hle⟩
 unfold wSeq
 rw [(YFz H I hl).get, Option.bind_some, q1]
theorem wX_0 (H : WrH h i j lim s bs e) : wX h i j lim s (bs, e) none = h := by
 simp only [wX]
 exact YTL H.hj
theorem K2q {P : Program} (H : WrH h i j lim s bs e) (hh : HOk h) {st : List UInt8 × Int} {k : Option Nat} {d : Nat} {L : List AB} (I : WInv d bs st L k) (v : AV) (hv : (v.fl || match v with | .tu [] => true | _ => false) = true) :
  Bt P h.length [v] (wX h i j lim s st k ++ L) [v] (wOut h i j lim s bs st) := by
 unfold wOut
 have hil := H.il
 have hjl := H.jl
 have hvo : ∀ q, v.ok q = true := fun q => by
  cases v <;> first | rfl | (cases hv; done) | skip
  rename_i l
  cases l <;> first | rfl | (cases hv; done)
 have hvr : ∀ f, v.ren f = v := fun f => by
  cases v <;> first | rfl | (cases hv; done) | skip
  rename_i l
  cases l <;> first | rfl | (cases hv; done)
 cases k with
 | none =>
  have hb : st.1 = bs := I
  rw [if_pos hb, if_pos hb]
  have hok : HOk (wX h i j lim s st none) := fun m B hB => by
   rw [X9p]
   simp only [wX] at hB
   by_cases hm : m = j
   ·subst hm
    rw [List.getElem?_set_self hjl] at hB
    cases hB
    rfl
   ·rw [List.getElem?_set_ne (Ne.symm hm)] at hB
    exact hh m B hB
  have h1 := Bt.drop (P := P) (h := wX h i j lim s st none) (v := v) (a := v) L hok rfl (hvo _)
  have h2 := Bt.pad (P := P) (p := h.length) [v] (wX h i j lim s st none) 1
  rw [X9p] at h1
  exact Bt.trans h1 h2
 | some k =>
  obtain ⟨i0, i1, i2⟩ := I
  have hne : st.1 ≠ bs := fun q => by rw [q] at i1; omega
  have h0 : st.1.length ≠ 0 := by omega
  rw [if_neg hne, if_neg hne]
  have := Bt.selO (P := P) (h := wX h i j lim s st (some k)) (g := wX h i j lim s st (some 0)) (l := L) (l' := [resB XQp true st.1]) (fr := [v]) (fr' := [v]) [k] (by rw [X9p, X9p]) (fun m B hB => ?_) (by simp) ⟨⟨_, i2, of_eq_true (Ygp _ _ _ _)⟩, trivial⟩ ⟨.inr ⟨hvo _, by rw [hvr]; exact Wk.refl _⟩, trivial⟩
  ·rw [X9p] at this
   exact this
  ·by_cases hm : m = i
   ·subst hm
    rw [wX_i H] at hB
    cases hB
    refine .inr ⟨_, wX_i H st (some k), ?_⟩
    simp only [wK, blkW]
    rw [YFm _ h0, YFm _ h0]
    refine ⟨id, ?_, ?_⟩
    ·simp only [Z3W, Kt4, ok_p, ok_i, X9p, Bool.and_true, Bool.and_eq_true]
     refine ⟨decide_eq_true (by omega), ?_⟩
     refine ⟨trivial, ?_⟩
     exact Zig (fun i => decide (i < h.length + [k].length)) _ _ _ _ _ (decide_eq_true (show h.length + 0 < h.length + 1 by omega))
    ·simp only [renL, AV.ren, X9p]
     rw [zLb hjl, show selN h.length [k] (h.length + 0) = h.length + k from Qbt 0]
     exact WkL.refl _
   ·by_cases hj : m = j
    ·subst hj
     rw [wX_j H] at hB
     cases hB
     exact .inl ⟨wX_j H st (some k), rfl⟩
    ·left
     have e1 : (wX h i j lim s st (some 0))[m]? = (YlR s h)[m]? := by
      simp only [wX]
      rw [List.getElem?_set_ne (Ne.symm hj), List.getElem?_set_ne (Ne.symm hm)]
     have e2 : (wX h i j lim s st (some k))[m]? = (YlR s h)[m]? := by
      simp only [wX]
      rw [List.getElem?_set_ne (Ne.symm hj), List.getElem?_set_ne (Ne.symm hm)]
     rw [e1] at hB
     rw [e2]
     refine ⟨hB, ?_⟩
     rw [X9p]
     unfold YlR at hB
     split at hB
     ·rw [List.getElem?_set] at hB
      split at hB
      ·split at hB
       ·cases hB; rfl
       ·cases hB
      ·exact hh m B hB
     ·exact hh m B hB
end
end Go.Proofs.Ytpoojfnmhnedpaa
end
section
namespace Go.Proofs.Ytpoojfnmhnedpaa
set_option maxRecDepth 100000
set_option maxHeartbeats 4000000
theorem JYI {h : List AB} (L : List AB) (k n m : Nat) (xs ys : List AV) (mu : Bool) (hb : L[k]? = some (.blk true mu xs)) (hx : xs.length = n) (hm : m ≠ 0) (hn : n + m ≤ 100000000) : appW (h ++ L) true 1 1 (.sl (h.length + k) 0 n n none) m ys = some (.sl (h.length + L.length) 0 (n + m) (n + m) (some 1), h ++ (L ++ [.blk true true (xs ++ ys)])) := by
 have hg : (h ++ L)[h.length + k]? = some (.blk true mu xs) := by rw [zSD]; exact hb
 simp only [appW, hg]
 rw [if_neg hm, if_neg (by omega), if_pos ⟨trivial, by omega, by omega, by unfold maxLen; omega⟩, List.drop_zero, List.take_of_length_le (by omega)]
 simp only [List.length_append, List.append_assoc, if_true]
noncomputable def KZV : List AV → List AB → Option (AV × List AB)
 | [.i .i64 n], h => if 0 ≤ n ∧ n ≤ 9223372036854775807 then some (if n < 192 then .sl h.length 0 1 1 none else apS XQp h.length (Jmv n), h ++ [resB XQp true (Jmv n)]) else none
 | _, _ => none
def numS (id : Nat) (n : Int) (j : Nat) : AV := if j = 0 then .sl id 0 1 1 none else apS XQp id (Jhj n j)
theorem qdV : Spec Try.prog 63 KZV := by
 intro args h v h' e
 unfold KZV at e
 split at e
 ·rename_i n
  split at e
  ·rename_i hn
   cases e
   refine FnAt.c (FnAt.run (by kernel_rfl) (T := ⟨[], []⟩) ⟨trivial, trivial⟩ Try.func63 sw63 fun ho hh => ?_)
   unfold w63
   by_cases g1 : n < 192
   ·have g1' := eq_true g1
    have hr : XDt n = 0 := by unfold XDt; rw [if_pos g1]
    have he : Jmv n = [UInt8.ofInt n] := by unfold Jmv; rw [if_pos hr]
    rw [he, if_pos g1]
    simp only [Qfy, Q7I, qe2, qur, X6x, simprocAttr, CO.tmps, Opd.tmps, optT, Nat.reducePow, Nat.reduceDiv, Nat.reduceMod, g1', JM2, XJc, z68, Xhf, Zrv, QZT, qVj]
    exact Bt.eq rfl (by rw [Ztp]; rfl)
   ·have g1' := eq_false g1
    have hr : XDt n = JmT 7 n 1 := by unfold XDt; rw [if_neg g1]
    have hbd := Jz7 n 7 1
    have hne : XDt n ≠ 0 := by omega
    have he : Jmv n = Jhj n (XDt n) := by unfold Jmv; rw [if_neg hne]; rfl
    rw [he, if_neg g1]
    simp only [Qfy, Q7I, qe2, qur, X6x, simprocAttr, CO.tmps, Opd.tmps, optT, Nat.reducePow, Nat.reduceDiv, Nat.reduceMod, g1']
    refine QSO (S := Nat) (fun k => 8 - k) (fun k => [.i .i64 n] ++ tp 2 ++ [.i .i64 k] ++ tp 37) (fun _ => h) (fun k => 1 ≤ k ∧ k ≤ 8 ∧ JmT 7 n 1 = JmT (8 - k) n k) 1 ⟨Nat.le_refl _, by decide, rfl⟩ (by rw [List.append_nil]; exact Bt.wk (by simp only [qe2, X6x, simprocAttr])) fun k hk => ?_
    obtain ⟨k1, k8, ks⟩ := hk
    have e1 : IntKind.i64.wrap (8 * (k : Int)) = ((8 * k : Nat) : Int) := by rw [Int.natCast_mul]; exact zdT (by unfold In64; omega)
    have e2 : IntKind.i64.wrap ((k : Int) + 1) = ((k + 1 : Nat) : Int) := zdT (by unfold In64; omega)
    have e3 : min (8 * k) 64 = 8 * k := by omega
    have e5 : Int.fdiv n (2 ^ (8 * k)) = n / 2 ^ (8 * k) := Int.fdiv_eq_ediv_of_nonneg _ (Int.le_of_lt (Int.pow_pos (by decide)))
    by_cases g4 : k < 8 ∧ 0 < n / 2 ^ (8 * k)
    ·have g2' : ((k : Int) < 8) = True := eq_true (by omega)
     have g3' := eq_true g4.2
     have ss : JmT (8 - k) n k = JmT (8 - (k + 1)) n (k + 1) := by
      rw [show 8 - k = (8 - (k + 1)) + 1 by omega]
      show (if 0 < n / 2 ^ (8 * k) then JmT (8 - (k + 1)) n (k + 1) else k) = _
      rw [if_pos g4.2]
     simp only [qe2, qur, X6x, simprocAttr, CO.tmps, Opd.tmps, optT, Nat.reducePow, Nat.reduceDiv, Nat.reduceMod, g2', e1, e2, e3, e5, g3', KUB, Q7H, ZY2]
     exact ⟨k + 1, ⟨by omega, by omega, by rw [ks, ss]⟩, by dsimp only; omega, Bt.wk (by simp only [qe2, X6x, simprocAttr])⟩
    ·have hK : XDt n = k := by
      rw [hr, ks]
      by_cases g2 : k < 8
      ·rw [show 8 - k = (8 - (k + 1)) + 1 by omega]
       show (if 0 < n / 2 ^ (8 * k) then JmT (8 - (k + 1)) n (k + 1) else k) = k
       rw [if_neg fun q => g4 ⟨g2, q⟩]
      ·obtain rfl : k = 8 := by omega
       rfl
     have w1 : IntKind.i64.wrap (191 + (k : Int)) = 191 + (k : Int) := zdT (by unfold In64; omega)
     have w2 : IntKind.i64.wrap ((k : Int) - 1) = (k : Int) - 1 := zdT (by unfold In64; omega)
     have n0 : Jhj n 0 = [UInt8.ofInt (191 + (k : Int))] := by unfold Jhj; rw [hK]; rfl
     by_cases g2 : k < 8
     ·have g2' : ((k : Int) < 8) = True := eq_true (by omega)
      have g3' := eq_false fun q => g4 ⟨g2, q⟩
      simp only [qe2, qur, X6x, simprocAttr, CO.tmps, Opd.tmps, optT, Nat.reducePow, Nat.reduceDiv, Nat.reduceMod, g2', e1, e2, e3, e5, g3', KUB, Q7H, ZY2, w1, w2, JM2, XJc, z68, Xhf, Zrv, QZT, qVj]
      refine QSO (S := Nat) (fun j => k - j) (fun j => [.i .i64 n] ++ tp 3 ++ [numS h.length n j, .i .i64 ((k : Int) - 1 - (j : Int))] ++ tp 35) (fun j => h ++ [resB XQp true (Jhj n j)]) (fun j => j ≤ k) 0 (Nat.zero_le _) (by
       rw [n0, Ztp]
       exact Bt.wk (by simp only [qe2, X6x, simprocAttr, numS, Int.natCast_zero, Int.sub_zero])) fun j hj => ?_
      by_cases gj : j < k
      ·have gj' : ((0 : Int) ≤ (k : Int) - 1 - (j : Int)) = True := eq_true (by omega)
       have q3 : IntKind.i64.wrap (8 * ((k : Int) - 1 - (j : Int))) = ((8 * (k - 1 - j) : Nat) : Int) := by
        rw [show 8 * ((k : Int) - 1 - (j : Int)) = ((8 * (k - 1 - j) : Nat) : Int) by omega]
        exact zdT (by unfold In64; omega)
       have q4 : min (8 * (k - 1 - j)) 64 = 8 * (k - 1 - j) := by omega
       have q5 : Int.fdiv n (2 ^ (8 * (k - 1 - j))) = n / 2 ^ (8 * (k - 1 - j)) := Int.fdiv_eq_ediv_of_nonneg _ (Int.le_of_lt (Int.pow_pos (by decide)))
       have q6 : IntKind.i64.wrap ((k : Int) - 1 - (j : Int) - 1) = (k : Int) - 1 - ((j + 1 : Nat) : Int) := by
        rw [show (k : Int) - 1 - (j : Int) - 1 = (k : Int) - 1 - ((j + 1 : Nat) : Int) by omega]
        exact zdT (by unfold In64; omega)
       have hB : (Jhj n j).length ≠ 0 := by rw [qBE]; omega
       have lo := qBE n j
       have fa : ∀ B ys, appW (h ++ [resB XQp true (Jhj n j), B]) true 1 1 (numS h.length n j) 1 ys = some (.sl (h.length + 2) 0 (j + 2) (j + 2) (some 1), h ++ [if j = 0 then resB XQp true (Jhj n j) else .dead, B, .blk true true (XQp.cells (Jhj n j) ++ ys)]) := fun B ys => by
        unfold numS
        by_cases j0 : j = 0
        ·rw [if_pos j0, if_pos j0, j0]
         have := JYI (h := h) [resB XQp true (Jhj n 0), B] 0 1 1 (XQp.cells (Jhj n 0)) ys true (by rw [qgk (by rw [qBE]; decide)]; rfl) (by rw [XQp.cells_len, ZGD, qBE]) (by decide) (by decide)
         rw [Nat.add_zero] at this
         exact this
        ·rw [if_neg j0, if_neg j0, JeD _ hB]
         have := XS3 (h := h) (p := h.length) rfl (r := XQp) (sz := 1) rfl [resB XQp true (Jhj n j), B] 0 (Jhj n j) 1 1 ys hB (of_eq_true (YKt _ _)) (by decide) (by omega) (by unfold maxLen; omega)
         rw [Nat.add_zero, lo] at this
         exact this
       have ns1 : (numS h.length n j).isStr = false := by unfold numS; split <;> first | rfl | exact YPo _ _
       simp only [qe2, qur, X6x, simprocAttr, CO.tmps, Opd.tmps, optT, Nat.reducePow, Nat.reduceDiv, Nat.reduceMod, gj', q3, q4, q5, q6, KUB, Q7H, ZY2, JM2, XJc, z68, Xhf, Zrv, QZT, qVj, XiN, fa, ns1]
       refine ⟨j + 1, gj, by dsimp only; omega, ?_⟩
       have hst : numS h.length n (j + 1) = .sl h.length 0 (j + 2) (j + 2) (some 1) := by
        unfold numS
        rw [if_neg (by omega), YFm _ (by rw [qBE]; omega), qBE]
       have hst2 : resB XQp true (Jhj n (j + 1)) = .blk true true (XQp.cells (Jhj n j) ++ [u8A (UInt8.ofInt (n / 2 ^ (8 * (k - 1 - j))))]) := by
        rw [XkE, Qtn, Jp5, hK]
        rfl
       simp only [hst, hst2]
       exact Bt.sel [2] hh (by decide) (by simp only [XQy, FrSel, BlkSel, AV.ren, renL, AV.ok, okL, Option.some.injEq, exists_eq_left', List.length_cons, List.length_nil, Nat.reduceAdd, Nat.reduceLT, reduceCtorEq, implies_true, exists_eq']) (by simp only [tp_0, tp_s, Qtm, YXO, XQy, FrSel, BlkSel, AV.ren, renL, AV.ok, okL, Option.some.injEq, exists_eq_left', List.length_cons, List.length_nil, Nat.reduceAdd, Nat.reduceLT, reduceCtorEq, implies_true, exists_eq'])
      ·obtain rfl : j = k := by omega
       have gj' : ((0 : Int) ≤ (j : Int) - 1 - (j : Int)) = False := eq_false (by omega)
       simp only [qe2, qur, X6x, simprocAttr, CO.tmps, Opd.tmps, optT, Nat.reducePow, Nat.reduceDiv, Nat.reduceMod, gj', XiN]
       rw [hK]
       refine Bt.eq ?_ rfl
       unfold numS
       rw [if_neg (by omega)]
     ·have g2' : ((k : Int) < 8) = False := eq_false (by omega)
      simp only [qe2, qur, X6x, simprocAttr, CO.tmps, Opd.tmps, optT, Nat.reducePow, Nat.reduceDiv, Nat.reduceMod, g2', e1, e2, e3, e5, KUB, Q7H, ZY2, w1, w2, JM2, XJc, z68, Xhf, Zrv, QZT, qVj]
      refine QSO (S := Nat) (fun j => k - j) (fun j => [.i .i64 n] ++ tp 3 ++ [numS h.length n j, .i .i64 ((k : Int) - 1 - (j : Int))] ++ tp 35) (fun j => h ++ [resB XQp true (Jhj n j)]) (fun j => j ≤ k) 0 (Nat.zero_le _) (by
       rw [n0, Ztp]
       exact Bt.wk (by simp only [qe2, X6x, simprocAttr, numS, Int.natCast_zero, Int.sub_zero])) fun j hj => ?_
      by_cases gj : j < k
      ·have gj' : ((0 : Int) ≤ (k : Int) - 1 - (j : Int)) = True := eq_true (by omega)
       have q3 : IntKind.i64.wrap (8 * ((k : Int) - 1 - (j : Int))) = ((8 * (k - 1 - j) : Nat) : Int) := by
        rw [show 8 * ((k : Int) - 1 - (j : Int)) = ((8 * (k - 1 - j) : Nat) : Int) by omega]
        exact zdT (by unfold In64; omega)
       have q4 : min (8 * (k - 1 - j)) 64 = 8 * (k - 1 - j) := by omega
       have q5 : Int.fdiv n (2 ^ (8 * (k - 1 - j))) = n / 2 ^ (8 * (k - 1 - j)) := Int.fdiv_eq_ediv_of_nonneg _ (Int.le_of_lt (Int.pow_pos (by decide)))
       have q6 : IntKind.i64.wrap ((k : Int) - 1 - (j : Int) - 1) = (k : Int) - 1 - ((j + 1 : Nat) : Int) := by
        rw [show (k : Int) - 1 - (j : Int) - 1 = (k : Int) - 1 - ((j + 1 : Nat) : Int) by omega]
        exact zdT (by unfold In64; omega)
       have hB : (Jhj n j).length ≠ 0 := by rw [qBE]; omega
       have lo := qBE n j
       have fa : ∀ B ys, appW (h ++ [resB XQp true (Jhj n j), B]) true 1 1 (numS h.length n j) 1 ys = some (.sl (h.length + 2) 0 (j + 2) (j + 2) (some 1), h ++ [if j = 0 then resB XQp true (Jhj n j) else .dead, B, .blk true true (XQp.cells (Jhj n j) ++ ys)]) := fun B ys => by
        unfold numS
        by_cases j0 : j = 0
        ·rw [if_pos j0, if_pos j0, j0]
         have := JYI (h := h) [resB XQp true (Jhj n 0), B] 0 1 1 (XQp.cells (Jhj n 0)) ys true (by rw [qgk (by rw [qBE]; decide)]; rfl) (by rw [XQp.cells_len, ZGD, qBE]) (by decide) (by decide)
         rw [Nat.add_zero] at this
         exact this
        ·rw [if_neg j0, if_neg j0, JeD _ hB]
         have := XS3 (h := h) (p := h.length) rfl (r := XQp) (sz := 1) rfl [resB XQp true (Jhj n j), B] 0 (Jhj n j) 1 1 ys hB (of_eq_true (YKt _ _)) (by decide) (by omega) (by unfold maxLen; omega)
         rw [Nat.add_zero, lo] at this
         exact this
       have ns1 : (numS h.length n j).isStr = false := by unfold numS; split <;> first | rfl | exact YPo _ _
       simp only [qe2, qur, X6x, simprocAttr, CO.tmps, Opd.tmps, optT, Nat.reducePow, Nat.reduceDiv, Nat.reduceMod, gj', q3, q4, q5, q6, KUB, Q7H, ZY2, JM2, XJc, z68, Xhf, Zrv, QZT, qVj, XiN, fa, ns1]
       refine ⟨j + 1, gj, by dsimp only; omega, ?_⟩
       have hst : numS h.length n (j + 1) = .sl h.length 0 (j + 2) (j + 2) (some 1) := by
        unfold numS
        rw [if_neg (by omega), YFm _ (by rw [qBE]; omega), qBE]
       have hst2 : resB XQp true (Jhj n (j + 1)) = .blk true true (XQp.cells (Jhj n j) ++ [u8A (UInt8.ofInt (n / 2 ^ (8 * (k - 1 - j))))]) := by
        rw [XkE, Qtn, Jp5, hK]
        rfl
       simp only [hst, hst2]
       exact Bt.sel [2] hh (by decide) (by simp only [XQy, FrSel, BlkSel, AV.ren, renL, AV.ok, okL, Option.some.injEq, exists_eq_left', List.length_cons, List.length_nil, Nat.reduceAdd, Nat.reduceLT, reduceCtorEq, implies_true, exists_eq']) (by simp only [tp_0, tp_s, Qtm, YXO, XQy, FrSel, BlkSel, AV.ren, renL, AV.ok, okL, Option.some.injEq, exists_eq_left', List.length_cons, List.length_nil, Nat.reduceAdd, Nat.reduceLT, reduceCtorEq, implies_true, exists_eq'])
      ·obtain rfl : j = k := by omega
       have gj' : ((0 : Int) ≤ (j : Int) - 1 - (j : Int)) = False := eq_false (by omega)
       simp only [qe2, qur, X6x, simprocAttr, CO.tmps, Opd.tmps, optT, Nat.reducePow, Nat.reduceDiv, Nat.reduceMod, gj', XiN]
       rw [hK]
       refine Bt.eq ?_ rfl
       unfold numS
       rw [if_neg (by omega)]
  ·cases e
 ·cases e
end Go.Proofs.Ytpoojfnmhnedpaa
end
section
namespace Go.Proofs.Ytpoojfnmhnedpaa
set_option maxRecDepth 100000
set_option maxHeartbeats 4000000
def ZJ7 : List AV → List AB → Option (AV × List AB)
 | [.p i 0], h => match qhl h i with
   | some [.p _ 0, _, _] => some (.b false, h)
   | _ => none
 | _, _ => none
theorem zWT : Spec Try.prog 57 ZJ7 := by
 intro args h v h' e
 unfold ZJ7 at e
 split at e
 ·rename_i i
  split at e
  ·rename_i j s p hb
   cases e
   refine FnAt.c (FnAt.run (by kernel_rfl) (T := ⟨[], []⟩) ⟨trivial, trivial⟩ Try.func57 sw57 fun ho hh => ?_)
   have f1 := zW9 hb
   unfold w57
   simp only [Qfy, Q7I, qe2, qur, X6x, simprocAttr, CO.tmps, Opd.tmps, optT, Nat.reducePow, Nat.reduceDiv, Nat.reduceMod, f1, zBI, List.getElem?_cons_zero, List.getElem?_cons_succ]
   exact Bt.dropB _ hh rfl
  ·cases e
 ·cases e
def Zu3 : List AV → List AB → Option (AV × List AB)
 | [.i .i64 n], h => if 0 ≤ n ∧ n ≤ 67108864 then some (.tu [.p h.length 0, .i .i64 0], h ++ [.blk false true [.p (h.length + 1) 0, .i .i64 n, .ns], .blk true true [.i .i64 0, .i .i64 0]]) else none
 | _, _ => none
theorem zoE : Spec Try.prog 27 Zu3 := by
 intro args h v h' e
 unfold Zu3 at e
 split at e
 ·rename_i n
  split at e
  ·rename_i hn
   cases e
   refine FnAt.c (FnAt.run (by kernel_rfl) (T := ⟨[], []⟩) ⟨trivial, trivial⟩ Try.func27 sw27 fun ho hh => ?_)
   have g1 : (n < 0) = False := eq_false (by omega)
   have g2 : ((67108864 : Int) < n) = False := eq_false (by omega)
   unfold w27
   simp only [Qfy, Q7I, qe2, qur, X6x, simprocAttr, CO.tmps, Opd.tmps, optT, Nat.reducePow, Nat.reduceDiv, Nat.reduceMod, g1, g2]
   exact Bt.sel [1, 0] hh (by decide) (by simp only [XQy, FrSel, BlkSel, AV.ren, renL, AV.ok, okL, Option.some.injEq, exists_eq_left', List.length_cons, List.length_nil, Nat.reduceAdd, Nat.reduceLT, reduceCtorEq, implies_true, exists_eq', XPY, YTs]) (by simp only [XQy, FrSel, BlkSel, AV.ren, renL, AV.ok, okL, Option.some.injEq, exists_eq_left', List.length_cons, List.length_nil, Nat.reduceAdd, Nat.reduceLT, reduceCtorEq, implies_true, exists_eq'])
  ·cases e
 ·cases e
end Go.Proofs.Ytpoojfnmhnedpaa
end
section
namespace Go.Proofs.Ytpoojfnmhnedpaa
set_option maxRecDepth 100000
set_option maxHeartbeats 4000000
def wtr (h : List AB) (i : Nat) : Option (Nat × Int × AV × Int × Int) := match h[i]? with
 | some (.blk false _ [.p j 0, .i .i64 n, s]) => match qhl h j with
  | some [.i .i64 e, .i .i64 a] => some (j, n, s, e, a)
  | _ => none
 | _ => none
theorem QHm {β : Type} {h : List AB} {i : Nat} {f : Nat × Int × AV × Int × Int → Option β} {b : β} (q : (wtr h i).bind f = some b) : ∃ j n s e a, (∃ m, h[i]? = some (.blk false m [.p j 0, .i .i64 n, s])) ∧ qhl h i = some [.p j 0, .i .i64 n, s] ∧ qhl h j = some [.i .i64 e, .i .i64 a] ∧ f (j, n, s, e, a) = some b := by
 obtain ⟨x, h1, h2⟩ := Option.bind_eq_some_iff.1 q
 unfold wtr at h1
 split at h1
 ·rename_i hb
  split at h1
  ·rename_i hc
   cases h1
   exact ⟨_, _, _, _, _, ⟨_, hb⟩, by unfold qhl; rw [hb], hc, h2⟩
  ·cases h1
 ·cases h1
theorem qau {h : List AB} (hh : HOk h) {i j : Nat} {s : AV} {n : Int} {m : Bool} (q : h[i]? = some (.blk false m [.p j 0, .i .i64 n, s])) : s.ok (fun k => decide (k < h.length)) = true := by
 have := hh i _ q
 simp only [AB.ok, Z3W, Bool.and_eq_true] at this
 exact this.2.2.1
noncomputable def YlB : List AV → List AB → Option (AV × List AB)
 | [.p i 0], h => (wtr h i).bind fun x => (getS XQp h x.2.2.1).bind fun bs => if bs.length ≤ 1000000 then
   if x.2.2.2.1 = 0 then some (.tu [rsl XQp h.length bs, .i .i64 0], h ++ [resB XQp true bs]) else some (.tu [.ns, .i .i64 x.2.2.2.1], h)
   else none
 | _, _ => none
theorem YM3 : Spec Try.prog 30 YlB := by
 intro args h v h' e
 unfold YlB at e
 split at e
 ·rename_i i
  obtain ⟨j, n, s, er, a, ⟨m, hi⟩, hb, hc, e⟩ := QHm e
  dsimp only at e
  obtain ⟨bs, hs, e⟩ := Kra e
  split at e
  ·rename_i hl
   have l1 := eq_true hl
   refine FnAt.c (FnAt.run (by kernel_rfl) (T := ⟨[⟨57, ZJ7, fun _ => []⟩, ⟨58, YAu, fun _ => []⟩, ⟨59, ZsH, fun _ => []⟩], []⟩) ⟨⟨zWT, YgM, QwR, trivial⟩, trivial⟩ Try.func30 sw30 fun ho hh => ?_)
   have f1 := zW9 hb
   have f2 := zW9 hc
   have f3 := hs.fx (qau hh hi) (sz := 1) rfl
   unfold w30
   by_cases g : er = 0
   ·have g' := eq_true g
    rw [if_pos g] at e
    cases e
    simp only [Qfy, Q7I, qe2, qur, X6x, simprocAttr, CO.tmps, Opd.tmps, optT, Nat.reducePow, Nat.reduceDiv, Nat.reduceMod, f1, f2, f3, g', l1, ZJ7, YAu, ZsH, zBI, List.getElem?_cons_zero, List.getElem?_cons_succ, ne_eq, not_true_eq_false, decide_true, decide_false]
    exact Bt.eq rfl rfl
   ·have g' := eq_false g
    rw [if_neg g] at e
    cases e
    simp only [Qfy, Q7I, qe2, qur, X6x, simprocAttr, CO.tmps, Opd.tmps, optT, Nat.reducePow, Nat.reduceDiv, Nat.reduceMod, f1, f2, f3, g', l1, ZJ7, YAu, ZsH, zBI, List.getElem?_cons_zero, List.getElem?_cons_succ, ne_eq, not_false_eq_true, decide_true, decide_false]
    exact Bt.drop _ hh rfl (by simp only [zEo, Z3W, Kt4, Khg, ok_i, Bool.and_true])
  ·cases e
 ·cases e
end Go.Proofs.Ytpoojfnmhnedpaa
end
