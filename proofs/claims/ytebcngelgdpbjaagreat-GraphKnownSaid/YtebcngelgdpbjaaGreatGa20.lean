/- Part 20 of what the laws' proofs rest on. No condition. -/
import Derived.Test.YtebcngelgdpbjaaGreatGa19
set_option linter.all false
section
namespace Go.Proofs.YtebcngelgdpbjaaGreat
def X1r := (And.intro (And.intro (And.intro (And.intro (And.intro (And.intro (And.intro @ZaK (And.intro @ZlH @Kb4)) (And.intro (And.intro @J0T @ZLC) (And.intro @qZY @YLp))) (And.intro (And.intro @K0U (And.intro @Z3Z @Xcs)) (And.intro (And.intro @XDG @J3M) (And.intro @KIP @qB1)))) (And.intro (And.intro (And.intro @qOG (And.intro @ZyP @XPQ)) (And.intro (And.intro @YbP @QSt) (And.intro @qBi @znH))) (And.intro (And.intro (And.intro @qua @W_op) (And.intro @ZHP @zq0)) (And.intro (And.intro @X5C @qmY) (And.intro @JLI @QTs))))) (And.intro (And.intro (And.intro (And.intro @QRI (And.intro @QqU @q7h)) (And.intro (And.intro @Zbm @JvT) (And.intro @pl_0 @pl_s))) (And.intro (And.intro @Zgc (And.intro @YCc @zMc)) (And.intro (And.intro @zma @ev_t) (And.intro @ev_c @Y49)))) (And.intro (And.intro (And.intro @JfI (And.intro @X6D @Xyg)) (And.intro (And.intro @qOl @YHF) (And.intro @XXn @XHE))) (And.intro (And.intro (And.intro @zjm @J3Y) (And.intro @Qtx @Khk)) (And.intro (And.intro @YWR @Yva) (And.intro @zva @qX6)))))) (And.intro (And.intro (And.intro (And.intro (And.intro @Xte (And.intro @JjQ @ZRm)) (And.intro (And.intro @ZEA @zRQ) (And.intro @Jzu @KGq))) (And.intro (And.intro @z4W (And.intro @zJM @qYW)) (And.intro (And.intro @QPk @XO1) (And.intro @XQf @Ys0)))) (And.intro (And.intro (And.intro @JLH (And.intro @qTR @QPA)) (And.intro (And.intro @YIC @zkn) (And.intro @QF0 @Zzo))) (And.intro (And.intro (And.intro @YVZ @ZAo) (And.intro @zVi @KtV)) (And.intro (And.intro @qKA @Ktl) (And.intro @JKQ @J0U))))) (And.intro (And.intro (And.intro (And.intro @zyw (And.intro @Tab.at_nil @Tab.at_cons)) (And.intro (And.intro @q7z @Qt9) (And.intro @QXI @zYT))) (And.intro (And.intro (And.intro @Xnw @qT2) (And.intro @ZCr @JsX)) (And.intro (And.intro @K5J @qI2) (And.intro @JwX @Zjr)))) (And.intro (And.intro (And.intro @Zox (And.intro @JMb @zU1)) (And.intro (And.intro @qUJ @all_cons) (And.intro @Kav @qg5))) (And.intro (And.intro (And.intro @zCo @XNO) (And.intro @KH2 @qLG)) (And.intro (And.intro @z4i @XH6) (And.intro @KZX @JOg))))))) (And.intro (And.intro (And.intro (And.intro (And.intro (And.intro @zfy (And.intro @QeY @zlw)) (And.intro (And.intro @JaT @Yv6) (And.intro @qvM @Y7r))) (And.intro (And.intro @zgN (And.intro @QUv @qTw)) (And.intro (And.intro @zcZ @XL3) (And.intro @X9C @JwG)))) (And.intro (And.intro (And.intro @qg2 (And.intro @QJv @XZZ)) (And.intro (And.intro @QAH @QYa) (And.intro @YFu @QJH))) (And.intro (And.intro (And.intro @X2G @Jfk) (And.intro @KWZ @JoB)) (And.intro (And.intro @zh2 @YkC) (And.intro @ZN2 @Xng))))) (And.intro (And.intro (And.intro (And.intro @true_and (And.intro @and_true @true_implies)) (And.intro (And.intro @Bool.true_and @Bool.and_true) (And.intro @Bool.false_and @Bool.and_false))) (And.intro (And.intro (And.intro @Nat.lt_add_one @tp_0) (And.intro @tp_s @qG5)) (And.intro (And.intro @Jcf @zmc) (And.intro @qSo @Int.cast_ofNat_Int)))) (And.intro (And.intro (And.intro @Int.natCast_inj (And.intro @Int.ofNat_lt @Int.ofNat_le)) (And.intro (And.intro @Int.toNat_natCast @Int.natCast_nonneg) (And.intro @not_false_eq_true @not_true_eq_false))) (And.intro (And.intro (And.intro @Bool.false_eq_true @YCu) (And.intro @z92 @zY8)) (And.intro (And.intro @Yzc @K8w) (And.intro @zas @Q7N)))))) (And.intro (And.intro (And.intro (And.intro (And.intro @z3Q (And.intro @qBT @XIn)) (And.intro (And.intro @qZZ @qfO) (And.intro @z1l @QqO))) (And.intro (And.intro @Xh7 (And.intro @zyP @Kv3)) (And.intro (And.intro @JsW @Xb7) (And.intro @zor @Qy9)))) (And.intro (And.intro (And.intro @zcp (And.intro @XAn @q5Y)) (And.intro (And.intro @zo5 @Z8M) (And.intro @qH0 @ZPC))) (And.intro (And.intro (And.intro @YGj @XJO) (And.intro @zob @zeJ)) (And.intro (And.intro @Zdw @KRW) (And.intro @XOq @qb9))))) (And.intro (And.intro (And.intro (And.intro @Xf7 (And.intro @qy1 @QmB)) (And.intro (And.intro @zlI @KNX) (And.intro @JFs @KXo))) (And.intro (And.intro (And.intro @XFB @ZqB) (And.intro @Ky0 @Y4N)) (And.intro (And.intro @XKn @JPb) (And.intro @zpT @JoA)))) (And.intro (And.intro (And.intro @Xt0 (And.intro @Nat.add_assoc @Ybo)) (And.intro (And.intro @JY6 @KUH) (And.intro @Q4Q @zlS))) (And.intro (And.intro (And.intro @QAB @Yba) (And.intro @XN5 @ZD1)) (And.intro (And.intro @JCL @Ye5) (And.intro @Qjr @qhD))))))))
def Z1C := (And.intro (And.intro (And.intro (And.intro (And.intro (And.intro (And.intro @q6L @qao) (And.intro @KLR @Jsy)) (And.intro (And.intro @ZH5 @ZRa) (And.intro @KDS @qph))) (And.intro (And.intro (And.intro @QNK @QDx) (And.intro @Q1y @ZXE)) (And.intro (And.intro @Y1o @qS0) (And.intro @zPF @QkB)))) (And.intro (And.intro (And.intro (And.intro @qX2 @YZL) (And.intro @Qyt @quK)) (And.intro (And.intro @XyI @XnF) (And.intro @K5I @qbK))) (And.intro (And.intro (And.intro @JTX @QE6) (And.intro @qwE @Kvi)) (And.intro (And.intro @Yhy @KBY) (And.intro @Kmw (And.intro @q3C @z6v)))))) (And.intro (And.intro (And.intro (And.intro (And.intro @zv7 @XCb) (And.intro @zZA @J18)) (And.intro (And.intro @Qbc @qJV) (And.intro @JLb @K54))) (And.intro (And.intro (And.intro @X1F @Y3P) (And.intro @Zu0 @XWG)) (And.intro (And.intro @XpA @Qpo) (And.intro @zgD @YRC)))) (And.intro (And.intro (And.intro (And.intro @qkQ @qnJ) (And.intro @KGn @XY5)) (And.intro (And.intro @Ylq @K02) (And.intro @YLV @ZW7))) (And.intro (And.intro (And.intro @qWL @Jjl) (And.intro @J8K @ZiD)) (And.intro (And.intro @zIa @KdM) (And.intro @qfU (And.intro @KzS @znw))))))) (And.intro (And.intro (And.intro (And.intro (And.intro (And.intro @qIi @KdB) (And.intro @qN2 @Zf4)) (And.intro (And.intro @JnA @XfZ) (And.intro @qjX @JQR))) (And.intro (And.intro (And.intro @QHx @Zjp) (And.intro @Zra @XnY)) (And.intro (And.intro @Jsj @ZnX) (And.intro @ok_i @ok_b)))) (And.intro (And.intro (And.intro (And.intro @ok_s @Yiy) (And.intro @qj2 @K3Z)) (And.intro (And.intro @ok_p @ok_y) (And.intro @q5T @ok_f))) (And.intro (And.intro (And.intro @JAX @ZVf) (And.intro @YI0 @qMC)) (And.intro (And.intro @YeG @JRH) (And.intro @KNG (And.intro @JpE @Qsf)))))) (And.intro (And.intro (And.intro (And.intro (And.intro @JbH @qiT) (And.intro @YNo @any_cons)) (And.intro (And.intro @zoY @YWg) (And.intro @Ys6 @K9Z))) (And.intro (And.intro (And.intro @JZs @YFp) (And.intro @Jas @YpS)) (And.intro (And.intro @YAx @KEC) (And.intro @Tab.ws_nil (And.intro @Tab.ws_cons @decide_true))))) (And.intro (And.intro (And.intro (And.intro @decide_false @Bool.or_true) (And.intro @Bool.or_false @Bool.true_or)) (And.intro (And.intro @Bool.false_or @Bool.not_true) (And.intro @Bool.not_false @KSz))) (And.intro (And.intro (And.intro @XNG @ZyC) (And.intro @Z96 @z1F)) (And.intro (And.intro @qbd @Zh8) (And.intro @Kws (And.intro @ZrT @XPg))))))))
def q9C := (And.intro (And.intro (And.intro (And.intro (And.intro @YEP @XkF) (And.intro @zQ9 (And.intro @Q7n @Y0G))) (And.intro (And.intro @nd_0 (And.intro @nd_s @KdD)) (And.intro @qSo (And.intro @zmc @QJv)))) (And.intro (And.intro (And.intro @XZZ (And.intro @decide_eq_true_eq @Bool.and_eq_true)) (And.intro @Bool.and_true (And.intro @Bool.true_and @Nat.lt_add_right_iff_pos))) (And.intro (And.intro @Nat.lt_add_one (And.intro @Nat.add_lt_add_iff_left @Nat.zero_lt_succ)) (And.intro @or_true (And.intro @true_or @and_true))))) (And.intro (And.intro (And.intro (And.intro @true_and @and_self) (And.intro @Nat.zero_add (And.intro @Nat.add_zero @false_or))) (And.intro (And.intro @zfI (And.intro @q2w @YRK)) (And.intro @Zsn (And.intro @Jcf @qG5)))) (And.intro (And.intro (And.intro @imp_self (And.intro @QPP @ZeO)) (And.intro @JEE (And.intro @KdC @decide_true))) (And.intro (And.intro @Bool.or_true (And.intro @ZIs @ZLM)) (And.intro @J8D (And.intro @KvR @Nat.lt_irrefl))))))
def zVp := (And.intro (And.intro (And.intro @JQZ @Jty) (And.intro @zW5 (And.intro @QWQ @Xlq))) (And.intro (And.intro @YaF @KOs) (And.intro @ZIr (And.intro @zaA @JUJ))))
end Go.Proofs.YtebcngelgdpbjaaGreat
end
section
namespace Go.Proofs.YtebcngelgdpbjaaGreat
set_option maxRecDepth 100000
abbrev Dots := List (Int × Int)
end Go.Proofs.YtebcngelgdpbjaaGreat
end
section
namespace Go.Proofs.YtebcngelgdpbjaaGreat
set_option maxRecDepth 100000
def z57 : List AV → List AB → Option (AV × List AB)
 | [.i .i64 _], h => some (.b false, h)
 | _, _ => none
theorem qRW : Spec Tryz.prog 200 z57 := by
 intro args h v h' e
 unfold z57 at e
 split at e
 ·cases e
  refine FnAt.c (FnAt.run (by kernel_rfl) (T := ⟨[], []⟩) ⟨trivial, trivial⟩ Tryz.func200 XD5 fun ho hh => ?_)
  unfold w200
  simp only [XH8, QN8, X1r, zVp, if_true, if_false, reduceIte, Nat.reduceAdd, Nat.reduceSub, Nat.reduceLeDiff, Nat.reduceEqDiff, Nat.reduceMul, Nat.reduceLT, Int.reduceLT, Int.reduceLE, Int.reduceEq]
  exact Bt.eq rfl (List.append_nil h)
 ·cases e
def cmpI (a b : Int) : Int := if a < b then -1 else if b < a then 1 else 0
def Xsv : List AV → List AB → Option (AV × List AB)
 | [.i .i64 a, .i .i64 b], h => some (.i .i64 (cmpI a b), h)
 | _, _ => none
theorem K2S : Spec Tryz.prog 149 Xsv := by
 intro args h v h' e
 unfold Xsv at e
 split at e
 ·rename_i a b
  cases e
  refine FnAt.c (FnAt.run (by kernel_rfl) (T := ⟨[⟨200, z57, fun _ => []⟩], []⟩) ⟨⟨qRW, trivial⟩, trivial⟩ Tryz.func149 z7q fun ho hh => ?_)
  unfold w149
  simp only [XH8, QN8, X1r, zVp, if_true, if_false, reduceIte, Nat.reduceAdd, Nat.reduceSub, Nat.reduceLeDiff, Nat.reduceEqDiff, Nat.reduceMul, Nat.reduceLT, Int.reduceLT, Int.reduceLE, Int.reduceEq, z57]
  refine ⟨fun h1 => Bt.eq (by simp [cmpI, h1]) (List.append_nil h), fun h1 => ⟨fun h2 => Bt.eq (by simp [cmpI, h1, h2]) (List.append_nil h), fun h2 => Bt.eq (by simp [cmpI, h1, h2]) (List.append_nil h)⟩⟩
 ·cases e
def orI : List Int → Int
 | [] => 0
 | a :: l => if a = 0 then orI l else a
theorem qgg {l : List Int} {i : Nat} (hi : i < l.length) : orI (l.drop i) = if l.getD i intR.d = 0 then orI (l.drop (i + 1)) else l.getD i intR.d := by
 rw [List.drop_eq_getElem_cons hi, List.getD_eq_getElem?_getD, List.getElem?_eq_getElem hi]
 rfl
noncomputable def T_Or : List AV → List AB → Option (AV × List AB)
 | [s], h => (getS intR h s).bind fun l => some (.i .i64 (orI l), h)
 | _, _ => none
theorem YOj : Spec Tryz.prog 58 T_Or := by
 intro args h v h' e
 unfold T_Or at e
 split at e
 ·rename_i s
  obtain ⟨l, hs, e⟩ := YI8 e
  cases e
  refine FnAt.c (FnAt.run (by kernel_rfl) (T := ⟨[], []⟩) ⟨trivial, trivial⟩ Tryz.func58 sw58 fun ho hh => ?_)
  simp only [qMC, Bool.and_eq_true] at ho
  have f1 := hs.fx ho.1 (sz := 1) rfl
  unfold w58
  simp only [XH8, QN8, X1r, zVp, if_true, if_false, reduceIte, Nat.reduceAdd, Nat.reduceSub, Nat.reduceLeDiff, Nat.reduceEqDiff, Nat.reduceMul, Nat.reduceLT, Int.reduceLT, Int.reduceLE, Int.reduceEq, f1]
  refine YMr (S := Nat) (fun i => l.length - i) (fun i => tp 3 ++ [.i .i64 0] ++ tp 2 ++ [s, .i .i64 l.length, .i .i64 i] ++ tp 9) (fun i => i ≤ l.length ∧ orI l = orI (l.drop i)) 0 ⟨Nat.zero_le _, rfl⟩ (by simp only [X1r, zVp, if_true, if_false, reduceIte, Nat.reduceAdd, Nat.reduceSub, Nat.reduceLeDiff, Nat.reduceEqDiff, Nat.reduceMul, Nat.reduceLT, Int.reduceLT, Int.reduceLE, Int.reduceEq]) fun i hi => ?_
  simp only [X1r, zVp, if_true, if_false, reduceIte, Nat.reduceAdd, Nat.reduceSub, Nat.reduceLeDiff, Nat.reduceEqDiff, Nat.reduceMul, Nat.reduceLT, Int.reduceLT, Int.reduceLE, Int.reduceEq, f1]
  refine ⟨fun h2 => ?_, fun h2 => ?_⟩
  ·have e1 : IntKind.i64.wrap ((i : Int) + 1) = ((i + 1 : Nat) : Int) := ZL3 (by have := hs.2; unfold maxLen at this; unfold In64; omega)
   have e2 := qgg h2
   simp only [X1r, zVp, if_true, if_false, reduceIte, Nat.reduceAdd, Nat.reduceSub, Nat.reduceLeDiff, Nat.reduceEqDiff, Nat.reduceMul, Nat.reduceLT, Int.reduceLT, Int.reduceLE, Int.reduceEq, f1, h2, JEE, Nat.zero_lt_one, e1]
   refine ⟨fun h3 => Bt.eq (by rw [hi.2, e2, if_neg h3]) (List.append_nil h), fun h3 => ⟨i + 1, ⟨h2, ?_⟩, by omega, Wk.refl _⟩⟩
   rw [hi.2, e2, if_pos (Decidable.not_not.1 h3)]
  ·exact Bt.eq (by rw [hi.2, List.drop_eq_nil_of_le (by omega)]; rfl) (List.append_nil h)
 ·cases e
def cmpD (a b : Int × Int) : Int := if cmpI a.1 b.1 = 0 then cmpI a.2 b.2 else cmpI a.1 b.1
def XpL : List AV → List AB → Option (AV × List AB)
 | [.ag [.i .i64 a, .i .i64 b], .ag [.i .i64 c, .i .i64 d]], h => some (.i .i64 (cmpD (a, b) (c, d)), h)
 | _, _ => none
end Go.Proofs.YtebcngelgdpbjaaGreat
end
section
namespace Go.Proofs.YtebcngelgdpbjaaGreat
set_option maxRecDepth 100000
def ZwS (a b : Int × Int) : Prop := a.1 < b.1 ∨ a.1 = b.1 ∧ a.2 < b.2
instance (a b : Int × Int) : Decidable (ZwS a b) := by unfold ZwS; infer_instance
end Go.Proofs.YtebcngelgdpbjaaGreat
end
section
namespace Go.Proofs.YtebcngelgdpbjaaGreat
theorem qnp (a b : Int × Int) : cmpD a b < 0 ↔ ZwS a b := by
 obtain ⟨a1, a2⟩ := a
 obtain ⟨b1, b2⟩ := b
 simp only [cmpD, cmpI, ZwS]
 repeat' split
 all_goals omega
theorem zng (a : Int × Int) : ¬ ZwS a a := by simp [ZwS]
theorem YKM {a b c : Int × Int} (h : ZwS a b) (k : ZwS b c) : ZwS a c := by simp only [ZwS] at *; omega
theorem Y5F (a b : Int × Int) : ZwS a b ∨ a = b ∨ ZwS b a := by
 obtain ⟨a1, a2⟩ := a
 obtain ⟨b1, b2⟩ := b
 simp only [ZwS, Prod.mk.injEq]
 omega
def srtD (l : Dots) : Dots := l.mergeSort fun x y => !(decide (cmpD y x < 0))
theorem q0B (l : Dots) : (srtD l).Perm l := List.mergeSort_perm l _
theorem Q0d (l : Dots) : (srtD l).length = l.length := (q0B l).length_eq
end Go.Proofs.YtebcngelgdpbjaaGreat
end
section
namespace Go.Proofs.YtebcngelgdpbjaaGreat
set_option maxRecDepth 100000
structure KeyR (α : Type) where
 ag : Bool
 ks : List CK
 f : α → AV
 dec : DecidableEq α
 eq : ∀ a b, ZrL ag ks (f a) (f b) = some (decide (a = b))
section
variable {α : Type} (r : KeyR α)
def kvF : List (α × AV) → List AV
 | [] => []
 | e :: l => r.f e.1 :: e.2 :: kvF l
theorem QNH : ∀ l : List (α × AV), (kvF r l).length = 2 * l.length
 | [] => rfl
 | e :: l => by
  have := QNH l
  simp only [kvF, List.length_cons, this]
  omega
def mpB (m : Bool) (l : List (α × AV)) : AB := .mo m (.map (List.range l.length) l.length) (kvF r l)
def fndM (d : α) : List (α × AV) → Nat → Option (Nat × AV)
 | [], _ => none
 | e :: l, i => letI := r.dec; if d = e.1 then some (i, e.2) else fndM d l (i + 1)
theorem QYN (d : α) : ∀ (l : List (α × AV)) (i : Nat), XRh r.ag r.ks (r.f d) (kvF r l) i = some (fndM r d l i)
 | [], i => rfl
 | e :: l, i => by
  letI := r.dec
  show (ZrL r.ag r.ks (r.f d) (r.f e.1)).bind _ = _
  rw [r.eq, Option.bind_some]
  by_cases h : d = e.1
  ·rw [fndM, if_pos h, if_pos (by simpa using h)]
  ·rw [fndM, if_neg h, if_neg (by simpa using h)]
   exact QYN d l (i + 1)
theorem Kze (m : Bool) (l : List (α × AV)) : mapB (some (mpB r m l)) = some (List.range l.length, l.length, kvF r l) := by
 unfold mpB mapB
 simp only [QNH, List.length_range, if_true]
variable {T : Env} {fr : List AV} {h : List AB}
theorem Xym (x : Opd) : opR T (.mrg x) fr h = rgV h (x.ev fr) := _root_.id rfl
theorem z5Y (x : Opd) : opR T (.ent x) fr h = (entV h (x.ev fr)).map (·, h) := _root_.id rfl
theorem XwW {id : Nat} {m : Bool} {l : List (α × AV)} (hi : h[id]? = some (mpB r m l)) : rgV h (.m id) = some (.p h.length 0, h ++ [.mo true (.it l.length [] l.length) [.m id]]) := by
 unfold rgV
 dsimp only
 rw [hi, Kze]
 rfl
def itM (n : Nat) (seen : List Nat) (mid : Nat) : AB := .mo true (.it n seen n) [.m mid]
theorem qPc : ∀ (l : List (α × AV)) (k : Nat), X6K (List.range' k l.length) (kvF r l) = (l.zipIdx k).map fun e => (e.2, r.f e.1.1, e.1.2)
 | [], _ => rfl
 | e :: l, k => by
  rw [List.length_cons, List.range'_succ, kvF, X6K, qPc l (k + 1), List.zipIdx_cons]
  rfl
theorem JCq {l : List (α × AV)} {e : Nat × AV × AV} (he : e ∈ X6K (List.range l.length) (kvF r l)) : ∃ (hi : e.1 < l.length), e.2 = (r.f (l[e.1]).1, (l[e.1]).2) := by
 rw [List.range_eq_range', qPc] at he
 obtain ⟨⟨x, i⟩, hx, rfl⟩ := List.mem_map.1 he
 have := List.mem_zipIdx_iff_getElem?.1 hx
 obtain ⟨hi, h2⟩ := List.getElem?_eq_some_iff.1 this
 exact ⟨hi, by dsimp only; rw [h2]⟩
theorem XpC {l : List (α × AV)} {i : Nat} (hi : i < l.length) : (i, r.f (l[i]).1, (l[i]).2) ∈ X6K (List.range l.length) (kvF r l) := by
 rw [List.range_eq_range', qPc]
 exact List.mem_map.2 ⟨(l[i], i), List.mem_zipIdx_iff_getElem?.2 (List.getElem?_eq_getElem hi), rfl⟩
theorem zE4 {k mid : Nat} {m : Bool} {seen : List Nat} {l : List (α × AV)} (hk : h[k]? = some (itM l.length seen mid)) (hm : h[mid]? = some (mpB r m l)) :
  ∃ cands, mnxC h (.p k 0) = some cands ∧ ∀ c ∈ cands, ((∀ i < l.length, i ∈ seen) ∧ c = (.tu [.b false], h)) ∨ ∃ (i : Nat) (hi : i < l.length), i ∉ seen ∧ c = (.tu [.b true, r.f (l[i]).1, (l[i]).2], h.set k (itM l.length (seen ++ [i]) mid)) := by
 refine ⟨za5 k l.length seen l.length (.m mid) h (zDx seen (X6K (List.range l.length) (kvF r l))), ?_, fun c hc => ?_⟩
 ·simp only [mnxC, hk, itM, hm, Kze, Option.bind_some]
  rw [if_pos ⟨List.all_eq_true.2 fun b hb => decide_eq_true (List.mem_range.1 hb), Nat.le_refl _⟩]
 ·generalize hL : zDx seen (X6K (List.range l.length) (kvF r l)) = L at hc
  cases L with
  | nil =>
   rw [za5] at hc
   refine .inl ⟨fun i hi => ?_, List.mem_singleton.1 hc⟩
   by_cases hs : i ∈ seen
   ·exact hs
   ·have : (i, r.f (l[i]).1, (l[i]).2) ∈ zDx seen (X6K (List.range l.length) (kvF r l)) := List.mem_filter.2 ⟨XpC r hi, by simpa using hs⟩
    rw [hL] at this
    cases this
  | cons e0 L0 =>
   rw [za5] at hc
   obtain ⟨e, he, rfl⟩ := List.mem_map.1 hc
   rw [← hL] at he
   obtain ⟨he1, he2⟩ := List.mem_filter.1 he
   obtain ⟨hi, h2⟩ := JCq r he1
   refine .inr ⟨e.1, hi, by simpa using he2, ?_⟩
   rw [h2]
   rfl
theorem J3E {k mid : Nat} {m : Bool} {seen : List Nat} {l : List (α × AV)} {i : Nat} (hi : i < l.length) (hk : h[k]? = some (itM l.length (seen ++ [i]) mid)) (hm : h[mid]? = some (mpB r m l)) : entV h (.p k 0) = some (.tu [r.f (l[i]).1, (l[i]).2]) := by
 simp only [entV, hk, itM, hm, Kze, Option.bind_some]
 rw [if_pos trivial, List.getLast?_append, List.getLast?_singleton]
 simp only [Option.some_or, Option.bind_some]
 have : (X6K (List.range l.length) (kvF r l)).find? (fun e => e.1 == i) = some (i, r.f (l[i]).1, (l[i]).2) := by
  rw [List.range_eq_range', qPc, List.find?_map]
  have : (l.zipIdx 0).find? ((fun e : Nat × AV × AV => e.1 == i) ∘ fun e : (α × AV) × Nat => (e.2, r.f e.1.1, e.1.2)) = some (l[i], i) := by
   rw [List.find?_eq_some_iff_getElem]
   refine ⟨by simp, i, by simpa using hi, by simp, fun j hj => ?_⟩
   simp
   omega
  rw [this]
  rfl
 rw [this]
 rfl
end
theorem FnAtS.run {P : Program} (hm : P.follows .mixedOrders = true) {T : Env} (hT : T.Ok P) {g : Nat} {fn : Func} {cf : CF} (hf : P.funcs[g]? = some fn) (hc : YKa P fn = some cf) {args : List AV} {h : List AB} {X : AV → List AB → Prop}
  (w : okL (fun i => decide (i < h.length)) args = true → HOk h → W ⟨P, T, false, h.length, FinS P h.length cf.res X⟩ [.code cf.body] (args ++ List.replicate (cf.ntmps - args.length) (.tu [])) (h ++ [])) : FnAtS P g args h X := by
 refine FnAtS.fin (Y7x hm hT) hf hc fun h1 h2 => ?_
 have := w h1 h2
 rw [List.append_nil] at this
 exact this
theorem ZD4 {P : Program} {p : Nat} {res : List RC} {X : AV → List AB → Prop} {fr : List AV} {h : List AB} : FinS P p res X .r fr h = ∃ v a h', resV fr h res = some v ∧ Bt P p [v] h [a] h' ∧ X a h' := _root_.id rfl
theorem zG8 {P : Program} {p : Nat} {res : List RC} {X : AV → List AB → Prop} {fr : List AV} {h : List AB} : FinS P p res X .n fr h = ∃ v a h', resV fr h res = some v ∧ Bt P p [v] h [a] h' ∧ X a h' := _root_.id rfl
end Go.Proofs.YtebcngelgdpbjaaGreat
end
section
namespace Go.Proofs.YtebcngelgdpbjaaGreat
set_option maxRecDepth 100000
set_option maxHeartbeats 4000000
def dotK : KeyR (Int × Int) := ⟨true, [.i, .i], fun d => .ag (dotR.f d), inferInstance, X03⟩
theorem zNq (q : Nat → Bool) (f : Nat → Nat) (n : Nat) (s : List Nat) (mid : Nat) : BWk q f (itM n s mid) (itM n s mid) = (q mid = true ∧ Wk (.m (f mid)) (.m mid)) := by
 simp [BWk, itM, okL, AV.ok, renL, AV.ren, WkL]
def kA : CC := .reg 2 [⟨some 5, none, .new true [.i .i64 0, .i .i64 0]⟩, ⟨none, none, .st (some 2) (.t 5) (.t 7)⟩]
def kB : CC := .block 1 (.reg 3 [⟨some 8, none, .ld none (.t 2)⟩, ⟨some 9, none, .ld (some 2) (.t 5)⟩, ⟨some 10, none, .bls true 1 [.i .i64 0, .i .i64 0] [(0, 2, .t 9)]⟩, ⟨some 11, none, .app false true 2 16 (.t 8) (.t 10)⟩, ⟨none, none, .st none (.t 2) (.t 11)⟩])
def kFr (p : Nat) (f : AV) : List AV := [.ns, f, .p (p + 0) 0, .tu [], .ns, .tu [], f, .tu [], .tu [], .tu [], .tu [], .tu [], .tu []]
def kL (p : Nat) (f acc : AV) (B C : AB) : List AB := [.blk false true [acc], .lp .ready .n (kFr p f) [7] kA kB, B, C]
def kR (p : Nat) (f : AV) (B : AB) (l : List (Int × Int)) (x : Int × Int) : List AB := kL p f (.sl (p + 7) 0 (l.length + 1) (l.length + 1) (some 2)) B .dead ++ [.blk true true (dotR.f x), .blk true true (dotR.f x), .blk true true (dotR.f x), .blk true true (dotR.cells l ++ dotR.f x)]
theorem J4x {h : List AB} {f : AV} {B : AB} (x : Int × Int) :
  RdAt' Tryz.prog (h.length + 1) [.ag (dotR.f x)] (h ++ (kL h.length f .ns B .dead ++ [.blk true true (dotR.f x)])) (.b true) (h ++ kR h.length f B [] x) := by
 refine RdAt'.run (by kernel_rfl) (T := ⟨[], []⟩) ⟨trivial, trivial⟩ (by rw [Yn6]; rfl) rfl ?_
 have z3 : (1 * 16 ≤ 140737488355328 ∧ 1 ≤ maxLen) = True := eq_true ⟨by decide, by unfold maxLen; omega⟩
 simp only [kFr, qTQ, kA, kL, KdC, X1r, zVp, if_true, if_false, reduceIte, Nat.reduceAdd, Nat.reduceSub, Nat.reduceLeDiff, Nat.reduceEqDiff, Nat.reduceMul, Nat.reduceLT, Int.reduceLT, Int.reduceLE, Int.reduceEq, List.length_cons, List.length_nil]
 refine ⟨_, _, _, _, _, by rw [Yn6]; rfl, ?_⟩
 simp only [kB, X1r, zVp, if_true, if_false, reduceIte, Nat.reduceAdd, Nat.reduceSub, Nat.reduceLeDiff, Nat.reduceEqDiff, Nat.reduceMul, Nat.reduceLT, Int.reduceLT, Int.reduceLE, Int.reduceEq, KdC, List.length_cons, List.length_nil, z3]
 exact ⟨by unfold maxLen; omega, _, _, _, _, _, _, by rw [Yn6]; rfl, rfl, by unfold zLd; dsimp only; rw [zpT]; rfl⟩
theorem YFc {h : List AB} {f : AV} {B : AB} {l : List (Int × Int)} (h0 : l ≠ []) (x : Int × Int) (hl : l.length ≤ 1000000) :
  RdAt' Tryz.prog (h.length + 1) [.ag (dotR.f x)] (h ++ (kL h.length f (apS dotR (h.length + 3) l) B (resB dotR true l) ++ [.blk true true (dotR.f x)])) (.b true) (h ++ kR h.length f B l x) := by
 refine RdAt'.run (by kernel_rfl) (T := ⟨[], []⟩) ⟨trivial, trivial⟩ (by rw [Yn6]; rfl) rfl ?_
 have hn : l.length ≠ 0 := fun q => h0 (List.eq_nil_of_length_eq_zero q)
 have gr : ∀ id, apS dotR id l = rsl dotR id l := fun id => J0z _ hn
 have fa := fun L k ys hb => KDh (h := h) (p := h.length) rfl (r := dotR) (sz := 2) rfl L k l 16 1 ys hn hb (by decide) (by omega) (by unfold maxLen; omega)
 simp only [gr, kFr, qTQ, kA, kL, KdC, X1r, zVp, if_true, if_false, reduceIte, Nat.reduceAdd, Nat.reduceSub, Nat.reduceLeDiff, Nat.reduceEqDiff, Nat.reduceMul, Nat.reduceLT, Int.reduceLT, Int.reduceLE, Int.reduceEq, List.length_cons, List.length_nil]
 refine ⟨_, _, _, _, _, by rw [Yn6]; rfl, ?_⟩
 simp only [kB, X1r, zVp, if_true, if_false, reduceIte, Nat.reduceAdd, Nat.reduceSub, Nat.reduceLeDiff, Nat.reduceEqDiff, Nat.reduceMul, Nat.reduceLT, Int.reduceLT, Int.reduceLE, Int.reduceEq, KdC, List.length_cons, List.length_nil, fa]
 exact ⟨_, _, _, _, _, _, by rw [Yn6]; rfl, rfl, by unfold zLd; dsimp only; rw [zpT]; rfl⟩
def kQ (h : List AB) (f : AV) (x : Int × Int) (hh r : List AB) : Prop :=
 ∃ l B, l.length ≤ 1000000 ∧ hh = h ++ (kL h.length f (apS dotR (h.length + 3) l) B (resB dotR true l) ++ [.blk true true (dotR.f x)]) ∧ r = h ++ kR h.length f B l x
open Classical in
noncomputable def kT (h : List AB) (f : AV) : List AV → List AB → Option (AV × List AB)
 | [.ag [.i .i64 a, .i .i64 b]], hh => if c : ∃ r, kQ h f (a, b) hh r then some (.b true, c.choose) else none
 | _, _ => none
open Classical in
theorem Xul {h : List AB} {f : AV} {B : AB} {l : List (Int × Int)} (x : Int × Int) (hl : l.length ≤ 1000000) : kT h f [.ag (dotR.f x)] (h ++ (kL h.length f (apS dotR (h.length + 3) l) B (resB dotR true l) ++ [.blk true true (dotR.f x)])) = some (.b true, h ++ kR h.length f B l x) := by
 have hc : ∃ r, kQ h f x (h ++ (kL h.length f (apS dotR (h.length + 3) l) B (resB dotR true l) ++ [.blk true true (dotR.f x)])) r := ⟨_, l, B, hl, rfl, rfl⟩
 show (if c : ∃ r, kQ h f (x.1, x.2) _ r then some (AV.b true, c.choose) else none) = _
 rw [dif_pos hc]
 obtain ⟨l', B', _, e, e2⟩ := hc.choose_spec
 rw [e2]
 have := List.append_cancel_left e
 simp only [kL, List.cons_append, List.nil_append, List.cons.injEq, AB.blk.injEq, true_and, and_true] at this
 rw [Yqn this.1 this.2.2, this.2.1]
theorem XH7 {h : List AB} {f : AV} : ZFe Tryz.prog (h.length + 1) (kT h f) := by
 intro args hh v h' e
 unfold kT at e
 split at e
 ·rename_i a b
  split at e
  ·rename_i hc
   cases e
   obtain ⟨l, B, h2, e1, e2⟩ := hc.choose_spec
   rw [e2, e1]
   by_cases h0 : l = []
   ·subst h0
    exact J4x (a, b)
   ·exact YFc h0 (a, b) h2
  ·cases e
 ·cases e
theorem Q5M : ∀ (n : Nat) (s : List Nat), s.Nodup → (∀ i ∈ s, i < n) → s.length ≤ n
 | 0, s, _, h => by
  cases s with
  | nil => exact Nat.le_refl _
  | cons a l => exact absurd (h a (List.mem_cons_self ..)) (Nat.not_lt_zero _)
 | n + 1, s, hn, h => by
  have := Q5M n (s.erase n) (hn.erase n) fun i hi => by
   have h1 := h i (List.mem_of_mem_erase hi)
   have h2 : i ≠ n := fun z => by
    rw [z] at hi
    exact hn.not_mem_erase hi
   omega
  have h3 : s.length ≤ (s.erase n).length + 1 := by
   by_cases hm : n ∈ s
   ·rw [List.length_erase_of_mem hm]; omega
   ·rw [List.erase_of_not_mem hm]; omega
  omega
def kO (l : List ((Int × Int) × AV)) (s : List Nat) : List (Int × Int) := s.map fun i => (l.map (·.1)).getD i (0, 0)
theorem QH9 (l : List ((Int × Int) × AV)) (s : List Nat) : (kO l s).length = s.length := List.length_map _
theorem zv0 (l : List ((Int × Int) × AV)) (s : List Nat) {i : Nat} (hi : i < l.length) : kO l (s ++ [i]) = kO l s ++ [(l[i]).1] := by
 unfold kO
 rw [List.map_append]
 simp [hi]
theorem YUt {l : List ((Int × Int) × AV)} {s : List Nat} (hn : s.Nodup) (hl : ∀ i ∈ s, i < l.length) (ha : ∀ i < l.length, i ∈ s) : (kO l s).Perm (l.map (·.1)) := by
 have h1 : s.Perm (List.range l.length) := (List.perm_ext_iff_of_nodup hn List.nodup_range).2 fun a => ⟨fun h => List.mem_range.2 (hl a h), fun h => ha a (List.mem_range.1 h)⟩
 have h2 : (List.range l.length).map (fun i => (l.map (·.1)).getD i (0, 0)) = l.map (·.1) := by
  refine List.ext_getElem (by simp) fun i h1 h2 => ?_
  simp at h2
  simp [h2]
 have h3 := h1.map (fun i => (l.map (·.1)).getD i (0, 0))
 rw [h2] at h3
 exact h3
def kH (h : List AB) (f : AV) (n mid : Nat) (o : List (Int × Int)) (seen : List Nat) : List AB := h ++ kL h.length f (apS dotR (h.length + 3) o) (itM n seen mid) (resB dotR true o)
def kX (h : List AB) (f : AV) (l : List ((Int × Int) × AV)) : AV → List AB → Prop := fun v h2 => v = .tu [] ∧ ∃ o : List (Int × Int), o.Perm (l.map (·.1)) ∧
 h2 = h ++ [.blk false true [apS dotR (h.length + 2) o], .lp .ready .n (kFr h.length f) [7] kA kB, resB dotR true o]
theorem Z5W {h : List AB} (hh : HOk h) {j mid : Nat} {m : Bool} {l : List ((Int × Int) × AV)} (b1 : XAh h j = some [.m mid]) (hm : h[mid]? = some (mpB dotK m l)) (hl : l.length ≤ 100000) (f : AV) (of : f.ok (fun i => decide (i < h.length)) = true) :
  FnAtS Tryz.prog 148 [.y (h.length + 1), .p j 0] (h ++ [.blk false true [.ns], .lp .ready .n (kFr h.length f) [7] kA kB]) (kX h f l) := by
 refine FnAtS.run (by kernel_rfl) (T := ⟨[], [⟨h.length + 1, kT h f, fun _ => []⟩]⟩) ⟨trivial, ⟨XH7, trivial⟩⟩ Tryz.func148 zqQ fun _ _ => ?_
 have f1 := qee b1
 have hmid : mid < h.length := (List.getElem?_eq_some_iff.1 hm).1
 have f2 : ∀ L, rgV (h ++ L) (.m mid) = some (.p (h.length + L.length) 0, h ++ (L ++ [itM l.length [] mid])) := fun L => by
  have := XwW dotK (h := h ++ L) (id := mid) (m := m) (l := l) (by rw [List.getElem?_append_left hmid]; exact hm)
  rw [this, List.length_append, List.append_assoc]
  rfl
 have e1i : j < h.length := JwL b1
 unfold w148
 simp only [XH8, QN8, X1r, zVp, if_true, if_false, reduceIte, Nat.reduceAdd, Nat.reduceSub, Nat.reduceLeDiff, Nat.reduceEqDiff, Nat.reduceMul, Nat.reduceLT, Int.reduceLT, Int.reduceLE, Int.reduceEq, Xym, f1, f2]
 have up : ∀ (t : AV), t.ok (fun i => decide (i < h.length)) = true → ∀ c, t.ok (fun i => decide (i < h.length + c)) = true := fun t ht c => AV.ok_mono (fun i q => by simp only [decide_eq_true_eq] at q ⊢; omega) t ht
 have rn : ∀ (t : AV), t.ok (fun i => decide (i < h.length)) = true → ∀ sel, Wk (t.ren (selN h.length sel)) t := fun t ht sel => Wk.ren (fun i hi => Xdk hi) ht
 have fo := fun c => And.intro (up f of c) (And.intro (decide_eq_true (p := mid < h.length + c) (by omega)) (decide_eq_true (p := j < h.length + c) (by omega)))
 have fr := fun sel => And.intro (rn f of sel) (And.intro (Xdk (sel := sel) hmid) (Xdk (sel := sel) e1i))
 have ao : ∀ (n : Nat) (L : List (Int × Int)), (apS dotR (n + 3) L).ok (fun i => decide (i < n + 4)) = true := fun n L => ZrT _ _ _ (by simp)
 have ao2 : ∀ (n : Nat) (L : List (Int × Int)), (apS dotR (n + 2) L).ok (fun i => decide (i < n + 3)) = true := fun n L => ZrT _ _ _ (by simp)
 refine YHj (S := List Nat) (fun s => l.length - s.length) (fun s => [.y (h.length + 1)] ++ tp 4 ++ [.p (h.length + 2) 0] ++ tp 8) (fun s => kH h f l.length mid (kO l s) s) (fun s => s.Nodup ∧ ∀ i ∈ s, i < l.length) [] ⟨List.nodup_nil, fun i hi => by simp at hi⟩ ?_ fun s hs => ?_
 ·show Bt _ _ _ _ _ (h ++ [.blk false true [.ns], .lp .ready .n (kFr h.length f) [7] kA kB, itM l.length [] mid, .dead])
  have e : h ++ [AB.blk false true [AV.ns], AB.lp .ready .n (kFr h.length f) [7] kA kB, itM l.length [] mid, AB.dead] = h ++ [AB.blk false true [AV.ns], AB.lp .ready .n (kFr h.length f) [7] kA kB, itM l.length [] mid] ++ List.replicate 1 .dead := by
   rw [List.append_assoc]
   rfl
  rw [e]
  refine Bt.trans (Bt.wk ?_) (Bt.pad _ _ 1)
  simp only [X1r, zVp, if_true, if_false, reduceIte, Nat.reduceAdd, Nat.reduceSub, Nat.reduceLeDiff, Nat.reduceEqDiff, Nat.reduceMul, Nat.reduceLT, Int.reduceLT, Int.reduceLE, Int.reduceEq]
 obtain ⟨hnd, hlt⟩ := hs
 have hn := Q5M l.length s hnd hlt
 unfold kH
 have key : ∀ (L : List AB) (k : Nat), (h ++ L)[h.length + k]? = L[k]? := fun L k => Yn6 L k
 obtain ⟨cands, hc1, hc2⟩ := zE4 dotK (h := h ++ kL h.length f (apS dotR (h.length + 3) (kO l s)) (itM l.length s mid) (resB dotR true (kO l s))) (k := h.length + 2) (mid := mid) (m := m) (seen := s) (l := l) (by rw [key]; rfl) (by rw [List.getElem?_append_left hmid]; exact hm)
 rw [ZaK, ZlH, YDM]
 refine ⟨cands, hc1, fun c hc => ?_⟩
 rcases hc2 c hc with ⟨hall, rfl⟩ | ⟨i, hi, hni, rfl⟩
 ·simp only [kL, X1r, zVp, if_true, if_false, reduceIte, Nat.reduceAdd, Nat.reduceSub, Nat.reduceLeDiff, Nat.reduceEqDiff, Nat.reduceMul, Nat.reduceLT, Int.reduceLT, Int.reduceLE, Int.reduceEq, zG8]
  refine ⟨_, .tu [], _, rfl, Bt.selL 2 [0, 1, 3] hh (by decide) (by decide) (by decide) (by decide) (by simp only [q9C, FrSel, BlkSel, AV.ren, renL, AV.ok, okL, Option.some.injEq, exists_eq_left', List.length_cons, List.length_nil, Nat.reduceAdd, Nat.reduceLT, reduceCtorEq, implies_true, exists_eq', kFr, fo, fr, ao, ao2, zNq, ZeO]) (by simp only [q9C, FrSel, BlkSel, AV.ren, renL, AV.ok, okL, Option.some.injEq, exists_eq_left', List.length_cons, List.length_nil, Nat.reduceAdd, Nat.reduceLT, reduceCtorEq, implies_true, exists_eq', kFr, fo, fr, ao]), rfl, kO l s, YUt hnd hlt hall, rfl⟩
 ·rw [zpT]
  have he : ∀ (x : List AB), entV (h ++ (kL h.length f (apS dotR (h.length + 3) (kO l s)) (itM l.length (s ++ [i]) mid) (resB dotR true (kO l s)) ++ x)) (.p (h.length + 2) 0) = some (.tu [dotK.f (l[i]).1, (l[i]).2]) := fun x => J3E dotK hi (by rw [key]; rfl) (by rw [List.getElem?_append_left hmid]; exact hm)
  have he0 := he []
  have ht := Xul (h := h) (f := f) (B := itM l.length (s ++ [i]) mid) (l := kO l s) (l[i]).1 (by rw [QH9]; omega)
  simp only [kL, z1F, Z96, KdC] at he0 ht
  simp only [kL, X1r, zVp, if_true, if_false, reduceIte, Nat.reduceAdd, Nat.reduceSub, Nat.reduceLeDiff, Nat.reduceEqDiff, Nat.reduceMul, Nat.reduceLT, Int.reduceLT, Int.reduceLE, Int.reduceEq, z5Y, he0, dotK, KdC, ht, List.set_cons_succ, List.set_cons_zero, JKQ, Bool.not_true, Bool.not_false]
  have hnd' : (s ++ [i]).Nodup := List.nodup_append.2 ⟨hnd, by simp, fun a ha b hb => by rw [List.mem_singleton.1 hb]; exact fun z => hni (z ▸ ha)⟩
  have hlt' : ∀ x ∈ s ++ [i], x < l.length := fun x hx => by
   rcases List.mem_append.1 hx with hx | hx
   ·exact hlt x hx
   ·rw [List.mem_singleton.1 hx]; exact hi
  have hn' := Q5M l.length _ hnd' hlt'
  rw [List.length_append, List.length_singleton] at hn'
  refine ⟨s ++ [i], ⟨hnd', hlt'⟩, by dsimp only; rw [List.length_append, List.length_singleton]; omega, ?_⟩
  dsimp only
  rw [zv0 l s hi]
  simp only [kR, kL, z1F, Z96, XlZ, zbm]
  exact Bt.selL 2 [0, 1, 2, 7] hh (by decide) (by decide) (by decide) (by decide) (by simp only [q9C, FrSel, BlkSel, AV.ren, renL, AV.ok, okL, Option.some.injEq, exists_eq_left', List.length_cons, List.length_nil, Nat.reduceAdd, Nat.reduceLT, reduceCtorEq, implies_true, exists_eq', kFr, fo, fr, ao, zNq, ZeO]) (by simp only [q9C, FrSel, BlkSel, AV.ren, renL, AV.ok, okL, Option.some.injEq, exists_eq_left', List.length_cons, List.length_nil, Nat.reduceAdd, Nat.reduceLT, reduceCtorEq, implies_true, exists_eq', kFr, fo, fr, ao])
end Go.Proofs.YtebcngelgdpbjaaGreat
end
