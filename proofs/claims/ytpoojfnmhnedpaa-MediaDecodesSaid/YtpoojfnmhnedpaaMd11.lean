/- Part 11 of what the laws' proofs rest on. No condition. -/
import Derived.Test.YtpoojfnmhnedpaaMd10
set_option linter.all false
section
namespace Go.Proofs.Ytpoojfnmhnedpaa
section
variable {α β γ : Type}
def Rok (f : List UInt8 → RSt → α × RSt) (enc : α → List UInt8) (P : α → Prop) : Prop :=
 (∀ bs s, s.err = 0 → RGood bs s → (f bs s).2.err = 0 → Has bs s.pos (enc (f bs s).1) ∧ (f bs s).2 = { s with pos := s.pos + (enc (f bs s).1).length } ∧ P (f bs s).1) ∧
 (∀ bs s, s.err ≠ 0 → (f bs s).2 = s) ∧ (∀ bs s, RGood bs s → RGood bs (f bs s).2)
theorem Rok.nz {f : List UInt8 → RSt → α × RSt} {enc : α → List UInt8} {P : α → Prop} (F : Rok f enc P) {bs : List UInt8} {s : RSt} (h : (f bs s).2.err = 0) : s.err = 0 := by
 apply Classical.byContradiction
 intro q
 rw [F.2.1 bs s q] at h
 exact q h
theorem Rok.seq {f : List UInt8 → RSt → α × RSt} {g : List UInt8 → RSt → β × RSt} {ea : α → List UInt8} {eb : β → List UInt8} {P : α → Prop} {Q : β → Prop} (F : Rok f ea P) (G : Rok g eb Q) :
  Rok (fun bs s => (((f bs s).1, (g bs (f bs s).2).1), (g bs (f bs s).2).2)) (fun x => ea x.1 ++ eb x.2) (fun x => P x.1 ∧ Q x.2) := by
 refine ⟨fun bs s hs hg h => ?_, fun bs s h => ?_, fun bs s h => G.2.2 bs _ (F.2.2 bs s h)⟩
 ·dsimp only at h ⊢
  have h1 := G.nz h
  obtain ⟨a1, a2, a3⟩ := F.1 bs s hs hg h1
  obtain ⟨b1, b2, b3⟩ := G.1 bs _ h1 (F.2.2 bs s hg) h
  have b1' := b1
  rw [a2] at b1'
  have hp : (f bs s).2.pos = s.pos + (ea (f bs s).1).length := by rw [a2]
  have he : (f bs s).2.ea = s.ea := by rw [a2]
  refine ⟨a1.join (by rw [hp] at b1; exact b1), ?_, a3, b3⟩
  rw [b2, h1, hp, he, List.length_append, Nat.add_assoc, hs]
 ·dsimp only
  rw [F.2.1 bs s h, G.2.1 bs s h]
theorem Rok.map {f : List UInt8 → RSt → α × RSt} {ea : α → List UInt8} {P : α → Prop} (F : Rok f ea P) (φ : α → β) {eb : β → List UInt8} {Q : β → Prop} (he : ∀ x, eb (φ x) = ea x) (hQ : ∀ x, P x → Q (φ x)) : Rok (fun bs s => (φ (f bs s).1, (f bs s).2)) eb Q :=
 ⟨fun bs s hs hg h => by
  obtain ⟨a1, a2, a3⟩ := F.1 bs s hs hg h
  dsimp only
  rw [he]
  exact ⟨a1, a2, hQ _ a3⟩, F.2.1, F.2.2⟩
theorem q31 : Rok YLr JDl fun n => 0 ≤ n ∧ n ≤ 9223372036854775807 :=
 ⟨fun bs s hs _ h => ⟨(q94 hs h).1, (q94 hs h).2, K9d bs s⟩, fun bs s h => by rw [XjZ bs s h], fun _ _ h => h.num⟩
theorem ZB9 : Rok rdID (fun l => l) fun l => l.length = 32 :=
 ⟨fun bs s hs hg h => ⟨(QvO hs hg h).1, (QvO hs hg h).2, ztf bs s⟩, fun bs s h => Xu7 bs s h, fun _ _ h => h.id⟩
theorem XRr {most : Int} : Rok (fun bs s => Qdr bs s most) (fun l => JDl l.length ++ l) fun l => (l.length : Int) ≤ most := by
 refine ⟨fun bs s hs hg h => ?_, fun bs s h => by dsimp only; rw [J6G bs s most h], fun _ _ h => h.bytes most⟩
 dsimp only at h ⊢
 have hm : (K1u bs s most).2.err = 0 := by
  apply Classical.byContradiction
  intro hne
  unfold Qdr at h
  rw [JCw _ _ _ _ hne] at h
  exact hne h
 obtain ⟨h1, h2, h3⟩ := QzF most hs hm
 have hge := ZzG bs s most
 obtain ⟨t1, t2, t3⟩ := ZDy _ _ hm (hg.many most) h
 have hlen : ((Qdr bs s most).1.length : Int) = (K1u bs s most).1 := by
  have : (Qdr bs s most).1.length = (K1u bs s most).1.toNat := t2
  omega
 rw [hlen]
 have t1' : Has bs (K1u bs s most).2.pos (Qdr bs s most).1 := t1
 have t3' : (Qdr bs s most).2 = { (K1u bs s most).2 with pos := (K1u bs s most).2.pos + (K1u bs s most).1.toNat } := t3
 rw [h2] at t1' t3'
 refine ⟨h1.join t1', ?_, by omega⟩
 rw [t3', List.length_append]
 have : (Qdr bs s most).1.length = (K1u bs s most).1.toNat := t2
 rw [this]
 simp [Nat.add_assoc]
theorem ZA3 : Rok rdDe XYK DeIn :=
 (q31.seq (ZB9.seq (q31.seq (XRr (most := 4096))))).map (fun x : Int × List UInt8 × Int × List UInt8 => (⟨x.1, x.2.1, x.2.2.1, x.2.2.2⟩ : De)) (fun _ => rfl) fun x h => ⟨h.1.1, h.1.2, h.2.1, h.2.2.1.1, h.2.2.1.2, by have := h.2.2.2; dsimp only; omega⟩
theorem qLT : ∀ n, Rok (fun bs s => YLQ bs s n) QRf fun ds => ds.length = n ∧ ∀ d ∈ ds, DeIn d
 | 0 => ⟨fun bs s hs hg _ => ⟨⟨bs.drop s.pos, rfl, hg.1⟩, rfl, rfl, fun d h => by cases h⟩, fun _ _ _ => rfl, fun _ _ h => h⟩
 | n + 1 => ((qLT n).seq ZA3).map (fun x : List De × De => x.1 ++ [x.2]) (fun x => qL0 x.1 x.2) fun x h => ⟨by rw [List.length_append, h.1.1]; rfl, fun d hd => by
  rcases List.mem_append.1 hd with q | q
  ·exact h.1.2 d q
  ·rw [List.mem_singleton.1 q]; exact h.2⟩
theorem Rok.step {f : List UInt8 → RSt → α × RSt} {enc : α → List UInt8} {P : α → Prop} (F : Rok f enc P) {bs E : List UInt8} {s : RSt} (hp : Has bs 0 E) (hs : s = ⟨E.length, 0, 0⟩) (h : (f bs s).2.err = 0) :
  Has bs 0 (E ++ enc (f bs s).1) ∧ (f bs s).2 = ⟨(E ++ enc (f bs s).1).length, 0, 0⟩ ∧ P (f bs s).1 := by
 subst hs
 have hl := hp.le
 obtain ⟨a1, a2, a3⟩ := F.1 bs _ rfl ⟨by dsimp only; omega, fun q => absurd rfl q⟩ h
 refine ⟨hp.join (by rw [Nat.zero_add]; exact a1), ?_, a3⟩
 rw [a2, List.length_append]
def ManRd (b : List UInt8) (x : (Man × Int × Int) × RSt) : Prop :=
 x.2.err ≠ 0 ∨ (x.2.err = 0 ∧ x.2.ea = 0 ∧ x.2.pos ≤ b.length ∧ ((x.1.2.1 ≠ 0 ∧ 0 ≤ x.1.2.2 ∧ x.1.2.2 ≤ b.length) ∨ (x.1.2 = (0, 0) ∧ ManIn x.1.1 ∧ Has b 0 (KgP x.1.1) ∧ x.2.pos = (KgP x.1.1).length)))
theorem ManRd.bad {b E : List UInt8} {m : Man} {c at0 : Int} {s : RSt} (hp : Has b 0 E) (hs : s = ⟨E.length, 0, 0⟩) (hc : c ≠ 0) (h0 : 0 ≤ at0) (h1 : at0 ≤ b.length) : ManRd b ((m, c, at0), s) := by
 subst hs
 have := hp.le
 exact .inr ⟨rfl, rfl, by dsimp only; omega, .inl ⟨hc, h0, h1⟩⟩
theorem ManRd.good {b E : List UInt8} {m : Man} {s : RSt} (hp : Has b 0 E) (hs : s = ⟨E.length, 0, 0⟩) (hm : ManIn m) (e : E = KgP m) : ManRd b ((m, 0, 0), s) := by
 subst hs e
 have := hp.le
 exact .inr ⟨rfl, rfl, by dsimp only; omega, .inr ⟨rfl, hm, hp, rfl⟩⟩
theorem YCq {b E : List UInt8} {s : RSt} (hp : Has b 0 E) (hs : s = ⟨E.length, 0, 0⟩) : 0 ≤ (b.length : Int) - qPL b s ∧ (b.length : Int) - qPL b s ≤ b.length := by
 subst hs
 have := hp.le
 unfold qPL
 rw [if_pos rfl]
 dsimp only
 omega
theorem Qjy (b : List UInt8) : ManRd b (Knm b ⟨0, 0, 0⟩ b.length) := by
 apply Classical.byContradiction
 intro hno
 have h : (Knm b ⟨0, 0, 0⟩ b.length).2.err = 0 := Decidable.byContradiction fun q => hno (.inl q)
 apply hno
 clear hno
 unfold Knm at h ⊢
 dsimp only at h ⊢
 have p0 : Has b 0 [] := ⟨b, rfl, Nat.zero_le _⟩
 by_cases h77 : (YLr b ⟨0, 0, 0⟩).1 = 77
 case neg =>
  rw [if_neg h77] at h ⊢
  obtain ⟨p1, s1, _⟩ := q31.step (s := ⟨0, 0, 0⟩) p0 rfl h
  exact .bad p1 s1 (by decide) (Int.le_refl _) (by omega)
 rw [if_pos h77] at h ⊢
 by_cases h3 : (YLr b (YLr b ⟨0, 0, 0⟩).2).1 = 3
 ·rw [if_pos h3] at h ⊢
  generalize hn : YLr b (rdDe b (Qdr b (YLr b (YLr b ⟨0, 0, 0⟩).2).2 4096).2).2 = n at *
  have hne : n.2.err = 0 := by
   split at h
   ·exact h
   ·exact (qLT _).nz h
  have hne' := hne
  rw [← hn] at hne'
  have hc := q31.nz hne'
  have ht := ZA3.nz hc
  have hk := (XRr (most := 4096)).nz ht
  have ha := q31.nz hk
  obtain ⟨p1, s1, _⟩ := q31.step (s := ⟨0, 0, 0⟩) p0 rfl ha
  obtain ⟨p2, s2, _⟩ := q31.step p1 s1 hk
  obtain ⟨p3, s3, q3⟩ := (XRr (most := 4096)).step p2 s2 ht
  obtain ⟨p4, s4, q4⟩ := ZA3.step p3 s3 hc
  obtain ⟨p5, s5, q5⟩ := q31.step p4 s4 hne'
  try dsimp only at p3 s3 p4 s4 p5 s5
  rw [hn] at p5 s5 q5
  have ra := YCq p4 s4
  by_cases h16 : 16 < n.1
  ·rw [if_pos h16]
   exact .bad p5 s5 (by decide) ra.1 ra.2
  ·rw [if_neg h16] at h ⊢
   obtain ⟨p6, s6, q6⟩ := (qLT n.1.toNat).step p5 s5 h
   try dsimp only at p6 s6
   refine .good p6 s6 ⟨?_, fun d hd => ?_, by rw [q6.1]; omega, Nat.zero_le _, by dsimp only at q3 ⊢; omega⟩ ?_
   ·unfold Q55
    dsimp only
    rw [if_pos h3]
    rfl
   ·unfold allD at hd
    dsimp only at hd
    rw [if_pos h3, List.append_nil] at hd
    rcases List.mem_append.1 hd with z | z
    ·rw [List.mem_singleton.1 z]; exact q4
    ·exact q6.2 d z
   ·unfold KgP
    dsimp only
    have en : (((YLQ b n.2 n.1.toNat).1 ++ ([] : List De)).length : Int) = n.1 := by rw [List.append_nil, q6.1]; omega
    rw [if_pos h3, h77, en, List.append_nil]
    simp [List.append_assoc]
 ·rw [if_neg h3] at h ⊢
  by_cases h4 : (YLr b (YLr b ⟨0, 0, 0⟩).2).1 = 4
  case neg =>
   rw [if_neg h4] at h ⊢
   have ha := q31.nz h
   obtain ⟨p1, s1, _⟩ := q31.step (s := ⟨0, 0, 0⟩) p0 rfl ha
   obtain ⟨p2, s2, _⟩ := q31.step p1 s1 h
   exact .bad p2 s2 (by decide) (Int.le_refl _) (by omega)
  rw [if_pos h4] at h ⊢
  generalize hn : YLr b (Qdr b (YLr b (YLr b ⟨0, 0, 0⟩).2).2 4096).2 = n at *
  have hne : n.2.err = 0 := by
   split at h
   ·exact h
   ·exact (qLT _).nz h
  have hne' := hne
  rw [← hn] at hne'
  have ht := q31.nz hne'
  have hk := (XRr (most := 4096)).nz ht
  have ha := q31.nz hk
  obtain ⟨p1, s1, _⟩ := q31.step (s := ⟨0, 0, 0⟩) p0 rfl ha
  obtain ⟨p2, s2, _⟩ := q31.step p1 s1 hk
  obtain ⟨p3, s3, q3⟩ := (XRr (most := 4096)).step p2 s2 ht
  obtain ⟨p5, s5, q5⟩ := q31.step p3 s3 hne'
  try dsimp only at p3 s3 p5 s5
  rw [hn] at p5 s5 q5
  have ra := YCq p3 s3
  by_cases h16 : 8 < n.1
  ·rw [if_pos h16]
   exact .bad p5 s5 (by decide) ra.1 ra.2
  ·rw [if_neg h16] at h ⊢
   obtain ⟨p6, s6, q6⟩ := (qLT n.1.toNat).step p5 s5 h
   try dsimp only at p6 s6
   refine .good p6 s6 ⟨?_, fun d hd => ?_, Nat.zero_le _, by rw [q6.1]; omega, by dsimp only at q3 ⊢; omega⟩ ?_
   ·unfold Q55
    dsimp only
    rw [if_neg h3, if_pos h4]
    rfl
   ·unfold allD at hd
    dsimp only at hd
    rw [if_neg h3, List.nil_append, List.nil_append] at hd
    exact q6.2 d hd
   ·unfold KgP
    dsimp only
    have en : ((([] : List De) ++ (YLQ b n.2 n.1.toNat).1).length : Int) = n.1 := by rw [List.nil_append, q6.1]; omega
    rw [if_neg h3, h77, en, List.nil_append, List.nil_append]
    simp [List.append_assoc]
theorem JYw (b : List UInt8) (sz : Int) : RGood b (Knm b ⟨0, 0, 0⟩ sz).2 := by
 have g0 : RGood b ⟨0, 0, 0⟩ := ⟨Nat.zero_le _, fun q => absurd rfl q⟩
 unfold Knm
 dsimp only
 split
 ·split
  ·split
   ·exact (ZA3.2.2 b _ (g0.num.num.bytes 4096)).num
   ·exact (qLT _).2.2 b _ (ZA3.2.2 b _ (g0.num.num.bytes 4096)).num
  ·split
   ·split
    ·exact (g0.num.num.bytes 4096).num
    ·exact (qLT _).2.2 b _ (g0.num.num.bytes 4096).num
   ·exact g0.num.num
 ·exact g0.num
theorem JO2 {b : List UInt8} {x : (Man × Int × Int) × RSt} (h : ManRd b x) (G : RGood b x.2) : ((decF b x).1 ≠ 0 ∧ 0 ≤ (decF b x).2 ∧ (decF b x).2 ≤ b.length) ∨ (decF b x = (0, 0) ∧ ManIn x.1.1 ∧ KgP x.1.1 = b) := by
 rcases h with h | ⟨h1, h2, h3, h⟩
 ·refine .inl ?_
  have f1 : qSQ b x.2 = (x.2.err, x.2.ea) := by unfold qSQ; rw [if_neg fun q => h q.1]
  unfold decF Z3n qPL
  rw [f1, if_neg h, if_pos (by simp [h])]
  exact ⟨h, G.2 h⟩
 have hf : Z3n b x.2 = false := by
  unfold Z3n qSQ qPL
  rw [if_pos h1]
  by_cases q : x.2.pos < b.length
  ·rw [if_pos ⟨h1, q⟩]
   simp
   omega
  ·rw [if_neg fun z => q z.2, h1]
   simp
 rcases h with ⟨c, a0, a1⟩ | ⟨c, hm, hp, hl⟩
 ·refine .inl ?_
  have : decF b x = x.1.2 := by
   unfold decF
   rw [hf, if_neg (by simp), if_neg fun q => c (congrArg Prod.fst q)]
  rw [this]
  exact ⟨c, a0, a1⟩
 ·have e : decF b x = qSQ b x.2 := by
   unfold decF
   rw [hf, if_neg (by simp), if_pos c]
  by_cases q : x.2.pos < b.length
  ·refine .inl ?_
   have : qSQ b x.2 = (4, (x.2.pos : Int)) := by unfold qSQ; rw [if_pos ⟨h1, q⟩]
   rw [e, this]
   exact ⟨show (4 : Int) ≠ 0 by decide, by dsimp only; omega, by dsimp only; omega⟩
  ·refine .inr ⟨?_, hm, ?_⟩
   ·rw [e]
    unfold qSQ
    rw [if_neg fun z => q z.2, h1, h2]
   ·obtain ⟨y, y1, _⟩ := hp
    have := congrArg List.length y1
    rw [List.length_drop, List.length_append] at this
    have hy : y = [] := List.eq_nil_of_length_eq_zero (by omega)
    rw [hy, List.append_nil, List.drop_zero] at y1
    exact y1.symm
theorem ZXF {b : List UInt8} (h : (mdec b).2.1 = 0) : ManIn (mdec b).1 ∧ KgP (mdec b).1 = b ∧ b.length ≤ 4096 ∧ (mdec b).2 = (0, 0) := by
 unfold mdec at h ⊢
 split at h
 ·cases h
 rename_i hl
 rw [if_neg hl]
 rcases JO2 (Qjy b) (JYw b _) with q | ⟨q, hm, he⟩
 ·rw [if_neg fun z => q.1 (congrArg Prod.fst z)] at h
  exact absurd h q.1
 ·rw [if_pos q]
  exact ⟨hm, he, by omega, rfl⟩
theorem JfM {b : List UInt8} (h : (mdec b).2.1 ≠ 0) : (mdec b).1 = manZ := by
 unfold mdec at h ⊢
 split at h
 ·rename_i hl
  rw [if_pos hl]
 ·rename_i hl
  rw [if_neg hl]
  split at h
  ·exact absurd rfl h
  ·rename_i hd
   rw [if_neg hd]
end
end Go.Proofs.Ytpoojfnmhnedpaa
end
section
namespace Go.Proofs.Ytpoojfnmhnedpaa
def Xdl : Row UInt8 := ⟨fun b => [u8A b], 1, fun _ => rfl, by decide, 0, fun x y e => Ykb (by simpa using e)⟩
theorem XA7 (b : UInt8) : Xdl.f b = [u8A b] := rfl
theorem Xcx : Xdl.sz = 1 := _root_.id rfl
theorem Yq4 (l : List UInt8) : Xdl.cells l = l.map u8A := by
 induction l with
 | nil => rfl
 | cons x l ih => simp only [Row.cells, List.flatMap_cons, List.map_cons] at ih ⊢; rw [ih]; rfl
theorem JvZ : ∀ x, ∀ a ∈ Xdl.f x, a.fl = true := fun x a h => by rw [List.mem_singleton.1 h]; rfl
structure Dsc where
 media : Int
 id : Dg
 size : Int
 plat : List UInt8
deriving DecidableEq
def KZO : Dsc := ⟨0, KXL, 0, []⟩
def deR : Row Dsc := ⟨fun x => .i .i64 x.media :: (idR.f x.id ++ [.i .i64 x.size, .s x.plat]), 35, fun x => by rw [List.length_cons, List.length_append, idR.len]; rfl, by decide, KZO, fun x y e => by
 obtain ⟨a, b, c, d⟩ := x
 obtain ⟨a', b', c', d'⟩ := y
 simp only [List.cons.injEq, AV.i.injEq, true_and] at e
 obtain ⟨rfl, e⟩ := e
 have h := List.append_inj e (by rw [idR.len, idR.len])
 have h1 := idR.inj _ _ h.1
 simp only [List.cons.injEq, AV.i.injEq, AV.s.injEq, true_and, and_true] at h
 rw [h1, h.2.1, h.2.2]⟩
theorem XmT (x : Dsc) : deR.f x = .i .i64 x.media :: (idR.f x.id ++ [.i .i64 x.size, .s x.plat]) := _root_.id rfl
theorem Qy1 : deR.sz = 35 := _root_.id rfl
theorem qAM : ∀ x, ∀ a ∈ deR.f x, a.fl = true := fun x a h => by
 rw [XmT] at h
 rcases List.mem_cons.1 h with q | q
 ·rw [q]; rfl
 ·rcases List.mem_append.1 q with q | q
  ·obtain ⟨b, _, rfl⟩ := List.mem_map.1 q
   rfl
  ·rcases List.mem_cons.1 q with q | q
   ·rw [q]; rfl
   ·rw [List.mem_singleton.1 q]; rfl
def Dsc.de (x : Dsc) : De := ⟨x.media, x.id.l, x.size, x.plat⟩
theorem Dsc.de_inj {x y : Dsc} (h : x.de = y.de) : x = y := by
 obtain ⟨a, b, c, d⟩ := x
 obtain ⟨a', b', c', d'⟩ := y
 simp only [Dsc.de, De.mk.injEq] at h
 obtain ⟨rfl, h, rfl, rfl⟩ := h
 rw [Dg.ext h]
def dsc (d : De) : Dsc := ⟨d.media, if h : d.id.length = 32 then ⟨d.id, h⟩ else KXL, d.size, d.plat⟩
theorem K9C {d : De} (h : d.id.length = 32) : (dsc d).de = d := by
 unfold dsc Dsc.de
 dsimp only
 rw [dif_pos h]
def JcH (k : Int) (t : List UInt8) (c : Dsc) (l s : List Dsc) : Man := ⟨k, t, c.de, l.map Dsc.de, s.map Dsc.de⟩
end Go.Proofs.Ytpoojfnmhnedpaa
end
section
namespace Go.Proofs.Ytpoojfnmhnedpaa
open Go.RowKit
section
variable {P : Program} {α : Type} {r : Row α}
theorem Bt.less {p : Nat} {fr : List AV} {h : List AB} {i : Nat} {B B' : AB} (hi : h[i]? = some B) (hbr : ∀ ρ w b o n, BR (KC P) ρ w b o n B → BR (KC P) ρ w b o n B') (hm : B'.mut = true → B.mut = true) (hl : B'.live = true → B.live = true) : Bt P p fr h fr (h.set i B') := by
 intro ρ w cs hp rr v
 have hlt := (List.getElem?_eq_some_iff.1 hi).1
 have cls : ∀ (j : Nat) C, (h.set i B')[j]? = some C → ∃ C0, h[j]? = some C0 ∧ (C.mut = true → C0.mut = true) ∧ (C.live = true → C0.live = true) ∧ ∀ ρ w b o n, BR (KC P) ρ w b o n C0 → BR (KC P) ρ w b o n C := fun j C hC => by
  rw [List.getElem?_set] at hC
  split at hC
  ·rename_i hij
   subst hij
   cases hC
   exact ⟨B, hi, hm, hl, hbr⟩
  ·exact ⟨C, hC, fun z => z, fun z => z, fun _ _ _ _ _ z => z⟩
 refine ⟨by rw [List.length_set]; exact hp, ρ, v, ⟨by rw [List.length_set]; exact rr.len, fun j C b o n h1 h2 => ?_, fun j k bj oj bk ok Bj Bk hne h1 h2 h3 h4 g1 g2 => ?_⟩, fun b ⟨j, C, o, h1, h2, h3⟩ => ?_, fun j b ⟨C, o, h1, h2, h3⟩ => ?_, fun _ _ => rfl⟩
 ·obtain ⟨C0, q1, _, _, q4⟩ := cls j C h1
  exact q4 _ _ _ _ _ (rr.blk j C0 b o n q1 h2)
 ·obtain ⟨C0, q1, q2, _, _⟩ := cls j Bj h1
  obtain ⟨C1, z1, _, z3, _⟩ := cls k Bk h2
  exact rr.sep j k bj oj bk ok C0 C1 hne q1 z1 h3 h4 (q2 g1) (z3 g2)
 ·obtain ⟨C0, q1, q2, _, _⟩ := cls j C h1
  exact ⟨j, C0, o, q1, q2 h2, h3⟩
 ·obtain ⟨C0, q1, _, q3, _⟩ := cls j C h1
  exact ⟨j, ⟨C0, o, q1, q3 h2, h3⟩, fun _ => rfl, fun z => z⟩
end
end Go.Proofs.Ytpoojfnmhnedpaa
end
