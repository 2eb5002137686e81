/- Part 11 of what the laws' proofs rest on. No condition. -/
import Derived.Test.YtpoojfnmhnedpaaMo10
set_option linter.all false
section
namespace Go.Proofs.Ytpoojfnmhnedpaa
section
variable {α β γ : Type}
def Rdr (f : List UInt8 → RSt → α × RSt) (e : List UInt8) (v : α) : Prop :=
 (∀ bs s, s.err = 0 → Has bs s.pos e → f bs s = (v, { s with pos := s.pos + e.length })) ∧
 (∀ bs s, s.err = 0 → Short bs s.pos e → (f bs s).2.err = 6) ∧
 (∀ bs s, s.err ≠ 0 → (f bs s).2 = s)
theorem Rdr.seq {f : List UInt8 → RSt → α × RSt} {g : List UInt8 → RSt → β × RSt} {e e' : List UInt8} {v : α} {v' : β} (hf : Rdr f e v) (hg : Rdr g e' v') :
  Rdr (fun bs s => (((f bs s).1, (g bs (f bs s).2).1), (g bs (f bs s).2).2)) (e ++ e') (v, v') := by
 refine ⟨fun bs s hs h => ?_, fun bs s hs h => ?_, fun bs s hs => ?_⟩
 ·dsimp only
  rw [hf.1 bs s hs h.left, hg.1 bs ⟨s.pos + e.length, s.err, s.ea⟩ hs h.right, List.length_append, Nat.add_assoc]
 ·dsimp only
  rcases h.cut with h1 | ⟨h1, h2⟩
  ·have := hf.2.1 bs s hs h1
   rw [hg.2.2 bs _ (by rw [this]; decide)]
   exact this
  ·rw [hf.1 bs s hs h1]
   exact hg.2.1 bs ⟨s.pos + e.length, s.err, s.ea⟩ hs h2
 ·dsimp only
  rw [hf.2.2 bs s hs, hg.2.2 bs s hs]
theorem Rdr.map {f : List UInt8 → RSt → α × RSt} {e : List UInt8} {v : α} (hf : Rdr f e v) (φ : α → β) : Rdr (fun bs s => (φ (f bs s).1, (f bs s).2)) e (φ v) :=
 ⟨fun bs s hs h => by dsimp only; rw [hf.1 bs s hs h], fun bs s hs h => hf.2.1 bs s hs h, fun bs s hs => hf.2.2 bs s hs⟩
theorem YAD {n : Int} (h0 : 0 ≤ n) (h1 : n ≤ 9223372036854775807) : Rdr YLq (JDk n) n :=
 ⟨fun _ _ hs h => QFD hs h0 h1 h, fun _ _ hs h => Z90 hs h, fun bs s h => by rw [XjY bs s h]⟩
theorem YXK {l : List UInt8} (hl : l.length = 32) : Rdr rdID l l :=
 ⟨fun _ _ hs h => ZYR hs hl h, fun _ _ hs h => JHC hs hl h, fun bs s h => Xu6 bs s h⟩
theorem J0Z {l : List UInt8} {most : Int} (hl : l.length ≤ 1048576) (hm : (l.length : Int) ≤ most) : Rdr (fun bs s => Qdr bs s most) (JDk l.length ++ l) l := by
 refine ⟨fun bs s hs h => ?_, fun bs s hs h => ?_, fun bs s h => by dsimp only; rw [J6F bs s most h]⟩
 ·dsimp only
  unfold Qdr
  rw [XAF hs (by omega) (by omega) hm h.left]
  have := zhS (bs := bs) (s := { s with pos := s.pos + (JDk l.length).length }) (zqQ s) hs h.right
  simp only [Int.toNat_natCast]
  rw [this]
  simp [Nat.add_assoc]
 ·dsimp only
  unfold Qdr
  rcases h.cut with h1 | ⟨h1, h2⟩
  ·have := J7U (most := most) hs h1
   rw [JCv _ _ _ _ (by rw [this]; decide), this]
  ·rw [XAF hs (by omega) (by omega) hm h1]
   exact z7B (s := { s with pos := s.pos + (JDk l.length).length }) _ hs h2
structure DeIn (d : De) : Prop where
 m0 : 0 ≤ d.media
 m1 : d.media ≤ 9223372036854775807
 id : d.id.length = 32
 s0 : 0 ≤ d.size
 s1 : d.size ≤ 9223372036854775807
 pl : d.plat.length ≤ 4096
def XYJ (d : De) : List UInt8 := JDk d.media ++ (d.id ++ (JDk d.size ++ (JDk d.plat.length ++ d.plat)))
def QRe (ds : List De) : List UInt8 := ds.flatMap XYJ
theorem Ylv {d : De} (h : DeIn d) : Rdr rdDe (XYJ d) d :=
 ((YAD h.m0 h.m1).seq ((YXK h.id).seq ((YAD h.s0 h.s1).seq (J0Z (most := 4096) (by have := h.pl; omega) (by have := h.pl; omega))))).map fun x : Int × List UInt8 × Int × List UInt8 => (⟨x.1, x.2.1, x.2.2.1, x.2.2.2⟩ : De)
theorem qLZ (ds : List De) (d : De) : QRe (ds ++ [d]) = QRe ds ++ XYJ d := by simp [QRe]
theorem q6m : ∀ (n : Nat) (ds : List De), ds.length = n → (∀ d ∈ ds, DeIn d) → Rdr (fun bs s => YLP bs s n) (QRe ds) ds
 | 0, ds, hl, _ => by
  have : ds = [] := List.eq_nil_of_length_eq_zero hl
  subst this
  refine ⟨fun bs s hs h => rfl, fun bs s hs h => ?_, fun bs s hs => rfl⟩
  have := h.len
  obtain ⟨x, h0, h1, h2⟩ := h
  simp [QRe] at h1
  exact absurd h1.2 h0
 | n + 1, ds, hl, hd => by
  have hne : ds ≠ [] := fun q => by rw [q] at hl; cases hl
  have e := List.dropLast_concat_getLast hne
  have i1 := q6m n ds.dropLast (by rw [List.length_dropLast, hl]; rfl) fun d h => hd d (List.dropLast_subset ds h)
  have i2 := Ylv (hd _ (List.getLast_mem hne))
  have := (i1.seq i2).map fun x : List De × De => x.1 ++ [x.2]
  rw [← qLZ] at this
  dsimp only at this
  rw [e] at this
  exact this
def KgO (m : Man) : List UInt8 := JDk 77 ++ (JDk m.kind ++ ((JDk m.title.length ++ m.title) ++ ((if m.kind = 3 then XYJ m.config else []) ++ (JDk (m.layers ++ m.subs).length ++ QRe (m.layers ++ m.subs)))))
structure ManIn (m : Man) : Prop where
 kind : Q54 m = true
 all : ∀ d ∈ allD m, DeIn d
 lay : m.layers.length ≤ 16
 sub : m.subs.length ≤ 8
 tit : m.title.length ≤ 4096
theorem Zh6 (bs : List UInt8) (s : RSt) (h : s.err ≠ 0) : (rdDe bs s).2 = s := by
 unfold rdDe
 dsimp only
 rw [XjY bs s h, Xu6 bs s h, XjY bs s h, J6F bs s _ h]
theorem Xnf (bs : List UInt8) (s : RSt) (h : s.err ≠ 0) : ∀ n, (YLP bs s n).2 = s
 | 0 => rfl
 | n + 1 => by
  show (rdDe bs (YLP bs s n).2).2 = s
  rw [Xnf bs s h n, Zh6 bs s h]
theorem zNp {m : Man} (h : Q54 m = true) (h3 : m.kind = 3) : m.subs = [] := by
 unfold Q54 at h
 rw [if_pos h3, decide_eq_true_eq] at h
 exact List.eq_nil_of_length_eq_zero h
theorem Jc1 {m : Man} (h : Q54 m = true) (h3 : ¬ m.kind = 3) : m.kind = 4 ∧ m.layers = [] ∧ m.config = deZ := by
 unfold Q54 at h
 rw [if_neg h3] at h
 split at h
 ·rename_i h4
  rw [Bool.and_eq_true, decide_eq_true_eq, J2R] at h
  exact ⟨h4, List.eq_nil_of_length_eq_zero h.1, h.2⟩
 ·cases h
theorem ZOH {m : Man} (hm : ManIn m) {bs : List UInt8} {sz : Int} (h : Has bs 0 (KgO m)) : Knl bs ⟨0, 0, 0⟩ sz = ((m, 0, 0), ⟨(KgO m).length, 0, 0⟩) := by
 have hb := J0Z (l := m.title) (most := 4096) (by have := hm.tit; omega) (by have := hm.tit; omega)
 unfold KgO at h ⊢
 by_cases h3 : m.kind = 3
 ·have hsub := zNp hm.kind h3
  rw [h3, hsub, if_pos rfl, List.append_nil] at h
  have hc : DeIn m.config := hm.all _ (by unfold allD; rw [if_pos h3]; simp)
  have hl : ∀ d ∈ m.layers, DeIn d := fun d hd => hm.all _ (by unfold allD; simp [hd])
  have e1 := (YAD (n := 77) (by decide) (by decide)).1 bs ⟨0, 0, 0⟩ rfl h.left
  have e2 := (YAD (n := 3) (by decide) (by decide)).1 bs ⟨_, 0, 0⟩ rfl h.right.left
  have e3 := hb.1 bs ⟨_, 0, 0⟩ rfl h.right.right.left
  have e4 := (Ylv hc).1 bs ⟨_, 0, 0⟩ rfl h.right.right.right.left
  have e5 := (YAD (n := m.layers.length) (by omega) (by have := hm.lay; omega)).1 bs ⟨_, 0, 0⟩ rfl h.right.right.right.right.left
  have e6 := (q6m _ m.layers rfl hl).1 bs ⟨_, 0, 0⟩ rfl h.right.right.right.right.right
  rw [Qrs e1 e2 e3 e4 e5]
  unfold qwf
  rw [if_neg (by have := hm.lay; omega)]
  dsimp only at e6 ⊢
  rw [e6]
  obtain ⟨k, t, c, l, sb⟩ := m
  dsimp only at h3 hsub ⊢
  subst h3 hsub
  simp [Nat.add_assoc]
 ·obtain ⟨h4, hlay, hcfg⟩ := Jc1 hm.kind h3
  rw [h4, hlay, if_neg (by decide), List.nil_append, List.nil_append] at h
  have hl : ∀ d ∈ m.subs, DeIn d := fun d hd => hm.all _ (by unfold allD; simp [hd])
  have e1 := (YAD (n := 77) (by decide) (by decide)).1 bs ⟨0, 0, 0⟩ rfl h.left
  have e2 := (YAD (n := 4) (by decide) (by decide)).1 bs ⟨_, 0, 0⟩ rfl h.right.left
  have e3 := hb.1 bs ⟨_, 0, 0⟩ rfl h.right.right.left
  have e5 := (YAD (n := m.subs.length) (by omega) (by have := hm.sub; omega)).1 bs ⟨_, 0, 0⟩ rfl h.right.right.right.left
  have e6 := (q6m _ m.subs rfl hl).1 bs ⟨_, 0, 0⟩ rfl h.right.right.right.right
  rw [ZcF e1 e2 e3 e5]
  unfold QLQ
  rw [if_neg (by have := hm.sub; omega)]
  dsimp only at e6 ⊢
  rw [e6]
  obtain ⟨k, t, c, l, sb⟩ := m
  dsimp only at h4 hlay hcfg ⊢
  subst h4 hlay hcfg
  simp [Nat.add_assoc]
end
end Go.Proofs.Ytpoojfnmhnedpaa
end
section
namespace Go.Proofs.Ytpoojfnmhnedpaa
section
variable {m : Man} {bs : List UInt8} {sz : Int}
theorem XiH (hm : ManIn m) (h : Short bs 0 (KgO m)) : (Knl bs ⟨0, 0, 0⟩ sz).2.err = 6 := by
 have hb := J0Z (l := m.title) (most := 4096) (by have := hm.tit; omega) (by have := hm.tit; omega)
 unfold KgO at h
 rcases h.cut with q | ⟨h1, h⟩
 ·have E := (YAD (n := 77) (by decide) (by decide)).2.1 bs ⟨0, 0, 0⟩ rfl q
  unfold Knl
  generalize YLq bs ⟨0, 0, 0⟩ = a at *
  have ne : a.2.err ≠ 0 := by rw [E]; decide
  simp only [XjY bs a.2 ne]
  split <;> simp [E]
 have e1 := (YAD (n := 77) (by decide) (by decide)).1 bs ⟨0, 0, 0⟩ rfl h1
 by_cases h3 : m.kind = 3
 ·have hsub := zNp hm.kind h3
  rw [h3, hsub, if_pos rfl, List.append_nil] at h
  have hc : DeIn m.config := hm.all _ (by unfold allD; rw [if_pos h3]; simp)
  have hl : ∀ d ∈ m.layers, DeIn d := fun d hd => hm.all _ (by unfold allD; simp [hd])
  rcases h.cut with q | ⟨h2, h⟩
  ·have E := (YAD (n := 3) (by decide) (by decide)).2.1 bs ⟨_, 0, 0⟩ rfl q
   unfold Knl
   simp only [e1, if_true]
   clear e1
   generalize YLq bs _ = k at *
   have ne : k.2.err ≠ 0 := by rw [E]; decide
   simp only [J6F bs k.2 4096 ne, Zh6 bs k.2 ne, XjY bs k.2 ne]
   split
   ·simp [Xnf bs k.2 ne, E]
   ·split <;> simp [Xnf bs k.2 ne, E]
  have e2 := (YAD (n := 3) (by decide) (by decide)).1 bs ⟨_, 0, 0⟩ rfl h2
  rcases h.cut with q | ⟨h4, h⟩
  ·have E := hb.2.1 bs ⟨_, 0, 0⟩ rfl q
   unfold Knl
   simp only [e1, e2, if_true]
   try dsimp only at E
   generalize Qdr bs _ 4096 = t at *
   have ne : t.2.err ≠ 0 := by rw [E]; decide
   simp only [Zh6 bs t.2 ne, XjY bs t.2 ne]
   simp [Xnf bs t.2 ne, E]
  have e3 := hb.1 bs ⟨_, 0, 0⟩ rfl h4
  rcases h.cut with q | ⟨h5, h⟩
  ·have E := (Ylv hc).2.1 bs ⟨_, 0, 0⟩ rfl q
   unfold Knl
   dsimp only at e3
   simp only [e1, e2, e3, if_true]
   generalize rdDe bs _ = t at *
   have ne : t.2.err ≠ 0 := by rw [E]; decide
   simp only [XjY bs t.2 ne]
   simp [Xnf bs t.2 ne, E]
  have e4 := (Ylv hc).1 bs ⟨_, 0, 0⟩ rfl h5
  rcases h.cut with q | ⟨h6, h⟩
  ·have E := (YAD (n := m.layers.length) (by omega) (by have := hm.lay; omega)).2.1 bs ⟨_, 0, 0⟩ rfl q
   unfold Knl
   dsimp only at e3
   simp only [e1, e2, e3, e4, if_true]
   generalize YLq bs ⟨_ + (XYJ m.config).length, 0, 0⟩ = t at *
   have ne : t.2.err ≠ 0 := by rw [E]; decide
   split
   ·exact E
   ·simp [Xnf bs t.2 ne, E]
  have e5 := (YAD (n := m.layers.length) (by omega) (by have := hm.lay; omega)).1 bs ⟨_, 0, 0⟩ rfl h6
  rw [Qrs e1 e2 e3 e4 e5]
  unfold qwf
  rw [if_neg (by have := hm.lay; omega)]
  exact (q6m _ m.layers rfl hl).2.1 bs ⟨_, 0, 0⟩ rfl h
 ·obtain ⟨h4', hlay, hcfg⟩ := Jc1 hm.kind h3
  rw [h4', hlay, if_neg (by decide), List.nil_append, List.nil_append] at h
  have hl : ∀ d ∈ m.subs, DeIn d := fun d hd => hm.all _ (by unfold allD; simp [hd])
  rcases h.cut with q | ⟨h2, h⟩
  ·have E := (YAD (n := 4) (by decide) (by decide)).2.1 bs ⟨_, 0, 0⟩ rfl q
   unfold Knl
   simp only [e1, if_true]
   clear e1
   generalize YLq bs _ = k at *
   have ne : k.2.err ≠ 0 := by rw [E]; decide
   simp only [J6F bs k.2 4096 ne, Zh6 bs k.2 ne, XjY bs k.2 ne]
   split
   ·simp [Xnf bs k.2 ne, E]
   ·split <;> simp [Xnf bs k.2 ne, E]
  have e2 := (YAD (n := 4) (by decide) (by decide)).1 bs ⟨_, 0, 0⟩ rfl h2
  rcases h.cut with q | ⟨h4, h⟩
  ·have E := hb.2.1 bs ⟨_, 0, 0⟩ rfl q
   unfold Knl
   simp only [e1, e2, if_true, (by decide : ¬ (4 : Int) = 3), if_false]
   try dsimp only at E
   generalize Qdr bs _ 4096 = t at *
   have ne : t.2.err ≠ 0 := by rw [E]; decide
   simp only [XjY bs t.2 ne]
   simp [Xnf bs t.2 ne, E]
  have e3 := hb.1 bs ⟨_, 0, 0⟩ rfl h4
  rcases h.cut with q | ⟨h6, h⟩
  ·have E := (YAD (n := m.subs.length) (by omega) (by have := hm.sub; omega)).2.1 bs ⟨_, 0, 0⟩ rfl q
   unfold Knl
   dsimp only at e3
   simp only [e1, e2, e3, if_true, (by decide : ¬ (4 : Int) = 3), if_false]
   generalize YLq bs ⟨_ + (JDk _ ++ m.title).length, 0, 0⟩ = t at *
   have ne : t.2.err ≠ 0 := by rw [E]; decide
   split
   ·exact E
   ·simp [Xnf bs t.2 ne, E]
  have e5 := (YAD (n := m.subs.length) (by omega) (by have := hm.sub; omega)).1 bs ⟨_, 0, 0⟩ rfl h6
  rw [ZcF e1 e2 e3 e5]
  unfold QLQ
  rw [if_neg (by have := hm.sub; omega)]
  exact (q6m _ m.subs rfl hl).2.1 bs ⟨_, 0, 0⟩ rfl h
theorem Has.self (l x : List UInt8) : Has (l ++ x) 0 l := ⟨x, rfl, Nat.zero_le _⟩
theorem ZTO (hm : ManIn m) (hl : (KgO m).length ≤ 4096) : mdec (KgO m) = (m, 0, 0) := by
 have h : Has (KgO m) 0 (KgO m) := ⟨[], by simp, Nat.zero_le _⟩
 unfold mdec
 rw [if_neg (by omega), ZOH hm h]
 have : decF (KgO m) ((m, 0, 0), ⟨(KgO m).length, 0, 0⟩) = (0, 0) := by
  unfold decF Z3n qSP qPK
  simp
 rw [if_pos this]
theorem KDM (hm : ManIn m) (hl : (KgO m).length ≤ 4096) {k : Nat} (hk : k < (KgO m).length) : (mdec ((KgO m).take k)).2.1 = 6 := by
 have h : Short ((KgO m).take k) 0 (KgO m) := ⟨(KgO m).drop k, fun q => by have := congrArg List.length q; rw [List.length_drop] at this; simp at this; omega, by simp, Nat.zero_le _⟩
 have E := XiH (sz := (((KgO m).take k).length : Nat)) hm h
 unfold mdec
 rw [if_neg (by rw [List.length_take]; omega)]
 generalize (KgO m).take k = b at *
 generalize Knl b ⟨0, 0, 0⟩ b.length = x at *
 have f1 : qSP b x.2 = (6, x.2.ea) := by unfold qSP; rw [if_neg (by rw [E]; simp), E]
 have f2 : decF b x = (6, x.2.ea) := by
  unfold decF Z3n qPK
  rw [f1, if_pos (by rw [E]; simp)]
 rw [f2, if_neg (by simp)]
theorem zSH (hm : ManIn m) (hl : (KgO m).length ≤ 4096) (c : UInt8) : mdec (KgO m ++ [c]) = (manZ, 4, ((KgO m).length : Int)) := by
 unfold mdec
 by_cases h4 : 4096 < (KgO m ++ [c]).length
 ·rw [if_pos h4]
  rw [List.length_append, List.length_singleton] at h4
  have : (KgO m).length = 4096 := by omega
  rw [this]
  rfl
 ·rw [if_neg h4, ZOH hm (Has.self _ _)]
  have : decF (KgO m ++ [c]) ((m, 0, 0), ⟨(KgO m).length, 0, 0⟩) = (4, ((KgO m).length : Int)) := by
   unfold decF Z3n qSP qPK
   simp
  rw [this, if_neg (by simp)]
end
end Go.Proofs.Ytpoojfnmhnedpaa
end
section
namespace Go.Proofs.Ytpoojfnmhnedpaa
section
variable {lim : Int} {r : List UInt8 × Int} {t : List UInt8} {m : Man}
def WS (lim : Int) (r : List UInt8 × Int) (t : List UInt8) : Prop := (r = (t, 0) ∧ (t.length : Int) ≤ lim) ∨ (r.2 = 4 ∧ lim < (t.length : Int))
theorem WS.put (h : WS lim r t) (enc : List UInt8) : WS lim (wput lim r.1 r.2 enc true) (t ++ enc) := by
 unfold WS wput
 rw [List.length_append]
 rcases h with ⟨rfl, h⟩ | ⟨h1, h2⟩
 ·dsimp only
  rw [if_pos rfl, if_pos rfl]
  by_cases q : lim < t.length + enc.length
  ·rw [if_pos q]
   exact .inr ⟨rfl, by omega⟩
  ·rw [if_neg q]
   exact .inl ⟨rfl, by omega⟩
 ·rw [h1, if_neg (by decide)]
  exact .inr ⟨rfl, by omega⟩
theorem WS.num (h : WS lim r t) {n : Int} (h0 : 0 ≤ n) : WS lim (wN lim r n) (t ++ JDk n) := by
 unfold wN
 rw [decide_eq_true h0]
 exact h.put _
theorem WS.txt (h : WS lim r t) (s : List UInt8) : WS lim (wT lim r s) (t ++ (JDk s.length ++ s)) := h.put _
theorem WS.id (h : WS lim r t) (s : List UInt8) : WS lim (wI lim r s) (t ++ s) := h.put _
theorem WS.de (h : WS lim r t) {d : De} (h0 : 0 ≤ d.media) (h1 : 0 ≤ d.size) : WS lim (wD lim r d) (t ++ XYJ d) := by
 have := (((h.num h0).id d.id).num h1).txt d.plat
 unfold wD XYJ
 simpa [List.append_assoc] using this
theorem WS.des : ∀ (ds : List De) {r : List UInt8 × Int} {t : List UInt8}, WS lim r t → (∀ d ∈ ds, 0 ≤ d.media ∧ 0 ≤ d.size) → WS lim (wDs lim r ds) (t ++ QRe ds)
 | [], _, t, h, _ => by simpa [wDs, QRe] using h
 | d :: ds, _, t, h, hd => by
  have := WS.des ds (h.de (hd d List.mem_cons_self).1 (hd d List.mem_cons_self).2) fun x hx => hd x (List.mem_cons_of_mem _ hx)
  simpa [wDs, QRe, List.append_assoc] using this
theorem WS.man (hk : Q54 m = true) (hn : (allD m).any negD = false) (hl : 0 ≤ lim) : WS lim (seqR lim ([], 0) m 5) (KgO m) := by
 have pos : ∀ d ∈ allD m, 0 ≤ d.media ∧ 0 ≤ d.size := fun d hd => by
  have := List.any_eq_false.1 hn d hd
  unfold negD at this
  simp at this
  omega
 have w0 : WS lim ([], 0) [] := .inl ⟨rfl, by simpa using hl⟩
 have w1 := w0.num (n := 77) (by decide)
 have k0 : 0 ≤ m.kind := by
  by_cases h3 : m.kind = 3
  ·omega
  ·have := (Jc1 hk h3).1
   omega
 have w3 := (w1.num k0).txt m.title
 have w4 : WS lim (wC lim (wT lim (wN lim (wN lim ([], 0) 77) m.kind) m.title) m) (([] ++ JDk 77 ++ JDk m.kind ++ (JDk m.title.length ++ m.title)) ++ (if m.kind = 3 then XYJ m.config else [])) := by
  unfold wC
  by_cases h3 : m.kind = 3
  ·rw [if_pos h3, if_pos h3]
   have := pos m.config (by unfold allD; rw [if_pos h3]; simp)
   exact w3.de this.1 this.2
  ·rw [if_neg h3, if_neg h3, List.append_nil]
   exact w3
 have w5 := WS.des (m.layers ++ m.subs) (w4.num (n := ((m.layers ++ m.subs).length : Nat)) (by omega)) fun d hd => pos d (by
  unfold allD
  rcases List.mem_append.1 hd with q | q <;> simp [q])
 unfold seqR wR
 unfold KgO
 simpa [List.append_assoc] using w5
theorem YKV (hk : Q54 m = true) (hn : (allD m).any negD = false) (h1 : m.layers.length ≤ 16) (h2 : m.subs.length ≤ 8) : menc m = if (KgO m).length ≤ 4096 then (KgO m, 0) else ([], 4) := by
 have w := WS.man (lim := 4096) hk hn (by decide)
 unfold menc
 rw [if_pos hk, if_neg (by rw [hn]; simp), if_neg (by omega)]
 rcases w with ⟨w1, w2⟩ | ⟨w1, w2⟩
 ·rw [w1, if_pos (by omega)]
  unfold XJP
  rw [if_pos rfl]
 ·rw [if_neg (by omega), w1]
  unfold XJP
  rw [if_neg (by decide)]
theorem ZDK (h : (menc m).2 ≠ 0) : (menc m).1 = [] := by
 unfold menc at h ⊢
 split at h
 ·rename_i hk
  rw [if_pos hk]
  split at h
  ·rename_i hn
   rw [if_pos hn]
  ·rename_i hn
   rw [if_neg hn]
   split at h
   ·rename_i hs
    rw [if_pos hs]
   ·rename_i hs
    rw [if_neg hs]
    dsimp only at h ⊢
    unfold XJP
    rw [if_neg h]
 ·rename_i hk
  rw [if_neg hk]
theorem JSd (d : De) : d.plat.length ≤ (XYJ d).length := by unfold XYJ; simp only [List.length_append]; omega
theorem KMb {ds : List De} {d : De} (h : d ∈ ds) : (XYJ d).length ≤ (QRe ds).length := by
 induction ds with
 | nil => cases h
 | cons x l ih =>
  have e : QRe (x :: l) = XYJ x ++ QRe l := by simp [QRe]
  rw [e, List.length_append]
  rcases List.mem_cons.1 h with rfl | q
  ·omega
  ·have := ih q
   omega
theorem JpT (ok : ManOk m) (hk : Q54 m = true) (hn : (allD m).any negD = false) (h1 : m.layers.length ≤ 16) (h2 : m.subs.length ≤ 8) (hl : (KgO m).length ≤ 4096) : ManIn m := by
 have l := hl
 unfold KgO at l
 simp only [List.length_append] at l
 have lr : (QRe (m.layers ++ m.subs)).length ≤ 4096 := by omega
 refine ⟨hk, fun d hd => ?_, h1, h2, by omega⟩
 have neg := List.any_eq_false.1 hn d hd
 unfold negD at neg
 simp at neg
 have dok : DeOk d ∧ d.plat.length ≤ 4096 := by
  have key : ∀ d ∈ m.layers ++ m.subs, d.plat.length ≤ 4096 := fun d h => Nat.le_trans (JSd d) (Nat.le_trans (KMb h) lr)
  unfold allD at hd
  rcases List.mem_append.1 hd with hd | hd
  ·rcases List.mem_append.1 hd with hd | hd
   ·by_cases h3 : m.kind = 3
    ·rw [if_pos h3, List.mem_singleton] at hd
     rw [if_pos h3] at l
     subst hd
     exact ⟨ok.config, Nat.le_trans (JSd _) (by omega)⟩
    ·rw [if_neg h3] at hd
     cases hd
   ·exact ⟨ok.layers d hd, key d (List.mem_append.2 (.inl hd))⟩
  ·exact ⟨ok.subs d hd, key d (List.mem_append.2 (.inr hd))⟩
 have i1 := dok.1.media
 have i2 := dok.1.size
 unfold I64 at i1 i2
 exact ⟨by omega, by omega, dok.1.id, by omega, by omega, dok.2⟩
theorem qFY (ok : ManOk m) (h : (menc m).2 = 0) : ManIn m ∧ menc m = (KgO m, 0) ∧ (KgO m).length ≤ 4096 := by
 have hk : Q54 m = true := by
  apply Classical.byContradiction
  intro q
  unfold menc at h
  rw [if_neg q] at h
  cases h
 have hn : (allD m).any negD = false := by
  cases q : (allD m).any negD with
  | false => rfl
  | true =>
   unfold menc at h
   rw [if_pos hk, if_pos q] at h
   cases h
 have hs : ¬ (16 < m.layers.length ∨ 8 < m.subs.length) := fun q => by
  unfold menc at h
  rw [if_pos hk, if_neg (by rw [hn]; simp), if_pos q] at h
  cases h
 have e := YKV hk hn (by omega) (by omega)
 by_cases hl : (KgO m).length ≤ 4096
 ·rw [if_pos hl] at e
  exact ⟨JpT ok hk hn (by omega) (by omega) hl, e, hl⟩
 ·rw [e, if_neg hl] at h
  cases h
theorem q9d (h : ManIn m) (hl : (KgO m).length ≤ 4096) : menc m = (KgO m, 0) := by
 have hn : (allD m).any negD = false := List.any_eq_false.2 fun d hd => by
  have := h.all d hd
  have h1 := this.m0
  have h2 := this.s0
  unfold negD
  simp
  omega
 rw [YKV h.kind hn h.lay h.sub, if_pos hl]
end
end Go.Proofs.Ytpoojfnmhnedpaa
end
section
namespace Go.Proofs.Ytpoojfnmhnedpaa
section
variable {α β γ : Type}
def Rok (f : List UInt8 → RSt → α × RSt) (enc : α → List UInt8) (P : α → Prop) : Prop :=
 (∀ bs s, s.err = 0 → RGood bs s → (f bs s).2.err = 0 → Has bs s.pos (enc (f bs s).1) ∧ (f bs s).2 = { s with pos := s.pos + (enc (f bs s).1).length } ∧ P (f bs s).1) ∧
 (∀ bs s, s.err ≠ 0 → (f bs s).2 = s) ∧ (∀ bs s, RGood bs s → RGood bs (f bs s).2)
theorem Rok.nz {f : List UInt8 → RSt → α × RSt} {enc : α → List UInt8} {P : α → Prop} (F : Rok f enc P) {bs : List UInt8} {s : RSt} (h : (f bs s).2.err = 0) : s.err = 0 := by
 apply Classical.byContradiction
 intro q
 rw [F.2.1 bs s q] at h
 exact q h
theorem Rok.seq {f : List UInt8 → RSt → α × RSt} {g : List UInt8 → RSt → β × RSt} {ea : α → List UInt8} {eb : β → List UInt8} {P : α → Prop} {Q : β → Prop} (F : Rok f ea P) (G : Rok g eb Q) :
  Rok (fun bs s => (((f bs s).1, (g bs (f bs s).2).1), (g bs (f bs s).2).2)) (fun x => ea x.1 ++ eb x.2) (fun x => P x.1 ∧ Q x.2) := by
 refine ⟨fun bs s hs hg h => ?_, fun bs s h => ?_, fun bs s h => G.2.2 bs _ (F.2.2 bs s h)⟩
 ·dsimp only at h ⊢
  have h1 := G.nz h
  obtain ⟨a1, a2, a3⟩ := F.1 bs s hs hg h1
  obtain ⟨b1, b2, b3⟩ := G.1 bs _ h1 (F.2.2 bs s hg) h
  have b1' := b1
  rw [a2] at b1'
  have hp : (f bs s).2.pos = s.pos + (ea (f bs s).1).length := by rw [a2]
  have he : (f bs s).2.ea = s.ea := by rw [a2]
  refine ⟨a1.join (by rw [hp] at b1; exact b1), ?_, a3, b3⟩
  rw [b2, h1, hp, he, List.length_append, Nat.add_assoc, hs]
 ·dsimp only
  rw [F.2.1 bs s h, G.2.1 bs s h]
theorem Rok.map {f : List UInt8 → RSt → α × RSt} {ea : α → List UInt8} {P : α → Prop} (F : Rok f ea P) (φ : α → β) {eb : β → List UInt8} {Q : β → Prop} (he : ∀ x, eb (φ x) = ea x) (hQ : ∀ x, P x → Q (φ x)) : Rok (fun bs s => (φ (f bs s).1, (f bs s).2)) eb Q :=
 ⟨fun bs s hs hg h => by
  obtain ⟨a1, a2, a3⟩ := F.1 bs s hs hg h
  dsimp only
  rw [he]
  exact ⟨a1, a2, hQ _ a3⟩, F.2.1, F.2.2⟩
theorem q30 : Rok YLq JDk fun n => 0 ≤ n ∧ n ≤ 9223372036854775807 :=
 ⟨fun bs s hs _ h => ⟨(q94 hs h).1, (q94 hs h).2, K9c bs s⟩, fun bs s h => by rw [XjY bs s h], fun _ _ h => h.num⟩
theorem ZB9 : Rok rdID (fun l => l) fun l => l.length = 32 :=
 ⟨fun bs s hs hg h => ⟨(QvN hs hg h).1, (QvN hs hg h).2, ztf bs s⟩, fun bs s h => Xu6 bs s h, fun _ _ h => h.id⟩
theorem XRq {most : Int} : Rok (fun bs s => Qdr bs s most) (fun l => JDk l.length ++ l) fun l => (l.length : Int) ≤ most := by
 refine ⟨fun bs s hs hg h => ?_, fun bs s h => by dsimp only; rw [J6F bs s most h], fun _ _ h => h.bytes most⟩
 dsimp only at h ⊢
 have hm : (K1t bs s most).2.err = 0 := by
  apply Classical.byContradiction
  intro hne
  unfold Qdr at h
  rw [JCv _ _ _ _ hne] at h
  exact hne h
 obtain ⟨h1, h2, h3⟩ := QzE most hs hm
 have hge := ZzG bs s most
 obtain ⟨t1, t2, t3⟩ := ZDy _ _ hm (hg.many most) h
 have hlen : ((Qdr bs s most).1.length : Int) = (K1t bs s most).1 := by
  have : (Qdr bs s most).1.length = (K1t bs s most).1.toNat := t2
  omega
 rw [hlen]
 have t1' : Has bs (K1t bs s most).2.pos (Qdr bs s most).1 := t1
 have t3' : (Qdr bs s most).2 = { (K1t bs s most).2 with pos := (K1t bs s most).2.pos + (K1t bs s most).1.toNat } := t3
 rw [h2] at t1' t3'
 refine ⟨h1.join t1', ?_, by omega⟩
 rw [t3', List.length_append]
 have : (Qdr bs s most).1.length = (K1t bs s most).1.toNat := t2
 rw [this]
 simp [Nat.add_assoc]
theorem ZA3 : Rok rdDe XYJ DeIn :=
 (q30.seq (ZB9.seq (q30.seq (XRq (most := 4096))))).map (fun x : Int × List UInt8 × Int × List UInt8 => (⟨x.1, x.2.1, x.2.2.1, x.2.2.2⟩ : De)) (fun _ => rfl) fun x h => ⟨h.1.1, h.1.2, h.2.1, h.2.2.1.1, h.2.2.1.2, by have := h.2.2.2; dsimp only; omega⟩
theorem qLS : ∀ n, Rok (fun bs s => YLP bs s n) QRe fun ds => ds.length = n ∧ ∀ d ∈ ds, DeIn d
 | 0 => ⟨fun bs s hs hg _ => ⟨⟨bs.drop s.pos, rfl, hg.1⟩, rfl, rfl, fun d h => by cases h⟩, fun _ _ _ => rfl, fun _ _ h => h⟩
 | n + 1 => ((qLS n).seq ZA3).map (fun x : List De × De => x.1 ++ [x.2]) (fun x => qLZ x.1 x.2) fun x h => ⟨by rw [List.length_append, h.1.1]; rfl, fun d hd => by
  rcases List.mem_append.1 hd with q | q
  ·exact h.1.2 d q
  ·rw [List.mem_singleton.1 q]; exact h.2⟩
theorem Rok.step {f : List UInt8 → RSt → α × RSt} {enc : α → List UInt8} {P : α → Prop} (F : Rok f enc P) {bs E : List UInt8} {s : RSt} (hp : Has bs 0 E) (hs : s = ⟨E.length, 0, 0⟩) (h : (f bs s).2.err = 0) :
  Has bs 0 (E ++ enc (f bs s).1) ∧ (f bs s).2 = ⟨(E ++ enc (f bs s).1).length, 0, 0⟩ ∧ P (f bs s).1 := by
 subst hs
 have hl := hp.le
 obtain ⟨a1, a2, a3⟩ := F.1 bs _ rfl ⟨by dsimp only; omega, fun q => absurd rfl q⟩ h
 refine ⟨hp.join (by rw [Nat.zero_add]; exact a1), ?_, a3⟩
 rw [a2, List.length_append]
def ManRd (b : List UInt8) (x : (Man × Int × Int) × RSt) : Prop :=
 x.2.err ≠ 0 ∨ (x.2.err = 0 ∧ x.2.ea = 0 ∧ x.2.pos ≤ b.length ∧ ((x.1.2.1 ≠ 0 ∧ 0 ≤ x.1.2.2 ∧ x.1.2.2 ≤ b.length) ∨ (x.1.2 = (0, 0) ∧ ManIn x.1.1 ∧ Has b 0 (KgO x.1.1) ∧ x.2.pos = (KgO x.1.1).length)))
theorem ManRd.bad {b E : List UInt8} {m : Man} {c at0 : Int} {s : RSt} (hp : Has b 0 E) (hs : s = ⟨E.length, 0, 0⟩) (hc : c ≠ 0) (h0 : 0 ≤ at0) (h1 : at0 ≤ b.length) : ManRd b ((m, c, at0), s) := by
 subst hs
 have := hp.le
 exact .inr ⟨rfl, rfl, by dsimp only; omega, .inl ⟨hc, h0, h1⟩⟩
theorem ManRd.good {b E : List UInt8} {m : Man} {s : RSt} (hp : Has b 0 E) (hs : s = ⟨E.length, 0, 0⟩) (hm : ManIn m) (e : E = KgO m) : ManRd b ((m, 0, 0), s) := by
 subst hs e
 have := hp.le
 exact .inr ⟨rfl, rfl, by dsimp only; omega, .inr ⟨rfl, hm, hp, rfl⟩⟩
theorem YCp {b E : List UInt8} {s : RSt} (hp : Has b 0 E) (hs : s = ⟨E.length, 0, 0⟩) : 0 ≤ (b.length : Int) - qPK b s ∧ (b.length : Int) - qPK b s ≤ b.length := by
 subst hs
 have := hp.le
 unfold qPK
 rw [if_pos rfl]
 dsimp only
 omega
theorem Qjx (b : List UInt8) : ManRd b (Knl b ⟨0, 0, 0⟩ b.length) := by
 apply Classical.byContradiction
 intro hno
 have h : (Knl b ⟨0, 0, 0⟩ b.length).2.err = 0 := Decidable.byContradiction fun q => hno (.inl q)
 apply hno
 clear hno
 unfold Knl at h ⊢
 dsimp only at h ⊢
 have p0 : Has b 0 [] := ⟨b, rfl, Nat.zero_le _⟩
 by_cases h77 : (YLq b ⟨0, 0, 0⟩).1 = 77
 case neg =>
  rw [if_neg h77] at h ⊢
  obtain ⟨p1, s1, _⟩ := q30.step (s := ⟨0, 0, 0⟩) p0 rfl h
  exact .bad p1 s1 (by decide) (Int.le_refl _) (by omega)
 rw [if_pos h77] at h ⊢
 by_cases h3 : (YLq b (YLq b ⟨0, 0, 0⟩).2).1 = 3
 ·rw [if_pos h3] at h ⊢
  generalize hn : YLq b (rdDe b (Qdr b (YLq b (YLq b ⟨0, 0, 0⟩).2).2 4096).2).2 = n at *
  have hne : n.2.err = 0 := by
   split at h
   ·exact h
   ·exact (qLS _).nz h
  have hne' := hne
  rw [← hn] at hne'
  have hc := q30.nz hne'
  have ht := ZA3.nz hc
  have hk := (XRq (most := 4096)).nz ht
  have ha := q30.nz hk
  obtain ⟨p1, s1, _⟩ := q30.step (s := ⟨0, 0, 0⟩) p0 rfl ha
  obtain ⟨p2, s2, _⟩ := q30.step p1 s1 hk
  obtain ⟨p3, s3, q3⟩ := (XRq (most := 4096)).step p2 s2 ht
  obtain ⟨p4, s4, q4⟩ := ZA3.step p3 s3 hc
  obtain ⟨p5, s5, q5⟩ := q30.step p4 s4 hne'
  try dsimp only at p3 s3 p4 s4 p5 s5
  rw [hn] at p5 s5 q5
  have ra := YCp p4 s4
  by_cases h16 : 16 < n.1
  ·rw [if_pos h16]
   exact .bad p5 s5 (by decide) ra.1 ra.2
  ·rw [if_neg h16] at h ⊢
   obtain ⟨p6, s6, q6⟩ := (qLS n.1.toNat).step p5 s5 h
   try dsimp only at p6 s6
   refine .good p6 s6 ⟨?_, fun d hd => ?_, by rw [q6.1]; omega, Nat.zero_le _, by dsimp only at q3 ⊢; omega⟩ ?_
   ·unfold Q54
    dsimp only
    rw [if_pos h3]
    rfl
   ·unfold allD at hd
    dsimp only at hd
    rw [if_pos h3, List.append_nil] at hd
    rcases List.mem_append.1 hd with z | z
    ·rw [List.mem_singleton.1 z]; exact q4
    ·exact q6.2 d z
   ·unfold KgO
    dsimp only
    have en : (((YLP b n.2 n.1.toNat).1 ++ ([] : List De)).length : Int) = n.1 := by rw [List.append_nil, q6.1]; omega
    rw [if_pos h3, h77, en, List.append_nil]
    simp [List.append_assoc]
 ·rw [if_neg h3] at h ⊢
  by_cases h4 : (YLq b (YLq b ⟨0, 0, 0⟩).2).1 = 4
  case neg =>
   rw [if_neg h4] at h ⊢
   have ha := q30.nz h
   obtain ⟨p1, s1, _⟩ := q30.step (s := ⟨0, 0, 0⟩) p0 rfl ha
   obtain ⟨p2, s2, _⟩ := q30.step p1 s1 h
   exact .bad p2 s2 (by decide) (Int.le_refl _) (by omega)
  rw [if_pos h4] at h ⊢
  generalize hn : YLq b (Qdr b (YLq b (YLq b ⟨0, 0, 0⟩).2).2 4096).2 = n at *
  have hne : n.2.err = 0 := by
   split at h
   ·exact h
   ·exact (qLS _).nz h
  have hne' := hne
  rw [← hn] at hne'
  have ht := q30.nz hne'
  have hk := (XRq (most := 4096)).nz ht
  have ha := q30.nz hk
  obtain ⟨p1, s1, _⟩ := q30.step (s := ⟨0, 0, 0⟩) p0 rfl ha
  obtain ⟨p2, s2, _⟩ := q30.step p1 s1 hk
  obtain ⟨p3, s3, q3⟩ := (XRq (most := 4096)).step p2 s2 ht
  obtain ⟨p5, s5, q5⟩ := q30.step p3 s3 hne'
  try dsimp only at p3 s3 p5 s5
  rw [hn] at p5 s5 q5
  have ra := YCp p3 s3
  by_cases h16 : 8 < n.1
  ·rw [if_pos h16]
   exact .bad p5 s5 (by decide) ra.1 ra.2
  ·rw [if_neg h16] at h ⊢
   obtain ⟨p6, s6, q6⟩ := (qLS n.1.toNat).step p5 s5 h
   try dsimp only at p6 s6
   refine .good p6 s6 ⟨?_, fun d hd => ?_, Nat.zero_le _, by rw [q6.1]; omega, by dsimp only at q3 ⊢; omega⟩ ?_
   ·unfold Q54
    dsimp only
    rw [if_neg h3, if_pos h4]
    rfl
   ·unfold allD at hd
    dsimp only at hd
    rw [if_neg h3, List.nil_append, List.nil_append] at hd
    exact q6.2 d hd
   ·unfold KgO
    dsimp only
    have en : ((([] : List De) ++ (YLP b n.2 n.1.toNat).1).length : Int) = n.1 := by rw [List.nil_append, q6.1]; omega
    rw [if_neg h3, h77, en, List.nil_append, List.nil_append]
    simp [List.append_assoc]
theorem JYv (b : List UInt8) (sz : Int) : RGood b (Knl b ⟨0, 0, 0⟩ sz).2 := by
 have g0 : RGood b ⟨0, 0, 0⟩ := ⟨Nat.zero_le _, fun q => absurd rfl q⟩
 unfold Knl
 dsimp only
 split
 ·split
  ·split
   ·exact (ZA3.2.2 b _ (g0.num.num.bytes 4096)).num
   ·exact (qLS _).2.2 b _ (ZA3.2.2 b _ (g0.num.num.bytes 4096)).num
  ·split
   ·split
    ·exact (g0.num.num.bytes 4096).num
    ·exact (qLS _).2.2 b _ (g0.num.num.bytes 4096).num
   ·exact g0.num.num
 ·exact g0.num
theorem JO1 {b : List UInt8} {x : (Man × Int × Int) × RSt} (h : ManRd b x) (G : RGood b x.2) : ((decF b x).1 ≠ 0 ∧ 0 ≤ (decF b x).2 ∧ (decF b x).2 ≤ b.length) ∨ (decF b x = (0, 0) ∧ ManIn x.1.1 ∧ KgO x.1.1 = b) := by
 rcases h with h | ⟨h1, h2, h3, h⟩
 ·refine .inl ?_
  have f1 : qSP b x.2 = (x.2.err, x.2.ea) := by unfold qSP; rw [if_neg fun q => h q.1]
  unfold decF Z3n qPK
  rw [f1, if_neg h, if_pos (by simp [h])]
  exact ⟨h, G.2 h⟩
 have hf : Z3n b x.2 = false := by
  unfold Z3n qSP qPK
  rw [if_pos h1]
  by_cases q : x.2.pos < b.length
  ·rw [if_pos ⟨h1, q⟩]
   simp
   omega
  ·rw [if_neg fun z => q z.2, h1]
   simp
 rcases h with ⟨c, a0, a1⟩ | ⟨c, hm, hp, hl⟩
 ·refine .inl ?_
  have : decF b x = x.1.2 := by
   unfold decF
   rw [hf, if_neg (by simp), if_neg fun q => c (congrArg Prod.fst q)]
  rw [this]
  exact ⟨c, a0, a1⟩
 ·have e : decF b x = qSP b x.2 := by
   unfold decF
   rw [hf, if_neg (by simp), if_pos c]
  by_cases q : x.2.pos < b.length
  ·refine .inl ?_
   have : qSP b x.2 = (4, (x.2.pos : Int)) := by unfold qSP; rw [if_pos ⟨h1, q⟩]
   rw [e, this]
   exact ⟨show (4 : Int) ≠ 0 by decide, by dsimp only; omega, by dsimp only; omega⟩
  ·refine .inr ⟨?_, hm, ?_⟩
   ·rw [e]
    unfold qSP
    rw [if_neg fun z => q z.2, h1, h2]
   ·obtain ⟨y, y1, _⟩ := hp
    have := congrArg List.length y1
    rw [List.length_drop, List.length_append] at this
    have hy : y = [] := List.eq_nil_of_length_eq_zero (by omega)
    rw [hy, List.append_nil, List.drop_zero] at y1
    exact y1.symm
theorem ZXF {b : List UInt8} (h : (mdec b).2.1 = 0) : ManIn (mdec b).1 ∧ KgO (mdec b).1 = b ∧ b.length ≤ 4096 ∧ (mdec b).2 = (0, 0) := by
 unfold mdec at h ⊢
 split at h
 ·cases h
 rename_i hl
 rw [if_neg hl]
 rcases JO1 (Qjx b) (JYv b _) with q | ⟨q, hm, he⟩
 ·rw [if_neg fun z => q.1 (congrArg Prod.fst z)] at h
  exact absurd h q.1
 ·rw [if_pos q]
  exact ⟨hm, he, by omega, rfl⟩
theorem qR3 (b : List UInt8) : 0 ≤ (mdec b).2.2 ∧ (mdec b).2.2 ≤ b.length := by
 unfold mdec
 split
 ·dsimp only
  omega
 ·split
  ·dsimp only
   omega
  ·rename_i hd
   rcases JO1 (Qjx b) (JYv b _) with q | ⟨q, _, _⟩
   ·exact q.2
   ·exact absurd q hd
theorem JfL {b : List UInt8} (h : (mdec b).2.1 ≠ 0) : (mdec b).1 = manZ := by
 unfold mdec at h ⊢
 split at h
 ·rename_i hl
  rw [if_pos hl]
 ·rename_i hl
  rw [if_neg hl]
  split at h
  ·exact absurd rfl h
  ·rename_i hd
   rw [if_neg hd]
end
end Go.Proofs.Ytpoojfnmhnedpaa
end
section
namespace Go.Proofs.Ytpoojfnmhnedpaa
def Xdk : Row UInt8 := ⟨fun b => [u8A b], 1, fun _ => rfl, by decide, 0, fun x y e => Yka (by simpa using e)⟩
theorem XA6 (b : UInt8) : Xdk.f b = [u8A b] := rfl
theorem Xcw : Xdk.sz = 1 := _root_.id rfl
theorem Yq3 (l : List UInt8) : Xdk.cells l = l.map u8A := by
 induction l with
 | nil => rfl
 | cons x l ih => simp only [Row.cells, List.flatMap_cons, List.map_cons] at ih ⊢; rw [ih]; rfl
theorem JvY : ∀ x, ∀ a ∈ Xdk.f x, a.fl = true := fun x a h => by rw [List.mem_singleton.1 h]; rfl
structure Dsc where
 media : Int
 id : Dg
 size : Int
 plat : List UInt8
deriving DecidableEq
def KZN : Dsc := ⟨0, KXK, 0, []⟩
def deR : Row Dsc := ⟨fun x => .i .i64 x.media :: (idR.f x.id ++ [.i .i64 x.size, .s x.plat]), 35, fun x => by rw [List.length_cons, List.length_append, idR.len]; rfl, by decide, KZN, fun x y e => by
 obtain ⟨a, b, c, d⟩ := x
 obtain ⟨a', b', c', d'⟩ := y
 simp only [List.cons.injEq, AV.i.injEq, true_and] at e
 obtain ⟨rfl, e⟩ := e
 have h := List.append_inj e (by rw [idR.len, idR.len])
 have h1 := idR.inj _ _ h.1
 simp only [List.cons.injEq, AV.i.injEq, AV.s.injEq, true_and, and_true] at h
 rw [h1, h.2.1, h.2.2]⟩
theorem XmS (x : Dsc) : deR.f x = .i .i64 x.media :: (idR.f x.id ++ [.i .i64 x.size, .s x.plat]) := _root_.id rfl
theorem Qy0 : deR.sz = 35 := _root_.id rfl
theorem qAL : ∀ x, ∀ a ∈ deR.f x, a.fl = true := fun x a h => by
 rw [XmS] at h
 rcases List.mem_cons.1 h with q | q
 ·rw [q]; rfl
 ·rcases List.mem_append.1 q with q | q
  ·obtain ⟨b, _, rfl⟩ := List.mem_map.1 q
   rfl
  ·rcases List.mem_cons.1 q with q | q
   ·rw [q]; rfl
   ·rw [List.mem_singleton.1 q]; rfl
def Dsc.de (x : Dsc) : De := ⟨x.media, x.id.l, x.size, x.plat⟩
theorem Dsc.de_inj {x y : Dsc} (h : x.de = y.de) : x = y := by
 obtain ⟨a, b, c, d⟩ := x
 obtain ⟨a', b', c', d'⟩ := y
 simp only [Dsc.de, De.mk.injEq] at h
 obtain ⟨rfl, h, rfl, rfl⟩ := h
 rw [Dg.ext h]
def dsc (d : De) : Dsc := ⟨d.media, if h : d.id.length = 32 then ⟨d.id, h⟩ else KXK, d.size, d.plat⟩
theorem qxR (x : Dsc) : dsc x.de = x := by
 obtain ⟨a, b, c, d⟩ := x
 unfold dsc Dsc.de
 dsimp only
 rw [dif_pos b.h]
theorem K9B {d : De} (h : d.id.length = 32) : (dsc d).de = d := by
 unfold dsc Dsc.de
 dsimp only
 rw [dif_pos h]
theorem Znl (l : List Dsc) : (l.map Dsc.de).map dsc = l := by
 rw [List.map_map]
 exact (List.map_congr_left fun x _ => qxR x).trans (List.map_id _)
def JcG (k : Int) (t : List UInt8) (c : Dsc) (l s : List Dsc) : Man := ⟨k, t, c.de, l.map Dsc.de, s.map Dsc.de⟩
theorem ZEI {k : Int} {t : List UInt8} {c : Dsc} {l s : List Dsc} (hk : I64 k) (hc : I64 c.media ∧ I64 c.size) (hl : ∀ x ∈ l, I64 x.media ∧ I64 x.size) (hs : ∀ x ∈ s, I64 x.media ∧ I64 x.size) : ManOk (JcG k t c l s) := by
 have key : ∀ m : List Dsc, (∀ x ∈ m, I64 x.media ∧ I64 x.size) → KV9 (m.map Dsc.de) := fun m h d hd => by
  obtain ⟨x, hx, rfl⟩ := List.mem_map.1 hd
  exact ⟨(h x hx).1, x.id.h, (h x hx).2⟩
 exact ⟨hk, ⟨hc.1, c.id.h, hc.2⟩, key l hl, key s hs⟩
end Go.Proofs.Ytpoojfnmhnedpaa
end
section
namespace Go.Proofs.Ytpoojfnmhnedpaa
open Go.RowKit
section
variable {P : Program} {α : Type} {r : Row α}
theorem Bt.less {p : Nat} {fr : List AV} {h : List AB} {i : Nat} {B B' : AB} (hi : h[i]? = some B) (hbr : ∀ ρ w b o n, BR (KC P) ρ w b o n B → BR (KC P) ρ w b o n B') (hm : B'.mut = true → B.mut = true) (hl : B'.live = true → B.live = true) : Bt P p fr h fr (h.set i B') := by
 intro ρ w cs hp rr v
 have hlt := (List.getElem?_eq_some_iff.1 hi).1
 have cls : ∀ (j : Nat) C, (h.set i B')[j]? = some C → ∃ C0, h[j]? = some C0 ∧ (C.mut = true → C0.mut = true) ∧ (C.live = true → C0.live = true) ∧ ∀ ρ w b o n, BR (KC P) ρ w b o n C0 → BR (KC P) ρ w b o n C := fun j C hC => by
  rw [List.getElem?_set] at hC
  split at hC
  ·rename_i hij
   subst hij
   cases hC
   exact ⟨B, hi, hm, hl, hbr⟩
  ·exact ⟨C, hC, fun z => z, fun z => z, fun _ _ _ _ _ z => z⟩
 refine ⟨by rw [List.length_set]; exact hp, ρ, v, ⟨by rw [List.length_set]; exact rr.len, fun j C b o n h1 h2 => ?_, fun j k bj oj bk ok Bj Bk hne h1 h2 h3 h4 g1 g2 => ?_⟩, fun b ⟨j, C, o, h1, h2, h3⟩ => ?_, fun j b ⟨C, o, h1, h2, h3⟩ => ?_, fun _ _ => rfl⟩
 ·obtain ⟨C0, q1, _, _, q4⟩ := cls j C h1
  exact q4 _ _ _ _ _ (rr.blk j C0 b o n q1 h2)
 ·obtain ⟨C0, q1, q2, _, _⟩ := cls j Bj h1
  obtain ⟨C1, z1, _, z3, _⟩ := cls k Bk h2
  exact rr.sep j k bj oj bk ok C0 C1 hne q1 z1 h3 h4 (q2 g1) (z3 g2)
 ·obtain ⟨C0, q1, q2, _, _⟩ := cls j C h1
  exact ⟨j, C0, o, q1, q2 h2, h3⟩
 ·obtain ⟨C0, q1, _, q3, _⟩ := cls j C h1
  exact ⟨j, ⟨C0, o, q1, q3 h2, h3⟩, fun _ => rfl, fun z => z⟩
end
end Go.Proofs.Ytpoojfnmhnedpaa
end
