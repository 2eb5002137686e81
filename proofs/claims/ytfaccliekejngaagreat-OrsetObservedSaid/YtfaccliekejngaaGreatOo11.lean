/- Part 11 of what the laws' proofs rest on. No condition. -/
import Derived.Test.YtfaccliekejngaaGreatOo10
set_option linter.all false
section
namespace Go.Proofs.YtfaccliekejngaaGreat
open Go.RowKit
section
variable {T : Env} {fr : List AV} {h : List AB} {p : Nat}
theorem JBM (hp : h.length = p) (l : List AB) (k o : Nat) : ldV (h ++ l) none (.p (p + k) o) = (ownC l k).bind fun xs => xs[o]? := by subst hp; exact JQZ l k o
theorem QyA (hp : h.length = p) (l : List AB) (k o n : Nat) : ldV (h ++ l) (some n) (.p (p + k) o) = (ownC l k).bind fun xs => if o + n ≤ xs.length then some (.ag ((xs.drop o).take n)) else none := by subst hp; exact Jty l k o n
theorem JYt (hp : h.length = p) (l : List AB) (k o : Nat) (v : AV) : stV (h ++ l) none (.p (p + k) o) v = if v.one = true then (ownW l k o [v]).map (h ++ ·) else none := by subst hp; exact zW6 l k o v
theorem Q0J (hp : h.length = p) (l : List AB) (k o n : Nat) (vs : List AV) : stV (h ++ l) (some n) (.p (p + k) o) (.ag vs) = if vs.length = n then (ownW l k o vs).map (h ++ ·) else none := by subst hp; exact QWR l k o n vs
theorem qI0 (hp : h.length = p) (L : List AB) (k off n cap sz : Nat) (kk : Option Nat) : srcV (h ++ L) sz (.sl (p + k) off n cap kk) = if n = 0 then some (0, []) else (ownC L k).bind fun xs => if off + n * sz ≤ xs.length then some (n, (xs.drop off).take (n * sz)) else none := by subst hp; exact Xlq L k off n cap sz kk
theorem ZtI {α : Type} {r : Row α} (hp : h.length = p) {sz : Nat} (hz : r.sz = sz) (L : List AB) (k : Nat) (l : List α) (by_ m : Nat) (ys : List AV) (hb : ownM r l L k) (hm : m ≠ 0) (h1 : (l.length + m) * by_ ≤ 140737488355328) (h2 : l.length + m ≤ maxLen) :
  appW (h ++ L) true sz by_ (apS r (p + k) l) m ys = some (.sl (p + L.length) 0 (l.length + m) (l.length + m) (some sz), h ++ (Ycl L k ++ [.blk true true (r.cells l ++ ys)])) := by subst hp; exact J7h hz L k l by_ m ys hb hm h1 h2
theorem KDi {α : Type} {r : Row α} (hp : h.length = p) {sz : Nat} (hz : r.sz = sz) (L : List AB) (k : Nat) (l : List α) (by_ m : Nat) (ys : List AV) (h0 : l.length ≠ 0) (hb : ownM r l L k) (hm : m ≠ 0) (h1 : (l.length + m) * by_ ≤ 140737488355328) (h2 : l.length + m ≤ maxLen) :
  appW (h ++ L) true sz by_ (rsl r (p + k) l) m ys = some (.sl (p + L.length) 0 (l.length + m) (l.length + m) (some sz), h ++ (Ycl L k ++ [.blk true true (r.cells l ++ ys)])) := by rw [← J0z _ h0]; exact ZtI hp hz L k l by_ m ys hb hm h1 h2
theorem XGk {α : Type} {r : Row α} (hp : h.length = p) {sz : Nat} (hz : r.sz = sz) (L : List AB) (k : Nat) (l : List α) (n : Nat) (e : ownR r l L k) (hn : n < l.length) : ldV (h ++ L) (some sz) (elP sz (rsl r (p + k) l) n 0) = some (.ag (r.f (l.getD n r.d))) := by subst hp; exact JVv hz L k l n e hn
theorem Yas {α : Type} {r : Row α} (hp : h.length = p) (L : List AB) (k : Nat) (l : List α) (e : ownR r l L k) (hl : l.length ≤ maxLen) : getS r (h ++ L) (rsl r (p + k) l) = some l := by subst hp; exact YaF L k l e hl
theorem qtA (hp : h.length = p) (l : List AB) : (h ++ l).length = p + l.length := by rw [← hp]; exact List.length_append
theorem KWN : (h.map AB.freeze).length = h.length := List.length_map _
theorem YxA (hp : h.length = p) (l : List AB) (n : Nat) : (h ++ l).drop (p + n) = l.drop n := by subst hp; exact ZIs l n
theorem JQH (hp : h.length = p) (l : List AB) (n : Nat) : (h ++ l).getD (p + n) .dead = l.getD n .dead := by subst hp; exact zaA l n
theorem q0z (hp : h.length = p) (c anc n : Nat) (past : List Pt) (ws : List Nat) (l : List AB) (hn : n = p + l.length) (hw : (ws.all fun id => decide (p ≤ id)) = true) : QHx (seen (p + c) anc past n) ws 0 (h ++ l) = h.map AB.freeze ++ mskL p c anc past ws 0 l := by
 subst hp
 have h1 : ∀ j, j < h.length → j ∉ ws := fun j hj hm => by
  have := List.all_eq_true.1 hw j hm
  simp only [decide_eq_true_eq] at this
  omega
 refine List.ext_getElem? fun i => ?_
 rw [Zm6, Nat.zero_add]
 by_cases hi : i < h.length
 ·rw [List.getElem?_append_left hi, List.getElem?_append_left (by rw [List.length_map]; exact hi), List.getElem?_map, List.getElem?_eq_getElem hi, Option.map_some, Option.map_some, if_neg (h1 i hi), if_pos]
  exact List.mem_filter.2 ⟨List.mem_range.2 (by omega), X5H (by omega)⟩
 ·rw [List.getElem?_append_right (by omega), List.getElem?_append_right (by rw [List.length_map]; omega), List.length_map, Qh9]
  cases hB : l[i - h.length]? with
  | none => rfl
  | some B =>
   have hlt := (List.getElem?_eq_some_iff.1 hB).1
   simp only [Option.map_some, Option.some.injEq, show h.length + (0 + (i - h.length)) = i by omega]
   by_cases hm : i ∈ ws
   ·rw [if_pos hm, if_pos (qRi.2 hm)]
   ·rw [if_neg hm, if_neg (fun q => hm (qRi.1 q))]
    by_cases hq : qOk (h.length + c) 0 0 anc past i = true
    ·rw [if_pos hq, if_pos]
     exact List.mem_filter.2 ⟨List.mem_range.2 (by omega), hq⟩
    ·rw [if_neg hq, if_neg]
     exact fun q => hq (List.mem_filter.1 q).2
theorem qLg (ws : List Nat) (G l : List AB) (hw : (ws.all fun id => decide (h.length ≤ id)) = true) : Xxu ws (h.map AB.freeze ++ G) 0 (h ++ l) = h ++ mrgL h.length ws 0 G l := by
 have h1 : ∀ j, j < h.length → j ∉ ws := fun j hj hm => by
  have := List.all_eq_true.1 hw j hm
  simp only [decide_eq_true_eq] at this
  omega
 refine List.ext_getElem? fun i => ?_
 rw [Z7Q, Nat.zero_add]
 by_cases hi : i < h.length
 ·rw [if_pos (by rw [List.length_append]; omega), if_neg (h1 i hi), List.getElem?_append_left hi, List.getElem?_append_left hi]
 ·have g1 : (h.map AB.freeze ++ G)[i]? = G[i - h.length]? := by rw [List.getElem?_append_right (by rw [List.length_map]; omega), List.length_map]
  rw [g1, List.getElem?_append_right (by omega), List.getElem?_append_right (by omega), Zyq, List.length_append, show h.length + (0 + (i - h.length)) = i by omega]
  by_cases hl : i - h.length < l.length
  ·rw [if_pos hl, if_pos (by omega)]
  ·rw [if_neg hl, if_neg (by omega)]
theorem ZEn (hp : h.length = p) (hh : HOk h) (l : List AB) : HOk (h ++ l) = ((l.all fun B => B.ok (fun i => decide (i < p + l.length))) = true) := by subst hp; exact QNE hh l
def bx2 (h : List AB) (id : Nat) (v d : AV) : List AB := h.set id (.blk false true [v, d])
theorem quX (id : Nat) (v d : AV) : (bx2 h id v d).length = h.length := List.length_set
theorem JDe {id : Nat} (hid : id < h.length) (v d : AV) (x : List AB) : (bx2 h id v d ++ x)[id]? = some (.blk false true [v, d]) := by
 rw [List.getElem?_append_left (by rw [quX]; exact hid)]
 unfold bx2
 rw [List.getElem?_set_self hid]
theorem qvZ {id : Nat} {v d : AV} (hb : h[id]? = some (.blk false true [v, d])) : bx2 h id v d = h := by
 unfold bx2
 refine List.ext_getElem? fun i => ?_
 rw [List.getElem?_set]
 split
 ·rename_i e
  subst e
  first | rw [if_pos (List.getElem?_eq_some_iff.1 hb).1, hb] | rw [hb]
 ·rfl
theorem z1e {id : Nat} (hid : id < h.length) (hh : HOk h) {v d : AV} (hv : v.ok (fun i => decide (i < h.length)) = true) (hd : d.ok (fun i => decide (i < h.length)) = true) : HOk (bx2 h id v d) := by
 intro i B hB
 rw [quX]
 unfold bx2 at hB
 rw [List.getElem?_set] at hB
 split at hB
 ·rename_i e
  subst e
  first | rw [if_pos hid] at hB | skip
  cases hB
  simp [AB.ok, okL, hv, hd]
 ·exact hh i B hB
theorem zVe {id : Nat} (hid : id < h.length) : (∀ v d x, ldV (bx2 h id v d ++ x) none (.p id 0) = some v) ∧ (∀ v d x, ldV (bx2 h id v d ++ x) none (.p id 1) = some d) ∧ (∀ v d x, ldV (bx2 h id v d ++ x) (some 2) (.p id 0) = some (.ag [v, d])) ∧
  (∀ v d x w, stV (bx2 h id v d ++ x) none (.p id 0) w = if w.one = true then some (bx2 h id w d ++ x) else none) ∧ (∀ v d x w, stV (bx2 h id v d ++ x) none (.p id 1) w = if w.one = true then some (bx2 h id v w ++ x) else none) ∧
  (∀ c lo hi anc past, qOk (h.length + c) lo hi anc past id = true) ∧ (∀ c, (id < h.length + c) = True) ∧ (id < h.length) = True ∧ (∀ v d, (bx2 h id v d).length = h.length) ∧ (∀ c, (h.length + c = id) = False) ∧ (h.length ≤ id) = False := by
 have rd : ∀ v d x, XAh (bx2 h id v d ++ x) id = some [v, d] := fun v d x => by
  unfold XAh
  rw [JDe hid]
 have st : ∀ v d x (o : Nat) w (ho : o < 2), stV (bx2 h id v d ++ x) none (.p id o) w = if w.one = true then some ((h.set id (.blk false true (over [v, d] o [w]))) ++ x) else none := fun v d x o w ho => by
  simp only [stV, stB, JDe hid]
  have e1 : o + [w].length ≤ [v, d].length := by simp; omega
  by_cases hw : w.one = true
  ·have e2 : [w].all (wrOk false) = true := by simp [wrOk, hw]
   rw [if_pos hw, if_pos ⟨e1, e2⟩, if_pos hw]
   congr 1
   rw [List.set_append_left _ _ (by rw [quX]; exact hid)]
   unfold bx2
   rw [List.set_set]
  ·rw [if_neg hw, if_neg hw]
 refine ⟨fun v d x => ?_, fun v d x => ?_, fun v d x => ?_, fun v d x w => ?_, fun v d x w => ?_, fun c lo hi anc past => X5H (by omega), fun c => eq_true (by omega), eq_true hid, fun v d => quX id v d, fun c => eq_false (by omega), eq_false (by omega)⟩
 ·simp only [ldV, rd, Option.bind_some]; rfl
 ·simp only [ldV, rd, Option.bind_some]; rfl
 ·simp only [ldV, rd, Option.bind_some]; rfl
 ·rw [st v d x 0 w (by decide)]; rfl
 ·rw [st v d x 1 w (by decide)]; rfl
theorem Qy1 (hp : h.length = p) {id : Nat} (hid : id < h.length) (v d : AV) (c anc n : Nat) (past : List Pt) (l : List AB) (hn : n = p + l.length) : QHx (seen (p + c) anc past n) [id] 0 (bx2 h id v d ++ l) = bx2 (h.map AB.freeze) id v d ++ mskL p c anc past [id] 0 l := by
 subst hp
 refine List.ext_getElem? fun i => ?_
 rw [Zm6, Nat.zero_add]
 by_cases hi : i < h.length
 ·rw [List.getElem?_append_left (by rw [quX]; exact hi), List.getElem?_append_left (by rw [quX, List.length_map]; exact hi)]
  unfold bx2
  by_cases e : i = id
  ·subst e
   rw [List.getElem?_set_self hi, List.getElem?_set_self (by rw [List.length_map]; exact hi), Option.map_some, if_pos (List.mem_singleton.2 rfl)]
  ·rw [List.getElem?_set_ne (Ne.symm e), List.getElem?_set_ne (Ne.symm e), List.getElem?_map, List.getElem?_eq_getElem hi, Option.map_some, Option.map_some, if_neg (by simpa using e), if_pos]
   exact List.mem_filter.2 ⟨List.mem_range.2 (by omega), X5H (by omega)⟩
 ·have hne : i ≠ id := by omega
  have g1 : (bx2 h id v d ++ l)[i]? = l[i - h.length]? := by rw [List.getElem?_append_right (by rw [quX]; omega), quX]
  have g2 : (bx2 (h.map AB.freeze) id v d ++ mskL h.length c anc past [id] 0 l)[i]? = (mskL h.length c anc past [id] 0 l)[i - h.length]? := by rw [List.getElem?_append_right (by rw [quX, List.length_map]; omega), quX, List.length_map]
  rw [g1, g2, Qh9]
  cases hB : l[i - h.length]? with
  | none => rfl
  | some B =>
   have hlt := (List.getElem?_eq_some_iff.1 hB).1
   simp only [Option.map_some, Option.some.injEq, show h.length + (0 + (i - h.length)) = i by omega]
   rw [if_neg (by simpa using hne), if_neg (show ¬ memN i [id] = true by rw [qRi]; simpa using hne)]
   by_cases hq : qOk (h.length + c) 0 0 anc past i = true
   ·rw [if_pos hq, if_pos]
    exact List.mem_filter.2 ⟨List.mem_range.2 (by omega), hq⟩
   ·rw [if_neg hq, if_neg]
    exact fun q => hq (List.mem_filter.1 q).2
theorem JAm {id : Nat} (hid : id < h.length) (v d v' d' : AV) (G l : List AB) : Xxu [id] (bx2 (h.map AB.freeze) id v' d' ++ G) 0 (bx2 h id v d ++ l) = bx2 h id v' d' ++ mrgL h.length [id] 0 G l := by
 refine List.ext_getElem? fun i => ?_
 rw [Z7Q, Nat.zero_add]
 by_cases hi : i < h.length
 ·have g1 : (bx2 h id v d ++ l)[i]? = (bx2 h id v d)[i]? := List.getElem?_append_left (by rw [quX]; exact hi)
  have g2 : (bx2 (h.map AB.freeze) id v' d' ++ G)[i]? = (bx2 (h.map AB.freeze) id v' d')[i]? := List.getElem?_append_left (by rw [quX, List.length_map]; exact hi)
  have g3 : (bx2 h id v' d' ++ mrgL h.length [id] 0 G l)[i]? = (bx2 h id v' d')[i]? := List.getElem?_append_left (by rw [quX]; exact hi)
  rw [if_pos (by rw [List.length_append, quX]; omega), g1, g2, g3]
  unfold bx2
  by_cases e : i = id
  ·subst e
   rw [if_pos (List.mem_singleton.2 rfl), List.getElem?_set_self (by rw [List.length_map]; exact hi), List.getElem?_set_self hi]
   rfl
  ·rw [if_neg (by simpa using e), List.getElem?_set_ne (Ne.symm e), List.getElem?_set_ne (Ne.symm e)]
 ·have hne : i ≠ id := by omega
  have g1 : (bx2 h id v d ++ l)[i]? = l[i - h.length]? := by rw [List.getElem?_append_right (by rw [quX]; omega), quX]
  have g2 : (bx2 (h.map AB.freeze) id v' d' ++ G)[i]? = G[i - h.length]? := by rw [List.getElem?_append_right (by rw [quX, List.length_map]; omega), quX, List.length_map]
  have g3 : (bx2 h id v' d' ++ mrgL h.length [id] 0 G l)[i]? = (mrgL h.length [id] 0 G l)[i - h.length]? := by rw [List.getElem?_append_right (by rw [quX]; omega), quX]
  rw [g1, g2, g3, Zyq, List.length_append, quX]
  by_cases hl : i - h.length < l.length
  ·rw [if_pos hl, if_pos (by omega), if_neg (by simpa using hne), if_neg (show ¬ h.length + (0 + (i - h.length)) ∈ [id] by rw [List.mem_singleton]; omega)]
  ·rw [if_neg hl, if_neg (by omega)]
theorem zl8 {id : Nat} (hid : id < h.length) (v d : AV) (G : List AB) : (bx2 h id v d ++ G).getD id .dead = .blk false true [v, d] := by
 rw [List.getD_eq_getElem?_getD, JDe hid]
 rfl
theorem XEs (id : Nat) (v d : AV) (l : List AB) : (bx2 h id v d ++ l).length = h.length + l.length := by rw [List.length_append, quX]
theorem QVR (id : Nat) (v d : AV) (l : List AB) (n : Nat) : (bx2 h id v d ++ l).drop (h.length + n) = l.drop n := YxA (quX id v d) l n
theorem X24 {id : Nat} (hid : id < h.length) (hh : HOk h) (v d : AV) (x : List AB) : HOk (bx2 h id v d ++ x) = ((okL (fun i => decide (i < h.length + x.length)) [v, d] && x.all fun B => B.ok (fun i => decide (i < h.length + x.length))) = true) := by
 refine propext ⟨fun q => ?_, fun q i B hB => ?_⟩
 ·rw [Bool.and_eq_true]
  refine ⟨?_, List.all_eq_true.2 fun B hB => ?_⟩
  ·have := q id _ (JDe hid v d x)
   rw [XEs] at this
   exact this
  ·obtain ⟨j, hj⟩ := List.mem_iff_getElem?.1 hB
   have := q (h.length + j) B (by rw [List.getElem?_append_right (by rw [quX]; omega), quX, Nat.add_sub_cancel_left]; exact hj)
   rw [XEs] at this
   exact this
 ·rw [Bool.and_eq_true] at q
  rw [XEs]
  rw [List.getElem?_append] at hB
  split at hB
  ·unfold bx2 at hB
   rw [List.getElem?_set] at hB
   split at hB
   ·rename_i e
    subst e
    first | rw [if_pos hid] at hB | skip
    cases hB
    exact q.1
   ·exact AB.ok_mono (fun i hi => by simp only [decide_eq_true_eq] at hi ⊢; omega) B (hh i B hB)
  ·exact List.all_eq_true.1 q.2 B (List.mem_of_getElem? hB)
theorem Bt.selB {P : Program} {h l l' : List AB} {fr fr' : List AV} {id : Nat} {V D V' D' : AV} (hid : id < h.length) (sel : List Nat) (hh : HOk h) (hbx : BWk (fun i => decide (i < h.length + sel.length)) (selN h.length sel) (.blk false true [V', D']) (.blk false true [V, D])) (hnd : sel.Nodup) (hb : BlkSel h.length sel sel.length l sel l') (hfr : FrSel h.length sel sel.length fr fr') : Bt P h.length fr (bx2 h id V D ++ l) fr' (bx2 h id V' D' ++ l') := by
 intro ρ w cs hp r v
 obtain ⟨b1, b2⟩ := hb.get
 obtain ⟨f1, f2⟩ := hfr.get
 have hlt : ∀ (i k : Nat), sel[i]? = some k → k < l.length := fun i k hk => by
  have hi : i < l'.length := by rw [b1]; exact (List.getElem?_eq_some_iff.1 hk).1
  obtain ⟨k', B, q1, q2, _⟩ := b2 i l'[i] (List.getElem?_eq_getElem hi)
  rw [hk] at q1
  cases q1
  exact (List.getElem?_eq_some_iff.1 q2).1
 have hρ := r.len
 rw [List.length_append, quX] at hρ
 let ρ' : Mp := ρ.take h.length ++ sel.map fun k => ρ.getD (h.length + k) (0, 0, 0)
 have old : ∀ i, i < h.length → ρ'[i]? = ρ[i]? := fun i hi => by
  simp only [ρ']
  rw [List.getElem?_append_left (by rw [List.length_take]; omega), List.getElem?_take, if_pos hi]
 have new : ∀ i k, sel[i]? = some k → ρ'[h.length + i]? = ρ[h.length + k]? := fun i k hk => by
  have := hlt i k hk
  simp only [ρ']
  rw [List.getElem?_append_right (by rw [List.length_take]; omega), List.length_take, show h.length + i - min h.length ρ.length = i by omega, List.getElem?_map, hk, Option.map_some, List.getD_eq_getElem?_getD, List.getElem?_eq_getElem (by omega : h.length + k < ρ.length)]
  rfl
 have hq : ∀ i, (fun i => decide (i < h.length + sel.length)) i = true → ρ'[i]? = ρ[selN h.length sel i]? := fun i hi => by
  by_cases h1 : i < h.length
  ·rw [Xdk h1, old i h1]
  ·obtain ⟨k, rfl⟩ : ∃ k, i = h.length + k := ⟨i - h.length, by omega⟩
   have hk : k < sel.length := by simp only [decide_eq_true_eq] at hi; omega
   rw [Qo0, List.getD_eq_getElem?_getD, List.getElem?_eq_getElem hk]
   exact new k _ (List.getElem?_eq_getElem hk)
 have gl : ∀ (V D : AV) (l : List AB) (i : Nat), i < h.length → (bx2 h id V D ++ l)[i]? = if i = id then some (.blk false true [V, D]) else h[i]? := fun V D l i hi => by
  rw [List.getElem?_append_left (by rw [quX]; exact hi)]
  unfold bx2
  split
  ·rename_i e; subst e; rw [List.getElem?_set_self hi]
  ·rename_i e; rw [List.getElem?_set_ne (Ne.symm e)]
 have gr : ∀ (V D : AV) (l : List AB) (i : Nat), (bx2 h id V D ++ l)[h.length + i]? = l[i]? := fun V D l i => by
  rw [List.getElem?_append_right (by rw [quX]; omega), quX, Nat.add_sub_cancel_left]
 have cls : ∀ (i : Nat) B', (bx2 h id V' D' ++ l')[i]? = some B' → (i < h.length ∧ i ≠ id ∧ h[i]? = some B' ∧ (bx2 h id V D ++ l)[i]? = some B') ∨ (∃ j B, ((i = id ∧ j = id) ∨ ∃ i' k, i = h.length + i' ∧ sel[i']? = some k ∧ j = h.length + k) ∧ (bx2 h id V D ++ l)[j]? = some B ∧ ρ'[i]? = ρ[j]? ∧ BWk (fun i => decide (i < h.length + sel.length)) (selN h.length sel) B' B) := fun i B' hB => by
  by_cases hi : i < h.length
  ·by_cases e : i = id
   ·subst e
    rw [gl _ _ _ _ hi, if_pos rfl] at hB
    cases hB
    exact .inr ⟨i, .blk false true [V, D], .inl ⟨rfl, rfl⟩, by rw [gl _ _ _ _ hi, if_pos rfl], old i hi, hbx⟩
   ·rw [gl _ _ _ _ hi, if_neg e] at hB
    exact .inl ⟨hi, e, hB, by rw [gl _ _ _ _ hi, if_neg e]; exact hB⟩
  ·obtain ⟨i', rfl⟩ : ∃ k, i = h.length + k := ⟨i - h.length, by omega⟩
   rw [gr] at hB
   obtain ⟨k, B, q1, q2, q3⟩ := b2 _ B' hB
   exact .inr ⟨h.length + k, B, .inr ⟨i', k, rfl, q1, rfl⟩, by rw [gr]; exact q2, new i' k q1, q3⟩
 have up : ∀ (i : Nat) B' x, (bx2 h id V' D' ++ l')[i]? = some B' → ρ'[i]? = some x → ∃ j B, (bx2 h id V D ++ l)[j]? = some B ∧ ρ[j]? = some x ∧ (B'.mut = true → B.mut = true) ∧ (B'.live = true → B.live = true) ∧ ((i < h.length ∧ j = i) ∨ (∃ i' k, i = h.length + i' ∧ sel[i']? = some k ∧ j = h.length + k)) := fun i B' x hB hx => by
  rcases cls i B' hB with ⟨hi, e, q, q'⟩ | ⟨j, B, q0, q2, q4, q3⟩
  ·exact ⟨i, B', q', by rw [← old i hi]; exact hx, _root_.id, _root_.id, .inl ⟨hi, rfl⟩⟩
  ·refine ⟨j, B, q2, by rw [← q4]; exact hx, q3.mut, q3.live, ?_⟩
   rcases q0 with ⟨e1, e2⟩ | ⟨i', k, e1, e2, e3⟩
   ·exact .inl ⟨by omega, by omega⟩
   ·exact .inr ⟨i', k, e1, e2, e3⟩
 refine ⟨by rw [List.length_append, quX]; omega, ρ', ⟨f1.trans v.1, fun j a' c ha hc => ?_⟩, ⟨?_, fun i B' b o n hB hx => ?_, fun i j bi oi bj oj Bi Bj hne h1 h2 h3 h4 hm hl => ?_⟩, fun b ⟨i, B', o, h1, h2, h3⟩ => ?_, fun i b ⟨B', o, h1, h2, h3⟩ => ?_, fun i hi => ?_⟩
 ·rcases f2 j a' ha with rfl | ⟨q1, a, q2, q3⟩
  ·exact .top c
  ·exact VR.ren_down hq a' q1 c (q3 ρ c (v.2 j a c q2 hc))
 ·simp only [ρ', List.length_append, List.length_take, List.length_map, b1, quX]
  omega
 ·rcases cls i B' hB with ⟨hi, e, q, q'⟩ | ⟨j, B, q0, q2, q4, q3⟩
  ·have := r.blk i B' b o n q' (by rw [← old i hi]; exact hx)
   exact this.agree (q := fun i => decide (i < h.length)) (fun i hi => old i (by simpa using hi)) (hh i B' q) (fun _ => rfl)
  ·exact q3.br hq (r.blk j B b o n q2 (by rw [← q4]; exact hx))
 ·obtain ⟨i', Ci, u1, u2, u3, _, u5⟩ := up i Bi _ h1 h3
  obtain ⟨j', Cj, z1, z2, _, z4, z5⟩ := up j Bj _ h2 h4
  refine r.sep i' j' bi oi bj oj Ci Cj (fun e => hne ?_) u1 z1 u2 z2 (u3 hm) (z4 hl)
  subst e
  rcases u5 with ⟨x1, x2⟩ | ⟨s, k, x1, x2, x3⟩ <;> rcases z5 with ⟨y1, y2⟩ | ⟨t, m, y1, y2, y3⟩
  ·omega
  ·omega
  ·omega
  ·have : k = m := by omega
   subst this
   have := (List.getElem?_inj (List.getElem?_eq_some_iff.1 x2).1 hnd).1 (x2.trans y2.symm)
   omega
 ·obtain ⟨j, B, q1, q2, q3, _, _⟩ := up i B' _ h1 h3
  exact ⟨j, B, o, q1, q3 h2, q2⟩
 ·obtain ⟨j, B, q1, q2, _, q4, q5⟩ := up i B' _ h1 h3
  refine ⟨j, ⟨B, o, q1, q4 h2, q2⟩, fun hi => ?_, fun hi => ?_⟩
  ·rcases q5 with ⟨_, x⟩ | ⟨s, k, x, y, z⟩
   ·exact x
   ·omega
  ·rcases q5 with ⟨x, _⟩ | ⟨s, k, z, y, x⟩
   ·omega
   ·omega
 ·exact old i hi
theorem Rd.bx2 {α : Type} {r : Row α} {s : AV} {l : List α} (e : Rd r h s l) {id : Nat} {v0 d0 : AV} (hb : h[id]? = some (.blk false true [v0, d0])) (hv : v0.isSl = true) (hd : d0.isSl = true) (hr : ∀ x : α, ∀ c ∈ r.f x, c.isSl = false) (v d : AV) : Rd r (bx2 h id v d) s l := by
 refine ⟨?_, e.2⟩
 by_cases h0 : l.length = 0
 ·have h1 := e.1
  have hl := K5k h1
  have h2 : l = [] := List.length_eq_zero_iff.1 h0
  subst h2
  cases s with
  | sl id' off len cap k =>
   simp only [lenV, List.length_nil, Option.some.injEq] at hl
   have : len = 0 := by simpa using hl
   subst this
   rfl
  | ns => rfl
  | se => rfl
  | _ => cases h1
 ·obtain ⟨id', off, cap, k, xs, rfl, h1, h2, h3⟩ := e.blk 0 (by omega)
  have hne : id' ≠ id := by
   rintro rfl
   unfold XAh at h1
   rw [hb] at h1
   cases h1
   have hp := r.pos
   have hlt : 0 < l.length * r.sz := Nat.mul_pos (by omega) hp
   simp only [List.length_cons, List.length_nil] at h2
   have g := r.cells_get l 0 0 (by omega) hp
   rw [← h3, Nat.zero_mul, Nat.zero_add, List.getElem?_take, if_pos hlt, List.getElem?_drop, Nat.add_zero] at g
   obtain ⟨c, hc⟩ : ∃ c, [v0, d0][off]? = some c := ⟨_, List.getElem?_eq_getElem (by simp; omega)⟩
   rw [hc] at g
   have hm : c ∈ r.f (l.getD 0 r.d) := List.mem_of_getElem? g.symm
   have hf := hr _ c hm
   have : c.isSl = true := by
    rcases List.mem_cons.1 (List.mem_of_getElem? hc) with rfl | hc'
    ·exact hv
    ·rcases List.mem_cons.1 hc' with rfl | hc''
     ·exact hd
     ·simp at hc''
   rw [this] at hf
   cases hf
  have hr' : XAh (h.set id (.blk false true [v, d])) id' = XAh h id' := by
   unfold XAh
   rw [List.getElem?_set_ne (Ne.symm hne)]
  have h4 := e.1
  simp only [rdS, Go.Proofs.YtfaccliekejngaaGreat.bx2, hr'] at h4 ⊢
  exact h4
theorem ZhR (x : Int) : ∀ c ∈ intR.f x, c.isSl = false := by
 intro c hc
 simp only [JEE, List.mem_singleton] at hc
 subst hc
 rfl
theorem Zfh (x : Int × Int) : ∀ c ∈ dotR.f x, c.isSl = false := by
 intro c hc
 simp only [KdD, List.mem_cons, List.not_mem_nil, or_false] at hc
 rcases hc with rfl | rfl <;> rfl
theorem Rd.fxB {α : Type} {r : Row α} {b : List AB} {s : AV} {l : List α} (e : Rd r b s l) {sz : Nat} (hz : r.sz = sz) : (∀ x n j, n < l.length → j < sz → ldV (b ++ x) none (elP sz s n j) = (r.f (l.getD n r.d))[j]?) ∧ (∀ x n, n < l.length → ldV (b ++ x) (some sz) (elP sz s n 0) = some (.ag (r.f (l.getD n r.d)))) ∧ (∀ x, getS r (b ++ x) s = some l) ∧ (∀ x, getS r (b.map AB.freeze ++ x) s = some l) := by
 subst hz
 exact ⟨fun x n j h1 h2 => (e.app x).ld n j h1 h2, fun x n h1 => (e.app x).lda n h1, fun x => (e.app x).get, fun x => (e.frz.app x).get⟩
end
end Go.Proofs.YtfaccliekejngaaGreat
end
section
namespace Go.Proofs.YtfaccliekejngaaGreat
def Y9j := (And.intro (And.intro (And.intro @JBM @QyA) (And.intro @JYt (And.intro @Q0J @qI0))) (And.intro (And.intro @Yas (And.intro @qtA @KWN)) (And.intro @YxA (And.intro @JQH @qLg))))
end Go.Proofs.YtfaccliekejngaaGreat
end
