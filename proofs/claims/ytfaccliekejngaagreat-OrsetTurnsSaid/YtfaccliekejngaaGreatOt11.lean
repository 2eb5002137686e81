/- Part 11 of what the laws' proofs rest on. No condition. -/
import Derived.Test.YtfaccliekejngaaGreatOt10
set_option linter.all false
section
namespace Go.Proofs.YtfaccliekejngaaGreat
open Go.RowKit
section
variable {T : Env} {fr : List AV} {h : List AB} {p : Nat}
theorem JBM (hp : h.length = p) (l : List AB) (k o : Nat) : ldV (h ++ l) none (.p (p + k) o) = (ownC l k).bind fun xs => xs[o]? := by subst hp; exact JQZ l k o
theorem QyA (hp : h.length = p) (l : List AB) (k o n : Nat) : ldV (h ++ l) (some n) (.p (p + k) o) = (ownC l k).bind fun xs => if o + n ≤ xs.length then some (.ag ((xs.drop o).take n)) else none := by subst hp; exact Jty l k o n
theorem JYt (hp : h.length = p) (l : List AB) (k o : Nat) (v : AV) : stV (h ++ l) none (.p (p + k) o) v = if v.one = true then (ownW l k o [v]).map (h ++ ·) else none := by subst hp; exact zW6 l k o v
theorem Q0J (hp : h.length = p) (l : List AB) (k o n : Nat) (vs : List AV) : stV (h ++ l) (some n) (.p (p + k) o) (.ag vs) = if vs.length = n then (ownW l k o vs).map (h ++ ·) else none := by subst hp; exact QWR l k o n vs
theorem qI0 (hp : h.length = p) (L : List AB) (k off n cap sz : Nat) (kk : Option Nat) : srcV (h ++ L) sz (.sl (p + k) off n cap kk) = if n = 0 then some (0, []) else (ownC L k).bind fun xs => if off + n * sz ≤ xs.length then some (n, (xs.drop off).take (n * sz)) else none := by subst hp; exact Xlq L k off n cap sz kk
theorem ZtI {α : Type} {r : Row α} (hp : h.length = p) {sz : Nat} (hz : r.sz = sz) (L : List AB) (k : Nat) (l : List α) (by_ m : Nat) (ys : List AV) (hb : ownM r l L k) (hm : m ≠ 0) (h1 : (l.length + m) * by_ ≤ 140737488355328) (h2 : l.length + m ≤ maxLen) :
  appW (h ++ L) true sz by_ (apS r (p + k) l) m ys = some (.sl (p + L.length) 0 (l.length + m) (l.length + m) (some sz), h ++ (Ycl L k ++ [.blk true true (r.cells l ++ ys)])) := by subst hp; exact J7h hz L k l by_ m ys hb hm h1 h2
theorem KDi {α : Type} {r : Row α} (hp : h.length = p) {sz : Nat} (hz : r.sz = sz) (L : List AB) (k : Nat) (l : List α) (by_ m : Nat) (ys : List AV) (h0 : l.length ≠ 0) (hb : ownM r l L k) (hm : m ≠ 0) (h1 : (l.length + m) * by_ ≤ 140737488355328) (h2 : l.length + m ≤ maxLen) :
  appW (h ++ L) true sz by_ (rsl r (p + k) l) m ys = some (.sl (p + L.length) 0 (l.length + m) (l.length + m) (some sz), h ++ (Ycl L k ++ [.blk true true (r.cells l ++ ys)])) := by rw [← J0z _ h0]; exact ZtI hp hz L k l by_ m ys hb hm h1 h2
theorem XGk {α : Type} {r : Row α} (hp : h.length = p) {sz : Nat} (hz : r.sz = sz) (L : List AB) (k : Nat) (l : List α) (n : Nat) (e : ownR r l L k) (hn : n < l.length) : ldV (h ++ L) (some sz) (elP sz (rsl r (p + k) l) n 0) = some (.ag (r.f (l.getD n r.d))) := by subst hp; exact JVv hz L k l n e hn
theorem Yas {α : Type} {r : Row α} (hp : h.length = p) (L : List AB) (k : Nat) (l : List α) (e : ownR r l L k) (hl : l.length ≤ maxLen) : getS r (h ++ L) (rsl r (p + k) l) = some l := by subst hp; exact YaF L k l e hl
theorem qtA (hp : h.length = p) (l : List AB) : (h ++ l).length = p + l.length := by rw [← hp]; exact List.length_append
theorem KWN : (h.map AB.freeze).length = h.length := List.length_map _
theorem YxA (hp : h.length = p) (l : List AB) (n : Nat) : (h ++ l).drop (p + n) = l.drop n := by subst hp; exact ZIs l n
theorem JQH (hp : h.length = p) (l : List AB) (n : Nat) : (h ++ l).getD (p + n) .dead = l.getD n .dead := by subst hp; exact zaA l n
theorem q0z (hp : h.length = p) (c anc n : Nat) (past : List Pt) (ws : List Nat) (l : List AB) (hn : n = p + l.length) (hw : (ws.all fun id => decide (p ≤ id)) = true) : QHx (seen (p + c) anc past n) ws 0 (h ++ l) = h.map AB.freeze ++ mskL p c anc past ws 0 l := by
 subst hp
 have h1 : ∀ j, j < h.length → j ∉ ws := fun j hj hm => by
  have := List.all_eq_true.1 hw j hm
  simp only [decide_eq_true_eq] at this
  omega
 refine List.ext_getElem? fun i => ?_
 rw [Zm6, Nat.zero_add]
 by_cases hi : i < h.length
 ·rw [List.getElem?_append_left hi, List.getElem?_append_left (by rw [List.length_map]; exact hi), List.getElem?_map, List.getElem?_eq_getElem hi, Option.map_some, Option.map_some, if_neg (h1 i hi), if_pos]
  exact List.mem_filter.2 ⟨List.mem_range.2 (by omega), X5H (by omega)⟩
 ·rw [List.getElem?_append_right (by omega), List.getElem?_append_right (by rw [List.length_map]; omega), List.length_map, Qh9]
  cases hB : l[i - h.length]? with
  | none => rfl
  | some B =>
   have hlt := (List.getElem?_eq_some_iff.1 hB).1
   simp only [Option.map_some, Option.some.injEq, show h.length + (0 + (i - h.length)) = i by omega]
   by_cases hm : i ∈ ws
   ·rw [if_pos hm, if_pos (qRi.2 hm)]
   ·rw [if_neg hm, if_neg (fun q => hm (qRi.1 q))]
    by_cases hq : qOk (h.length + c) 0 0 anc past i = true
    ·rw [if_pos hq, if_pos]
     exact List.mem_filter.2 ⟨List.mem_range.2 (by omega), hq⟩
    ·rw [if_neg hq, if_neg]
     exact fun q => hq (List.mem_filter.1 q).2
theorem qLg (ws : List Nat) (G l : List AB) (hw : (ws.all fun id => decide (h.length ≤ id)) = true) : Xxu ws (h.map AB.freeze ++ G) 0 (h ++ l) = h ++ mrgL h.length ws 0 G l := by
 have h1 : ∀ j, j < h.length → j ∉ ws := fun j hj hm => by
  have := List.all_eq_true.1 hw j hm
  simp only [decide_eq_true_eq] at this
  omega
 refine List.ext_getElem? fun i => ?_
 rw [Z7Q, Nat.zero_add]
 by_cases hi : i < h.length
 ·rw [if_pos (by rw [List.length_append]; omega), if_neg (h1 i hi), List.getElem?_append_left hi, List.getElem?_append_left hi]
 ·have g1 : (h.map AB.freeze ++ G)[i]? = G[i - h.length]? := by rw [List.getElem?_append_right (by rw [List.length_map]; omega), List.length_map]
  rw [g1, List.getElem?_append_right (by omega), List.getElem?_append_right (by omega), Zyq, List.length_append, show h.length + (0 + (i - h.length)) = i by omega]
  by_cases hl : i - h.length < l.length
  ·rw [if_pos hl, if_pos (by omega)]
  ·rw [if_neg hl, if_neg (by omega)]
theorem ZEn (hp : h.length = p) (hh : HOk h) (l : List AB) : HOk (h ++ l) = ((l.all fun B => B.ok (fun i => decide (i < p + l.length))) = true) := by subst hp; exact QNE hh l
def bx2 (h : List AB) (id : Nat) (v d : AV) : List AB := h.set id (.blk false true [v, d])
theorem quX (id : Nat) (v d : AV) : (bx2 h id v d).length = h.length := List.length_set
theorem JDe {id : Nat} (hid : id < h.length) (v d : AV) (x : List AB) : (bx2 h id v d ++ x)[id]? = some (.blk false true [v, d]) := by
 rw [List.getElem?_append_left (by rw [quX]; exact hid)]
 unfold bx2
 rw [List.getElem?_set_self hid]
theorem qvZ {id : Nat} {v d : AV} (hb : h[id]? = some (.blk false true [v, d])) : bx2 h id v d = h := by
 unfold bx2
 refine List.ext_getElem? fun i => ?_
 rw [List.getElem?_set]
 split
 ·rename_i e
  subst e
  first | rw [if_pos (List.getElem?_eq_some_iff.1 hb).1, hb] | rw [hb]
 ·rfl
theorem z1e {id : Nat} (hid : id < h.length) (hh : HOk h) {v d : AV} (hv : v.ok (fun i => decide (i < h.length)) = true) (hd : d.ok (fun i => decide (i < h.length)) = true) : HOk (bx2 h id v d) := by
 intro i B hB
 rw [quX]
 unfold bx2 at hB
 rw [List.getElem?_set] at hB
 split at hB
 ·rename_i e
  subst e
  first | rw [if_pos hid] at hB | skip
  cases hB
  simp [AB.ok, okL, hv, hd]
 ·exact hh i B hB
theorem zVe {id : Nat} (hid : id < h.length) : (∀ v d x, ldV (bx2 h id v d ++ x) none (.p id 0) = some v) ∧ (∀ v d x, ldV (bx2 h id v d ++ x) none (.p id 1) = some d) ∧ (∀ v d x, ldV (bx2 h id v d ++ x) (some 2) (.p id 0) = some (.ag [v, d])) ∧
  (∀ v d x w, stV (bx2 h id v d ++ x) none (.p id 0) w = if w.one = true then some (bx2 h id w d ++ x) else none) ∧ (∀ v d x w, stV (bx2 h id v d ++ x) none (.p id 1) w = if w.one = true then some (bx2 h id v w ++ x) else none) ∧
  (∀ c lo hi anc past, qOk (h.length + c) lo hi anc past id = true) ∧ (∀ c, (id < h.length + c) = True) ∧ (id < h.length) = True ∧ (∀ v d, (bx2 h id v d).length = h.length) ∧ (∀ c, (h.length + c = id) = False) ∧ (h.length ≤ id) = False := by
 have rd : ∀ v d x, XAh (bx2 h id v d ++ x) id = some [v, d] := fun v d x => by
  unfold XAh
  rw [JDe hid]
 have st : ∀ v d x (o : Nat) w (ho : o < 2), stV (bx2 h id v d ++ x) none (.p id o) w = if w.one = true then some ((h.set id (.blk false true (over [v, d] o [w]))) ++ x) else none := fun v d x o w ho => by
  simp only [stV, stB, JDe hid]
  have e1 : o + [w].length ≤ [v, d].length := by simp; omega
  by_cases hw : w.one = true
  ·have e2 : [w].all (wrOk false) = true := by simp [wrOk, hw]
   rw [if_pos hw, if_pos ⟨e1, e2⟩, if_pos hw]
   congr 1
   rw [List.set_append_left _ _ (by rw [quX]; exact hid)]
   unfold bx2
   rw [List.set_set]
  ·rw [if_neg hw, if_neg hw]
 refine ⟨fun v d x => ?_, fun v d x => ?_, fun v d x => ?_, fun v d x w => ?_, fun v d x w => ?_, fun c lo hi anc past => X5H (by omega), fun c => eq_true (by omega), eq_true hid, fun v d => quX id v d, fun c => eq_false (by omega), eq_false (by omega)⟩
 ·simp only [ldV, rd, Option.bind_some]; rfl
 ·simp only [ldV, rd, Option.bind_some]; rfl
 ·simp only [ldV, rd, Option.bind_some]; rfl
 ·rw [st v d x 0 w (by decide)]; rfl
 ·rw [st v d x 1 w (by decide)]; rfl
theorem Qy1 (hp : h.length = p) {id : Nat} (hid : id < h.length) (v d : AV) (c anc n : Nat) (past : List Pt) (l : List AB) (hn : n = p + l.length) : QHx (seen (p + c) anc past n) [id] 0 (bx2 h id v d ++ l) = bx2 (h.map AB.freeze) id v d ++ mskL p c anc past [id] 0 l := by
 subst hp
 refine List.ext_getElem? fun i => ?_
 rw [Zm6, Nat.zero_add]
 by_cases hi : i < h.length
 ·rw [List.getElem?_append_left (by rw [quX]; exact hi), List.getElem?_append_left (by rw [quX, List.length_map]; exact hi)]
  unfold bx2
  by_cases e : i = id
  ·subst e
   rw [List.getElem?_set_self hi, List.getElem?_set_self (by rw [List.length_map]; exact hi), Option.map_some, if_pos (List.mem_singleton.2 rfl)]
  ·rw [List.getElem?_set_ne (Ne.symm e), List.getElem?_set_ne (Ne.symm e), List.getElem?_map, List.getElem?_eq_getElem hi, Option.map_some, Option.map_some, if_neg (by simpa using e), if_pos]
   exact List.mem_filter.2 ⟨List.mem_range.2 (by omega), X5H (by omega)⟩
 ·have hne : i ≠ id := by omega
  have g1 : (bx2 h id v d ++ l)[i]? = l[i - h.length]? := by rw [List.getElem?_append_right (by rw [quX]; omega), quX]
  have g2 : (bx2 (h.map AB.freeze) id v d ++ mskL h.length c anc past [id] 0 l)[i]? = (mskL h.length c anc past [id] 0 l)[i - h.length]? := by rw [List.getElem?_append_right (by rw [quX, List.length_map]; omega), quX, List.length_map]
  rw [g1, g2, Qh9]
  cases hB : l[i - h.length]? with
  | none => rfl
  | some B =>
   have hlt := (List.getElem?_eq_some_iff.1 hB).1
   simp only [Option.map_some, Option.some.injEq, show h.length + (0 + (i - h.length)) = i by omega]
   rw [if_neg (by simpa using hne), if_neg (show ¬ memN i [id] = true by rw [qRi]; simpa using hne)]
   by_cases hq : qOk (h.length + c) 0 0 anc past i = true
   ·rw [if_pos hq, if_pos]
    exact List.mem_filter.2 ⟨List.mem_range.2 (by omega), hq⟩
   ·rw [if_neg hq, if_neg]
    exact fun q => hq (List.mem_filter.1 q).2
theorem JAm {id : Nat} (hid : id < h.length) (v d v' d' : AV) (G l : List AB) : Xxu [id] (bx2 (h.map AB.freeze) id v' d' ++ G) 0 (bx2 h id v d ++ l) = bx2 h id v' d' ++ mrgL h.length [id] 0 G l := by
 refine List.ext_getElem? fun i => ?_
 rw [Z7Q, Nat.zero_add]
 by_cases hi : i < h.length
 ·have g1 : (bx2 h id v d ++ l)[i]? = (bx2 h id v d)[i]? := List.getElem?_append_left (by rw [quX]; exact hi)
  have g2 : (bx2 (h.map AB.freeze) id v' d' ++ G)[i]? = (bx2 (h.map AB.freeze) id v' d')[i]? := List.getElem?_append_left (by rw [quX, List.length_map]; exact hi)
  have g3 : (bx2 h id v' d' ++ mrgL h.length [id] 0 G l)[i]? = (bx2 h id v' d')[i]? := List.getElem?_append_left (by rw [quX]; exact hi)
  rw [if_pos (by rw [List.length_append, quX]; omega), g1, g2, g3]
  unfold bx2
  by_cases e : i = id
  ·subst e
   rw [if_pos (List.mem_singleton.2 rfl), List.getElem?_set_self (by rw [List.length_map]; exact hi), List.getElem?_set_self hi]
   rfl
  ·rw [if_neg (by simpa using e), List.getElem?_set_ne (Ne.symm e), List.getElem?_set_ne (Ne.symm e)]
 ·have hne : i ≠ id := by omega
  have g1 : (bx2 h id v d ++ l)[i]? = l[i - h.length]? := by rw [List.getElem?_append_right (by rw [quX]; omega), quX]
  have g2 : (bx2 (h.map AB.freeze) id v' d' ++ G)[i]? = G[i - h.length]? := by rw [List.getElem?_append_right (by rw [quX, List.length_map]; omega), quX, List.length_map]
  have g3 : (bx2 h id v' d' ++ mrgL h.length [id] 0 G l)[i]? = (mrgL h.length [id] 0 G l)[i - h.length]? := by rw [List.getElem?_append_right (by rw [quX]; omega), quX]
  rw [g1, g2, g3, Zyq, List.length_append, quX]
  by_cases hl : i - h.length < l.length
  ·rw [if_pos hl, if_pos (by omega), if_neg (by simpa using hne), if_neg (show ¬ h.length + (0 + (i - h.length)) ∈ [id] by rw [List.mem_singleton]; omega)]
  ·rw [if_neg hl, if_neg (by omega)]
theorem zl8 {id : Nat} (hid : id < h.length) (v d : AV) (G : List AB) : (bx2 h id v d ++ G).getD id .dead = .blk false true [v, d] := by
 rw [List.getD_eq_getElem?_getD, JDe hid]
 rfl
theorem XEs (id : Nat) (v d : AV) (l : List AB) : (bx2 h id v d ++ l).length = h.length + l.length := by rw [List.length_append, quX]
theorem QVR (id : Nat) (v d : AV) (l : List AB) (n : Nat) : (bx2 h id v d ++ l).drop (h.length + n) = l.drop n := YxA (quX id v d) l n
theorem X24 {id : Nat} (hid : id < h.length) (hh : HOk h) (v d : AV) (x : List AB) : HOk (bx2 h id v d ++ x) = ((okL (fun i => decide (i < h.length + x.length)) [v, d] && x.all fun B => B.ok (fun i => decide (i < h.length + x.length))) = true) := by
 refine propext ⟨fun q => ?_, fun q i B hB => ?_⟩
 ·rw [Bool.and_eq_true]
  refine ⟨?_, List.all_eq_true.2 fun B hB => ?_⟩
  ·have := q id _ (JDe hid v d x)
   rw [XEs] at this
   exact this
  ·obtain ⟨j, hj⟩ := List.mem_iff_getElem?.1 hB
   have := q (h.length + j) B (by rw [List.getElem?_append_right (by rw [quX]; omega), quX, Nat.add_sub_cancel_left]; exact hj)
   rw [XEs] at this
   exact this
 ·rw [Bool.and_eq_true] at q
  rw [XEs]
  rw [List.getElem?_append] at hB
  split at hB
  ·unfold bx2 at hB
   rw [List.getElem?_set] at hB
   split at hB
   ·rename_i e
    subst e
    first | rw [if_pos hid] at hB | skip
    cases hB
    exact q.1
   ·exact AB.ok_mono (fun i hi => by simp only [decide_eq_true_eq] at hi ⊢; omega) B (hh i B hB)
  ·exact List.all_eq_true.1 q.2 B (List.mem_of_getElem? hB)
theorem Bt.selB {P : Program} {h l l' : List AB} {fr fr' : List AV} {id : Nat} {V D V' D' : AV} (hid : id < h.length) (sel : List Nat) (hh : HOk h) (hbx : BWk (fun i => decide (i < h.length + sel.length)) (selN h.length sel) (.blk false true [V', D']) (.blk false true [V, D])) (hnd : sel.Nodup) (hb : BlkSel h.length sel sel.length l sel l') (hfr : FrSel h.length sel sel.length fr fr') : Bt P h.length fr (bx2 h id V D ++ l) fr' (bx2 h id V' D' ++ l') := by
 intro ρ w cs hp r v
 obtain ⟨b1, b2⟩ := hb.get
 obtain ⟨f1, f2⟩ := hfr.get
 have hlt : ∀ (i k : Nat), sel[i]? = some k → k < l.length := fun i k hk => by
  have hi : i < l'.length := by rw [b1]; exact (List.getElem?_eq_some_iff.1 hk).1
  obtain ⟨k', B, q1, q2, _⟩ := b2 i l'[i] (List.getElem?_eq_getElem hi)
  rw [hk] at q1
  cases q1
  exact (List.getElem?_eq_some_iff.1 q2).1
 have hρ := r.len
 rw [List.length_append, quX] at hρ
 let ρ' : Mp := ρ.take h.length ++ sel.map fun k => ρ.getD (h.length + k) (0, 0, 0)
 have old : ∀ i, i < h.length → ρ'[i]? = ρ[i]? := fun i hi => by
  simp only [ρ']
  rw [List.getElem?_append_left (by rw [List.length_take]; omega), List.getElem?_take, if_pos hi]
 have new : ∀ i k, sel[i]? = some k → ρ'[h.length + i]? = ρ[h.length + k]? := fun i k hk => by
  have := hlt i k hk
  simp only [ρ']
  rw [List.getElem?_append_right (by rw [List.length_take]; omega), List.length_take, show h.length + i - min h.length ρ.length = i by omega, List.getElem?_map, hk, Option.map_some, List.getD_eq_getElem?_getD, List.getElem?_eq_getElem (by omega : h.length + k < ρ.length)]
  rfl
 have hq : ∀ i, (fun i => decide (i < h.length + sel.length)) i = true → ρ'[i]? = ρ[selN h.length sel i]? := fun i hi => by
  by_cases h1 : i < h.length
  ·rw [Xdk h1, old i h1]
  ·obtain ⟨k, rfl⟩ : ∃ k, i = h.length + k := ⟨i - h.length, by omega⟩
   have hk : k < sel.length := by simp only [decide_eq_true_eq] at hi; omega
   rw [Qo0, List.getD_eq_getElem?_getD, List.getElem?_eq_getElem hk]
   exact new k _ (List.getElem?_eq_getElem hk)
 have gl : ∀ (V D : AV) (l : List AB) (i : Nat), i < h.length → (bx2 h id V D ++ l)[i]? = if i = id then some (.blk false true [V, D]) else h[i]? := fun V D l i hi => by
  rw [List.getElem?_append_left (by rw [quX]; exact hi)]
  unfold bx2
  split
  ·rename_i e; subst e; rw [List.getElem?_set_self hi]
  ·rename_i e; rw [List.getElem?_set_ne (Ne.symm e)]
 have gr : ∀ (V D : AV) (l : List AB) (i : Nat), (bx2 h id V D ++ l)[h.length + i]? = l[i]? := fun V D l i => by
  rw [List.getElem?_append_right (by rw [quX]; omega), quX, Nat.add_sub_cancel_left]
 have cls : ∀ (i : Nat) B', (bx2 h id V' D' ++ l')[i]? = some B' → (i < h.length ∧ i ≠ id ∧ h[i]? = some B' ∧ (bx2 h id V D ++ l)[i]? = some B') ∨ (∃ j B, ((i = id ∧ j = id) ∨ ∃ i' k, i = h.length + i' ∧ sel[i']? = some k ∧ j = h.length + k) ∧ (bx2 h id V D ++ l)[j]? = some B ∧ ρ'[i]? = ρ[j]? ∧ BWk (fun i => decide (i < h.length + sel.length)) (selN h.length sel) B' B) := fun i B' hB => by
  by_cases hi : i < h.length
  ·by_cases e : i = id
   ·subst e
    rw [gl _ _ _ _ hi, if_pos rfl] at hB
    cases hB
    exact .inr ⟨i, .blk false true [V, D], .inl ⟨rfl, rfl⟩, by rw [gl _ _ _ _ hi, if_pos rfl], old i hi, hbx⟩
   ·rw [gl _ _ _ _ hi, if_neg e] at hB
    exact .inl ⟨hi, e, hB, by rw [gl _ _ _ _ hi, if_neg e]; exact hB⟩
  ·obtain ⟨i', rfl⟩ : ∃ k, i = h.length + k := ⟨i - h.length, by omega⟩
   rw [gr] at hB
   obtain ⟨k, B, q1, q2, q3⟩ := b2 _ B' hB
   exact .inr ⟨h.length + k, B, .inr ⟨i', k, rfl, q1, rfl⟩, by rw [gr]; exact q2, new i' k q1, q3⟩
 have up : ∀ (i : Nat) B' x, (bx2 h id V' D' ++ l')[i]? = some B' → ρ'[i]? = some x → ∃ j B, (bx2 h id V D ++ l)[j]? = some B ∧ ρ[j]? = some x ∧ (B'.mut = true → B.mut = true) ∧ (B'.live = true → B.live = true) ∧ ((i < h.length ∧ j = i) ∨ (∃ i' k, i = h.length + i' ∧ sel[i']? = some k ∧ j = h.length + k)) := fun i B' x hB hx => by
  rcases cls i B' hB with ⟨hi, e, q, q'⟩ | ⟨j, B, q0, q2, q4, q3⟩
  ·exact ⟨i, B', q', by rw [← old i hi]; exact hx, _root_.id, _root_.id, .inl ⟨hi, rfl⟩⟩
  ·refine ⟨j, B, q2, by rw [← q4]; exact hx, q3.mut, q3.live, ?_⟩
   rcases q0 with ⟨e1, e2⟩ | ⟨i', k, e1, e2, e3⟩
   ·exact .inl ⟨by omega, by omega⟩
   ·exact .inr ⟨i', k, e1, e2, e3⟩
 refine ⟨by rw [List.length_append, quX]; omega, ρ', ⟨f1.trans v.1, fun j a' c ha hc => ?_⟩, ⟨?_, fun i B' b o n hB hx => ?_, fun i j bi oi bj oj Bi Bj hne h1 h2 h3 h4 hm hl => ?_⟩, fun b ⟨i, B', o, h1, h2, h3⟩ => ?_, fun i b ⟨B', o, h1, h2, h3⟩ => ?_, fun i hi => ?_⟩
 ·rcases f2 j a' ha with rfl | ⟨q1, a, q2, q3⟩
  ·exact .top c
  ·exact VR.ren_down hq a' q1 c (q3 ρ c (v.2 j a c q2 hc))
 ·simp only [ρ', List.length_append, List.length_take, List.length_map, b1, quX]
  omega
 ·rcases cls i B' hB with ⟨hi, e, q, q'⟩ | ⟨j, B, q0, q2, q4, q3⟩
  ·have := r.blk i B' b o n q' (by rw [← old i hi]; exact hx)
   exact this.agree (q := fun i => decide (i < h.length)) (fun i hi => old i (by simpa using hi)) (hh i B' q) (fun _ => rfl)
  ·exact q3.br hq (r.blk j B b o n q2 (by rw [← q4]; exact hx))
 ·obtain ⟨i', Ci, u1, u2, u3, _, u5⟩ := up i Bi _ h1 h3
  obtain ⟨j', Cj, z1, z2, _, z4, z5⟩ := up j Bj _ h2 h4
  refine r.sep i' j' bi oi bj oj Ci Cj (fun e => hne ?_) u1 z1 u2 z2 (u3 hm) (z4 hl)
  subst e
  rcases u5 with ⟨x1, x2⟩ | ⟨s, k, x1, x2, x3⟩ <;> rcases z5 with ⟨y1, y2⟩ | ⟨t, m, y1, y2, y3⟩
  ·omega
  ·omega
  ·omega
  ·have : k = m := by omega
   subst this
   have := (List.getElem?_inj (List.getElem?_eq_some_iff.1 x2).1 hnd).1 (x2.trans y2.symm)
   omega
 ·obtain ⟨j, B, q1, q2, q3, _, _⟩ := up i B' _ h1 h3
  exact ⟨j, B, o, q1, q3 h2, q2⟩
 ·obtain ⟨j, B, q1, q2, _, q4, q5⟩ := up i B' _ h1 h3
  refine ⟨j, ⟨B, o, q1, q4 h2, q2⟩, fun hi => ?_, fun hi => ?_⟩
  ·rcases q5 with ⟨_, x⟩ | ⟨s, k, x, y, z⟩
   ·exact x
   ·omega
  ·rcases q5 with ⟨x, _⟩ | ⟨s, k, z, y, x⟩
   ·omega
   ·omega
 ·exact old i hi
theorem Rd.bx2 {α : Type} {r : Row α} {s : AV} {l : List α} (e : Rd r h s l) {id : Nat} {v0 d0 : AV} (hb : h[id]? = some (.blk false true [v0, d0])) (hv : v0.isSl = true) (hd : d0.isSl = true) (hr : ∀ x : α, ∀ c ∈ r.f x, c.isSl = false) (v d : AV) : Rd r (bx2 h id v d) s l := by
 refine ⟨?_, e.2⟩
 by_cases h0 : l.length = 0
 ·have h1 := e.1
  have hl := K5k h1
  have h2 : l = [] := List.length_eq_zero_iff.1 h0
  subst h2
  cases s with
  | sl id' off len cap k =>
   simp only [lenV, List.length_nil, Option.some.injEq] at hl
   have : len = 0 := by simpa using hl
   subst this
   rfl
  | ns => rfl
  | se => rfl
  | _ => cases h1
 ·obtain ⟨id', off, cap, k, xs, rfl, h1, h2, h3⟩ := e.blk 0 (by omega)
  have hne : id' ≠ id := by
   rintro rfl
   unfold XAh at h1
   rw [hb] at h1
   cases h1
   have hp := r.pos
   have hlt : 0 < l.length * r.sz := Nat.mul_pos (by omega) hp
   simp only [List.length_cons, List.length_nil] at h2
   have g := r.cells_get l 0 0 (by omega) hp
   rw [← h3, Nat.zero_mul, Nat.zero_add, List.getElem?_take, if_pos hlt, List.getElem?_drop, Nat.add_zero] at g
   obtain ⟨c, hc⟩ : ∃ c, [v0, d0][off]? = some c := ⟨_, List.getElem?_eq_getElem (by simp; omega)⟩
   rw [hc] at g
   have hm : c ∈ r.f (l.getD 0 r.d) := List.mem_of_getElem? g.symm
   have hf := hr _ c hm
   have : c.isSl = true := by
    rcases List.mem_cons.1 (List.mem_of_getElem? hc) with rfl | hc'
    ·exact hv
    ·rcases List.mem_cons.1 hc' with rfl | hc''
     ·exact hd
     ·simp at hc''
   rw [this] at hf
   cases hf
  have hr' : XAh (h.set id (.blk false true [v, d])) id' = XAh h id' := by
   unfold XAh
   rw [List.getElem?_set_ne (Ne.symm hne)]
  have h4 := e.1
  simp only [rdS, Go.Proofs.YtfaccliekejngaaGreat.bx2, hr'] at h4 ⊢
  exact h4
theorem ZhR (x : Int) : ∀ c ∈ intR.f x, c.isSl = false := by
 intro c hc
 simp only [JEE, List.mem_singleton] at hc
 subst hc
 rfl
theorem Zfh (x : Int × Int) : ∀ c ∈ dotR.f x, c.isSl = false := by
 intro c hc
 simp only [KdD, List.mem_cons, List.not_mem_nil, or_false] at hc
 rcases hc with rfl | rfl <;> rfl
theorem Rd.fxB {α : Type} {r : Row α} {b : List AB} {s : AV} {l : List α} (e : Rd r b s l) {sz : Nat} (hz : r.sz = sz) : (∀ x n j, n < l.length → j < sz → ldV (b ++ x) none (elP sz s n j) = (r.f (l.getD n r.d))[j]?) ∧ (∀ x n, n < l.length → ldV (b ++ x) (some sz) (elP sz s n 0) = some (.ag (r.f (l.getD n r.d)))) ∧ (∀ x, getS r (b ++ x) s = some l) ∧ (∀ x, getS r (b.map AB.freeze ++ x) s = some l) := by
 subst hz
 exact ⟨fun x n j h1 h2 => (e.app x).ld n j h1 h2, fun x n h1 => (e.app x).lda n h1, fun x => (e.app x).get, fun x => (e.frz.app x).get⟩
end
end Go.Proofs.YtfaccliekejngaaGreat
end
section
namespace Go.Proofs.YtfaccliekejngaaGreat
open Go.RowKit
def AV.val : AV → Value
 | .b t => .bool t
 | .i k n => .int k n
 | .s l => .string ⟨l.toArray⟩
 | _ => undef
def AV.fl : AV → Bool
 | .b _ | .i _ _ | .s _ => true
 | _ => false
theorem QSs (ρ : Mp) {a : AV} (h : a.fl = true) : VR ρ a a.val := by
 cases a <;> first | (cases h; done) | skip
 ·exact .b _
 ·exact .i _ _
 ·exact .s _ _ rfl
theorem Xjg {ρ : Mp} {a : AV} {v : Value} (h : a.fl = true) (e : VR ρ a v) : v = a.val := by
 cases a <;> first | (cases h; done) | skip
 ·cases e; rfl
 ·cases e; rfl
 ·cases e with
  | s l bs hb => subst hb; rfl
theorem qJ6 (ρ : Mp) : ∀ (l : List AV), (∀ a ∈ l, a.fl = true) → VL ρ l (l.map AV.val).toArray
 | [], _ => VL.nil ρ
 | a :: l, h => VL.cons (QSs ρ (h a (.head _))) (qJ6 ρ l fun b hb => h b (.tail _ hb))
theorem Y5G {ρ : Mp} {l : List AV} {cs : Array Value} (h : VL ρ l cs) : VR ρ (.ag l) (.agg cs) := .ag l cs h.1 h.2
structure In (K : Code → CC → Prop) (ρ : Mp) (h : List AB) (w : World) : Prop where
 rel : Rel K ρ h w
 frz : ∀ B ∈ h, B.mut = false
variable {K : Code → CC → Prop} {ρ : Mp} {h : List AB} {w : World}
theorem In.nil (w : World) : In K [] [] w := ⟨⟨rfl, fun i B b o n h => by simp at h, fun i j bi oi bj oj Bi Bj _ h => by simp at h⟩, fun B h => by simp at h⟩
theorem In.push (r : In K ρ h w) {B : AB} {b o n : Nat} (hm : B.mut = false) (hB : BR K (ρ ++ [(b, o, n)]) w b o n B) : In K (ρ ++ [(b, o, n)]) (h ++ [B]) w := by
 have hf : ∀ C ∈ h ++ [B], C.mut = false := fun C hC => by
  rcases List.mem_append.1 hC with q | q
  ·exact r.frz C q
  ·rw [List.mem_singleton.1 q]; exact hm
 refine ⟨⟨by simp [r.rel.len], fun i C b' o' n' h1 h2 => ?_, fun i j bi oi bj oj Bi Bj _ h1 _ _ _ hm' _ => ?_⟩, hf⟩
 ·by_cases hi : i < h.length
  ·rw [List.getElem?_append_left hi] at h1
   rw [List.getElem?_append_left (by rw [r.rel.len]; exact hi)] at h2
   exact (r.rel.blk i C b' o' n' h1 h2).same (Ext.push _ _) fun _ => rfl
  ·have hlt := (List.getElem?_eq_some_iff.1 h1).1
   rw [List.length_append, List.length_singleton] at hlt
   have : i = h.length := by omega
   subst this
   rw [List.getElem?_append_right (Nat.le_refl _), Nat.sub_self] at h1
   rw [List.getElem?_append_right (by rw [r.rel.len]; exact Nat.le_refl _), r.rel.len, Nat.sub_self] at h2
   cases h1
   cases h2
   exact hB
 ·rw [hf Bi (List.mem_of_getElem? h1)] at hm'
  cases hm'
theorem In.slice {α : Type} {r : Row α} (i : In K ρ h w) {v : Value} {l : List α} (hfl : ∀ x, ∀ a ∈ r.f x, a.fl = true) (hs : Sl w v l.length ((r.cells l).map AV.val)) :
  l.length ≤ maxLen ∧ ∃ x, In K (ρ ++ [x]) (h ++ [resB r false l]) w ∧ VR (ρ ++ [x]) (rsl r h.length l) v := by
 have hrl := i.rel.len
 by_cases h0 : l.length = 0
 ·have : l = [] := List.eq_nil_of_length_eq_zero h0
  subst this
  refine ⟨Nat.zero_le _, (0, 0, 0), i.push (by simp [resB, AB.mut]) (by simp [resB, BR]), ?_⟩
  simp only [rsl, List.length_nil, if_true]
  rcases hs with ⟨⟨a, rfl⟩, _, _⟩ | ⟨b, off, cap, rfl, _, hc, _⟩
  ·exact .sz _ _ _ _ (Nat.zero_le _) fun _ => rfl
  ·exact .sz _ _ _ _ hc fun q => by cases q
 ·rcases hs with ⟨_, q, _⟩ | ⟨b, off, cap, rfl, hlc, hc, hcells⟩
  ·exact absurd q h0
  ·have hlen : (r.cells l).length = l.length * r.sz := r.cells_len l
   have hpos : 0 < l.length * r.sz := Nat.mul_pos (by omega) r.pos
   have hall : ∀ a ∈ r.cells l, a.fl = true := fun a ha => by
    obtain ⟨x, _, hx⟩ := List.mem_flatMap.1 ha
    exact hfl x a hx
   have hat : ∀ k (hk : k < (r.cells l).length), w.cell? ⟨b, off + k, none⟩ = some ((r.cells l)[k]).val := fun k hk => hcells k _ (by rw [List.getElem?_map, List.getElem?_eq_getElem hk]; rfl)
   obtain ⟨cs, e, fz, hb⟩ : ∃ cs e fz, w.heap[b]? = some (.cells cs e fz) := by
    have := hat 0 (by omega)
    unfold World.cell? at this
    split at this
    ·rename_i c e fz hb
     exact ⟨c, e, fz, hb⟩
    ·cases this
   have hat' : ∀ k (hk : k < (r.cells l).length), cs[off + k]? = some ((r.cells l)[k]).val := fun k hk => by
    have := hat k hk
    unfold World.cell? at this
    rw [hb] at this
    simpa using this
   refine ⟨by omega, (b, off, off + cap * r.sz), i.push (by simp [resB, h0, AB.mut]) ?_, ?_⟩
   ·simp only [resB, if_neg h0, BR]
    refine ⟨cs, e, fz, hb, (fun q => by cases q), ?_, fun k a c ha hc' => ?_⟩
    ·have := (Array.getElem?_eq_some_iff.1 (hat' ((r.cells l).length - 1) (by omega))).1
     omega
    ·have hk := (List.getElem?_eq_some_iff.1 ha).1
     rw [hat' k hk] at hc'
     have : a = (r.cells l)[k] := (List.getElem?_eq_some_iff.1 ha).2.symm
     subst this
     cases hc'
     exact QSs _ (hall _ (List.getElem_mem hk))
   ·simp only [rsl, if_neg h0]
    exact .sl h.length 0 l.length l.length (some r.sz) b off (off + cap * r.sz) cap (by rw [← hrl, List.getElem?_append_right (Nat.le_refl _), Nat.sub_self]; rfl) (Nat.le_refl _) hlc hc (fun q => by cases q) (fun z hz _ => by cases hz; exact Nat.le_refl _)
theorem JtS {P : Program} {g : Nat} {az : List AV} {vals : Array Value} {h' : List AB} (i : In (KC P) ρ h w) (hv : VL ρ az vals) (e : FnC P g az h (.b true) h') : Calls P g vals w (fun e w' => e = .returned (.bool true) ∧ Kept NoS w w') := by
 refine (e.2 ρ w vals i.rel hv).mono ?_
 rintro e w' ⟨v', ρ', rfl, hva, _, heff⟩
 cases hva
 refine ⟨rfl, heff.os, heff.tape, heff.output.1, heff.size, fun b hb _ => heff.keep b hb fun ⟨j, B, o, h1, h2, _⟩ => ?_⟩
 rw [i.frz B (List.mem_of_getElem? h1)] at h2
 cases h2
theorem QjL (x : Int) : ∀ a ∈ intR.f x, a.fl = true := fun a ha => by simp [JEE] at ha; subst ha; rfl
theorem JNn (x : Int × Int) : ∀ a ∈ dotR.f x, a.fl = true := fun a ha => by simp [KdD] at ha; rcases ha with rfl | rfl <;> rfl
end Go.Proofs.YtfaccliekejngaaGreat
end
section
namespace Go.Proofs.YtfaccliekejngaaGreat
open Go.ChangeShapes Go.WideShapes Go.ChangeAt Go.RowKit
def RdL {α : Type} (R : World → List Value → α → Prop) (size : Nat) (w : World) (v : Value) (ts : List α) : Prop :=
 ∃ cs, Sl w v ts.length cs ∧ cs.length = ts.length * size ∧ ∀ i t, ts[i]? = some t → R w ((cs.drop (i * size)).take size) t
section
variable {H : Type} {enc : TypeId × Value → H} {P : Program} {w : World} {base : Nat} {spare : Nat → Bool} {held : Bool}
theorem XOl {α β : Type} (f : α → Option β) : ∀ (l : List α) (r : List β), l.mapM f = some r → ∀ a ∈ l, ∃ b, f a = some b
 | [], _, _, a, ha => by cases ha
 | x :: l, r, h, a, ha => by
  rw [List.mapM_cons] at h
  cases hx : f x with
  | none => simp [hx] at h
  | some b =>
   cases hl : l.mapM f with
   | none => simp [hx, hl] at h
   | some bs =>
    rcases List.mem_cons.1 ha with rfl | ha
    ·exact ⟨b, hx⟩
    ·exact XOl f l bs hl a ha
theorem X4u {α : Type} (R : Nat → α → Prop) : ∀ n, (∀ i, i < n → ∃ t, R i t) → ∃ ts : List α, ts.length = n ∧ ∀ i t, ts[i]? = some t → R i t
 | 0, _ => ⟨[], rfl, fun i t h => by simp at h⟩
 | n + 1, h => by
  obtain ⟨ts, hl, ht⟩ := X4u R n fun i hi => h i (by omega)
  obtain ⟨t, h1⟩ := h n (by omega)
  refine ⟨ts ++ [t], by simp [hl], fun i u hu => ?_⟩
  by_cases hi : i < n
  ·rw [List.getElem?_append_left (by omega)] at hu
   exact ht i u hu
  ·have hi2 : i = n := by
    have := (List.getElem?_eq_some_iff.1 hu).1
    simp [hl] at this
    omega
   subst hi2
   rw [List.getElem?_append_right (by omega)] at hu
   simp [hl] at hu
   exact hu ▸ h1
theorem YPi {α : Type} (R : World → List Value → α → Prop) {fuel : Nat} {T e : TypeId} {size : Nat} (hT : P.underlying T = some (.slice e)) (hc : P.cellsOf e = size) (hsz : 0 < size)
  (hR : ∀ cs x, DataW.trod enc P w base (fun _ => true) held fuel e cs = some x → ∃ t, R w cs t) {v : Value} {x : DataW H × List MemPlace}
  (h : DataW.trod enc P w base (fun _ => true) held (fuel + 1) T [v] = some x) : ∃ ts, RdL R size w v ts := by
 cases v with
 | slice a len cap =>
  cases a with
  | none =>
   cases len with
   | zero =>
    cases cap with
    | zero => exact ⟨[], [], .inl ⟨⟨_, rfl⟩, rfl, rfl⟩, by simp, fun i t ht => by simp at ht⟩
    | succ c => simp [DataW.trod, hT] at h
   | succ l => cases cap <;> simp [DataW.trod, hT] at h
  | some a =>
   simp only [DataW.trod, hT, hc] at h
   split at h
   case isFalse => cases h
   case isTrue hcond =>
    obtain ⟨hb, hlc, hcm⟩ := hcond
    obtain ⟨elems, hel, h2⟩ := Option.bind_eq_some_iff.1 h
    simp only [if_true] at h2
    obtain ⟨rest, hrest, _⟩ := Option.map_eq_some_iff.1 h2
    have hel2 : ∀ i, i < len → ∃ cs t, cs.length = size ∧ (∀ j, j < size → w.cell? ((a.add (i * size)).add j) = cs[j]?) ∧ R w cs t := by
     intro i hi
     obtain ⟨y, hy⟩ := XOl _ _ _ hel i (List.mem_range.2 hi)
     obtain ⟨cs, hcs, hy2⟩ := Option.bind_eq_some_iff.1 hy
     obtain ⟨_, hl, hcell⟩ := World.cells?_some hcs
     obtain ⟨t, ht⟩ := hR cs y hy2
     exact ⟨cs, t, hl, hcell, ht⟩
    by_cases h0 : cap = 0
    ·subst h0
     have : len = 0 := by omega
     subst this
     exact ⟨[], [], .inl ⟨⟨_, rfl⟩, rfl, rfl⟩, by simp, fun i t ht => by simp at ht⟩
    ·have hspot : a.spot = none := by
      have hfirst : ∃ u, w.cell? a = some u := by
       by_cases hl0 : len = 0
       ·subst hl0
        obtain ⟨y, hy⟩ := XOl _ _ _ hrest 0 (List.mem_range.2 (by omega))
        obtain ⟨cs, hcs, _⟩ := Option.bind_eq_some_iff.1 hy
        obtain ⟨_, hl, hcell⟩ := World.cells?_some hcs
        have := hcell 0 hsz
        simp [Addr.add] at this
        exact ⟨cs[0]'(by omega), by rw [this]; exact List.getElem?_eq_getElem (by omega)⟩
       ·obtain ⟨cs, t, hl, hcell, _⟩ := hel2 0 (by omega)
        have := hcell 0 hsz
        simp [Addr.add] at this
        exact ⟨cs[0]'(by omega), by rw [this]; exact List.getElem?_eq_getElem (by omega)⟩
      obtain ⟨u, hu⟩ := hfirst
      unfold World.cell? at hu
      split at hu
      ·split at hu
       ·cases hu
       ·rename_i hs
        simpa using hs
      ·cases hu
     obtain ⟨b, off, sp⟩ := a
     simp only at hspot
     subst hspot
     obtain ⟨g, hg⟩ : ∃ g : Nat → Value, ∀ k, g k = (w.cell? ⟨b, off + k, none⟩).getD undef := ⟨_, fun _ => rfl⟩
     have hlt : ∀ i j, i < len → j < size → i * size + j < len * size := fun i j hi hj => by
      have : (i + 1) * size ≤ len * size := Nat.mul_le_mul_right _ hi
      rw [Nat.add_mul] at this
      omega
     have hpiece : ∀ i, i < len → ∀ cs' : List Value, cs'.length = size → (∀ j, j < size → w.cell? (((⟨b, off, none⟩ : Addr).add (i * size)).add j) = cs'[j]?) → ((((List.range (len * size)).map g).drop (i * size)).take size) = cs' := by
      intro i hi cs' hl hcell
      apply List.ext_getElem?
      intro j
      by_cases hj : j < size
      ·have h1 := hcell j hj
       rw [Addr.add_none, Addr.add_none] at h1
       rw [List.getElem?_take_of_lt hj, List.getElem?_drop, List.getElem?_map, List.getElem?_range (hlt i j hi hj), ← h1]
       rw [Option.map_some, hg, ← Nat.add_assoc, h1, List.getElem?_eq_getElem (by omega)]
       rfl
      ·rw [List.getElem?_eq_none (by rw [List.length_take]; omega), List.getElem?_eq_none (by omega)]
     obtain ⟨ts, htl, hts⟩ := X4u (fun i t => R w ((((List.range (len * size)).map g).drop (i * size)).take size) t) len fun i hi => by
      obtain ⟨cs, t, hl, hcell, ht⟩ := hel2 i hi
      exact ⟨t, by rw [hpiece i hi cs hl hcell]; exact ht⟩
     refine ⟨ts, (List.range (len * size)).map g, .inr ⟨b, off, cap, by rw [htl], by omega, hcm, fun k u hu => ?_⟩, by simp [htl], hts⟩
     rw [List.getElem?_map] at hu
     obtain ⟨k', hk', rfl⟩ := Option.map_eq_some_iff.1 hu
     have hk : k < len * size := by simpa using (List.getElem?_eq_some_iff.1 hk').1
     rw [List.getElem?_range hk] at hk'
     cases hk'
     have hdiv : k / size < len := (Nat.div_lt_iff_lt_mul hsz).2 hk
     obtain ⟨cs, t, hl, hcell, _⟩ := hel2 (k / size) hdiv
     have h1 := hcell (k % size) (Nat.mod_lt _ hsz)
     rw [Addr.add_none, Addr.add_none, Nat.add_assoc, Nat.mul_comm, Nat.div_add_mod] at h1
     rw [hg, h1, List.getElem?_eq_getElem (by have := Nat.mod_lt k hsz; omega)]
     rfl
 | _ => simp [DataW.trod, hT] at h
theorem KTk {fuel : Nat} {T : TypeId} {fs : Array Field} (hT : P.underlying T = some (.struct fs)) {cs : List Value} {x : DataW H × List MemPlace}
  (h : DataW.trod enc P w base spare held (fuel + 1) T cs = some x) : cs.length = P.cellsOf T ∧ ∀ f ∈ fs.toList, ∃ y, DataW.trod enc P w base spare held fuel f.type ((cs.drop f.offset).take (P.cellsOf f.type)) = some y := by
 simp only [DataW.trod, hT] at h
 split at h
 ·rename_i hl
  obtain ⟨xs, hxs, _⟩ := Option.map_eq_some_iff.1 h
  exact ⟨hl, fun f hf => XOl _ _ _ hxs f hf⟩
 ·cases h
theorem Jo2 {fuel : Nat} {T e : TypeId} {n : Nat} (hT : P.underlying T = some (.array n e)) {cs : List Value} {x : DataW H × List MemPlace}
  (h : DataW.trod enc P w base spare held (fuel + 1) T cs = some x) : cs.length = P.cellsOf T ∧ ∀ i, i < n → ∃ y, DataW.trod enc P w base spare held fuel e ((cs.drop (i * P.cellsOf e)).take (P.cellsOf e)) = some y := by
 simp only [DataW.trod, hT] at h
 split at h
 ·rename_i hl
  obtain ⟨xs, hxs, _⟩ := Option.map_eq_some_iff.1 h
  exact ⟨hl, fun i hi => XOl _ _ _ hxs i (List.mem_range.2 hi)⟩
 ·cases h
theorem Xiq {fuel : Nat} {T : TypeId} {k : IntKind} (hT : P.underlying T = some (.int k)) {cs : List Value} {x : DataW H × List MemPlace}
  (h : DataW.trod enc P w base spare held fuel T cs = some x) : ∃ n, cs = [.int k n] ∧ (Lit.int k n).wf = true := by
 cases fuel with
 | zero => cases h
 | succ fuel =>
  simp only [DataW.trod, hT] at h
  split at h <;> simp_all
theorem Jri {α : Type} (R : World → List Value → α → Prop) {fuel : Nat} {T e : TypeId} {size : Nat} (hT : P.underlying T = some (.slice e)) (hc : P.cellsOf e = size) (hsz : 0 < size)
  (hR : ∀ fuel cs x, DataW.trod enc P w base (fun _ => true) held fuel e cs = some x → ∃ t, R w cs t) {cs : List Value} {x : DataW H × List MemPlace}
  (h : DataW.trod enc P w base (fun _ => true) held fuel T cs = some x) : ∃ v, cs = [v] ∧ ∃ ts, RdL R size w v ts := by
 cases fuel with
 | zero => cases h
 | succ fuel =>
  have hv : ∃ v, cs = [v] := by
   have h' := h
   simp only [DataW.trod, hT] at h'
   split at h' <;> simp_all
  obtain ⟨v, rfl⟩ := hv
  exact ⟨v, rfl, YPi R hT hc hsz (fun cs x => hR fuel cs x) h⟩
theorem qOe {n : Int} (h : (Lit.int .u8 n).wf = true) : Value.int .u8 n = .int .u8 ((UInt8.ofInt n).toNat : Int) := by
 have hb := bounds_u8 h
 congr 1
 simp only [UInt8.ofInt, UInt8.toNat_ofNat']
 omega
theorem KGp {n : Int} (h : (Lit.int .i64 n).wf = true) : -9223372036854775808 ≤ n ∧ n ≤ 9223372036854775807 := bounds_i64 h
end
end Go.Proofs.YtfaccliekejngaaGreat
end
section
namespace Go.Proofs.YtfaccliekejngaaGreat
def X1r := (And.intro (And.intro (And.intro (And.intro (And.intro (And.intro (And.intro @ZaL (And.intro @ZlI @Kb5)) (And.intro (And.intro @J0T @ZLD) (And.intro @qZY @YLp))) (And.intro (And.intro @K0V (And.intro @Z30 @Xcs)) (And.intro (And.intro @XDG @J3M) (And.intro @KIQ @qB1)))) (And.intro (And.intro (And.intro @qOG (And.intro @ZyQ @XPQ)) (And.intro (And.intro @YbP @QSu) (And.intro @qBi @znH))) (And.intro (And.intro (And.intro @qua @W_op) (And.intro @ZHQ @zq0)) (And.intro (And.intro @X5C @qmY) (And.intro @JLI @QTt))))) (And.intro (And.intro (And.intro (And.intro @QRJ (And.intro @QqV @q7h)) (And.intro (And.intro @Zbn @JvT) (And.intro @pl_0 @pl_s))) (And.intro (And.intro @Zgd (And.intro @YCc @zMd)) (And.intro (And.intro @zma @ev_t) (And.intro @ev_c @Y49)))) (And.intro (And.intro (And.intro @JfJ (And.intro @X6D @Xyg)) (And.intro (And.intro @qOl @YHF) (And.intro @XXn @XHE))) (And.intro (And.intro (And.intro @zjm @J3Y) (And.intro @Qty @Khl)) (And.intro (And.intro @YWR @Yva) (And.intro @zvb @qX6)))))) (And.intro (And.intro (And.intro (And.intro (And.intro @Xte (And.intro @JjR @ZRn)) (And.intro (And.intro @ZEB @zRR) (And.intro @Jzu @KGr))) (And.intro (And.intro @z4X (And.intro @zJN @qYW)) (And.intro (And.intro @QPl @XO1) (And.intro @XQf @Ys0)))) (And.intro (And.intro (And.intro @JLH (And.intro @qTR @QPB)) (And.intro (And.intro @YIC @zkn) (And.intro @QF1 @Zzp))) (And.intro (And.intro (And.intro @YVZ @ZAp) (And.intro @zVj @KtW)) (And.intro (And.intro @qKA @Ktm) (And.intro @JKQ @J0U))))) (And.intro (And.intro (And.intro (And.intro @zyx (And.intro @Tab.at_nil @Tab.at_cons)) (And.intro (And.intro @q7z @Qua) (And.intro @QXJ @zYU))) (And.intro (And.intro (And.intro @Xnw @qT2) (And.intro @ZCs @JsX)) (And.intro (And.intro @K5K @qI2) (And.intro @JwX @Zjs)))) (And.intro (And.intro (And.intro @Zoy (And.intro @JMb @zU2)) (And.intro (And.intro @all_nil @all_cons) (And.intro @Kaw @qg5))) (And.intro (And.intro (And.intro @zCp @XNO) (And.intro @KH3 @qLF)) (And.intro (And.intro @z4j @XH6) (And.intro @KZX @JOg))))))) (And.intro (And.intro (And.intro (And.intro (And.intro (And.intro @zfy (And.intro @QeZ @zlw)) (And.intro (And.intro @JaU @Yv6) (And.intro @qvM @Y7r))) (And.intro (And.intro @zgN (And.intro @QUw @qTw)) (And.intro (And.intro @zcZ @XL3) (And.intro @X9C @JwG)))) (And.intro (And.intro (And.intro @qg2 (And.intro @QJw @XZZ)) (And.intro (And.intro @QAI @QYb) (And.intro @YFu @QJI))) (And.intro (And.intro (And.intro @X2G @Jfl) (And.intro @KW0 @JoB)) (And.intro (And.intro @zh2 @YkC) (And.intro @ZN3 @Xng))))) (And.intro (And.intro (And.intro (And.intro @true_and (And.intro @and_true @true_implies)) (And.intro (And.intro @Bool.true_and @Bool.and_true) (And.intro @Bool.false_and @Bool.and_false))) (And.intro (And.intro (And.intro @Nat.lt_add_one @tp_0) (And.intro @tp_s @qG5)) (And.intro (And.intro @Jcg @zmc) (And.intro @qSo @Int.cast_ofNat_Int)))) (And.intro (And.intro (And.intro @Int.natCast_inj (And.intro @Int.ofNat_lt @Int.ofNat_le)) (And.intro (And.intro @Int.toNat_natCast @Int.natCast_nonneg) (And.intro @not_false_eq_true @not_true_eq_false))) (And.intro (And.intro (And.intro @Bool.false_eq_true @YCu) (And.intro @z93 @zY9)) (And.intro (And.intro @Yzc @K8x) (And.intro @zas @Q7O)))))) (And.intro (And.intro (And.intro (And.intro (And.intro @z3R (And.intro @qBT @XIn)) (And.intro (And.intro @qZZ @qfO) (And.intro @z1m @QqP))) (And.intro (And.intro @Xh7 (And.intro @zyQ @Kv4)) (And.intro (And.intro @JsW @Xb7) (And.intro @zor @Qza)))) (And.intro (And.intro (And.intro @zcp (And.intro @XAn @q5Y)) (And.intro (And.intro @zo5 @Z8N) (And.intro @qH0 @ZPD))) (And.intro (And.intro (And.intro @YGj @XJO) (And.intro @zob @zeJ)) (And.intro (And.intro @Zdx @KRX) (And.intro @XOq @qb9))))) (And.intro (And.intro (And.intro (And.intro @Xf7 (And.intro @qy1 @QmC)) (And.intro (And.intro @zlI @KNY) (And.intro @JFs @KXp))) (And.intro (And.intro (And.intro @XFB @ZqC) (And.intro @Ky1 @Y4N)) (And.intro (And.intro @XKn @JPb) (And.intro @zpT @JoA)))) (And.intro (And.intro (And.intro @Xt0 (And.intro @Nat.add_assoc @Ybo)) (And.intro (And.intro @JY6 @KUI) (And.intro @Q4R @zlS))) (And.intro (And.intro (And.intro @QAC @Yba) (And.intro @XN5 @ZD2)) (And.intro (And.intro @JCL @Ye5) (And.intro @Qjs @qhD))))))))
def Z1D := (And.intro (And.intro (And.intro (And.intro (And.intro (And.intro (And.intro @q6L @qao) (And.intro @KLS @Jsy)) (And.intro (And.intro @ZH6 @ZRb) (And.intro @KDT @qph))) (And.intro (And.intro (And.intro @QNL @QDy) (And.intro @Q1z @ZXF)) (And.intro (And.intro @Y1o @qS0) (And.intro @zPG @QkC)))) (And.intro (And.intro (And.intro (And.intro @qX2 @YZL) (And.intro @Qyu @quK)) (And.intro (And.intro @XyI @XnF) (And.intro @K5J @qbK))) (And.intro (And.intro (And.intro @JTX @QE7) (And.intro @qwE @Kvj)) (And.intro (And.intro @Yhy @KBZ) (And.intro @Kmx (And.intro @q3C @z6w)))))) (And.intro (And.intro (And.intro (And.intro (And.intro @zv8 @XCb) (And.intro @zZB @J18)) (And.intro (And.intro @Qbd @qJV) (And.intro @JLb @K55))) (And.intro (And.intro (And.intro @X1F @Y3P) (And.intro @Zu1 @XWG)) (And.intro (And.intro @XpA @Qpp) (And.intro @zgD @YRC)))) (And.intro (And.intro (And.intro (And.intro @qkQ @qnJ) (And.intro @KGo @XY5)) (And.intro (And.intro @Ylq @K03) (And.intro @YLV @ZW8))) (And.intro (And.intro (And.intro @qWM @Jjm) (And.intro @J8K @ZiE)) (And.intro (And.intro @zIb @KdN) (And.intro @qfU (And.intro @KzT @znw))))))) (And.intro (And.intro (And.intro (And.intro (And.intro (And.intro @qIi @KdC) (And.intro @qN2 @Zf5)) (And.intro (And.intro @JnB @XfZ) (And.intro @qjX @JQR))) (And.intro (And.intro (And.intro @QHy @Zjq) (And.intro @Zrb @XnY)) (And.intro (And.intro @Jsj @ZnY) (And.intro @ok_i @ok_b)))) (And.intro (And.intro (And.intro (And.intro @ok_s @Yiy) (And.intro @qj1 @K30)) (And.intro (And.intro @ok_p @ok_y) (And.intro @q5T @ok_f))) (And.intro (And.intro (And.intro @JAX @ZVg) (And.intro @YI0 @qMC)) (And.intro (And.intro @YeG @JRH) (And.intro @KNH (And.intro @JpE @Qsg)))))) (And.intro (And.intro (And.intro (And.intro (And.intro @JbI @qiT) (And.intro @YNo @any_cons)) (And.intro (And.intro @zoY @YWg) (And.intro @Ys6 @K90))) (And.intro (And.intro (And.intro @JZs @YFp) (And.intro @Jat @YpS)) (And.intro (And.intro @YAx @KED) (And.intro @Tab.ws_nil (And.intro @Tab.ws_cons @decide_true))))) (And.intro (And.intro (And.intro (And.intro @decide_false @Bool.or_true) (And.intro @Bool.or_false @Bool.true_or)) (And.intro (And.intro @Bool.false_or @Bool.not_true) (And.intro @Bool.not_false @KSA))) (And.intro (And.intro (And.intro @XNG @ZyD) (And.intro @Z97 @z1G)) (And.intro (And.intro @qbd @Zh9) (And.intro @Kwt (And.intro @ZrU @XPg))))))))
def q9C := (And.intro (And.intro (And.intro (And.intro (And.intro @YEP @XkF) (And.intro @zRa (And.intro @Q7o @Y0G))) (And.intro (And.intro @nd_0 (And.intro @nd_s @KdE)) (And.intro @qSo (And.intro @zmc @QJw)))) (And.intro (And.intro (And.intro @XZZ (And.intro @decide_eq_true_eq @Bool.and_eq_true)) (And.intro @Bool.and_true (And.intro @Bool.true_and @Nat.lt_add_right_iff_pos))) (And.intro (And.intro @Nat.lt_add_one (And.intro @Nat.add_lt_add_iff_left @Nat.zero_lt_succ)) (And.intro @or_true (And.intro @true_or @and_true))))) (And.intro (And.intro (And.intro (And.intro @true_and @and_self) (And.intro @Nat.zero_add (And.intro @Nat.add_zero @false_or))) (And.intro (And.intro @zfI (And.intro @q2w @YRK)) (And.intro @Zso (And.intro @Jcg @qG5)))) (And.intro (And.intro (And.intro @imp_self (And.intro @QPQ @ZeP)) (And.intro @JEE (And.intro @KdD @decide_true))) (And.intro (And.intro @Bool.or_true (And.intro @ZIt @ZLN)) (And.intro @J8D (And.intro @KvS @Nat.lt_irrefl))))))
def zVq := (And.intro (And.intro (And.intro @JQZ @Jty) (And.intro @zW6 (And.intro @QWR @Xlq))) (And.intro (And.intro @YaF @KOt) (And.intro @ZIs (And.intro @zaA @JUJ))))
end Go.Proofs.YtfaccliekejngaaGreat
end
section
namespace Go.Proofs.YtfaccliekejngaaGreat
def Y9j := (And.intro (And.intro (And.intro @JBM @QyA) (And.intro @JYt (And.intro @Q0J @qI0))) (And.intro (And.intro @Yas (And.intro @qtA @KWN)) (And.intro @YxA (And.intro @JQH @qLg))))
end Go.Proofs.YtfaccliekejngaaGreat
end
section
namespace Go.Proofs.YtfaccliekejngaaGreat
variable {α : Type} {r : Row α} {h : List AB} {s : AV} {l : List α}
def AV.capOk : AV → Bool
 | .sl _ _ n c _ => decide (n ≤ c)
 | _ => true
theorem KGT (id : Nat) (l : List α) : (rsl r id l).capOk = true := by
 unfold rsl
 split <;> simp [AV.capOk]
theorem Rd.slc {id off len cap : Nat} {k : Option Nat} (e : Rd r h (.sl id off len cap k) l) (h0 : l.length ≠ 0) : len = l.length ∧ ∃ xs, XAh h id = some xs ∧ off + l.length * r.sz ≤ xs.length ∧ (xs.drop off).take (l.length * r.sz) = r.cells l := by
 have e1 := e.1
 have e2 := e.len
 simp only [lenV, Option.some.injEq] at e2
 obtain rfl : len = l.length := by omega
 simp only [rdS, if_neg h0] at e1
 obtain ⟨xs, h1, e1⟩ := Option.bind_eq_some_iff.1 e1
 split at e1
 ·rename_i h2
  simp only [Option.some.injEq, Prod.mk.injEq, true_and] at e1
  exact ⟨rfl, xs, h1, h2, e1⟩
 ·cases e1
theorem Rd.mk_sl {id off n cap : Nat} {k : Option Nat} {xs : List AV} (h1 : XAh h id = some xs) (hn : n = l.length) (h2 : off + l.length * r.sz ≤ xs.length) (h3 : (xs.drop off).take (l.length * r.sz) = r.cells l) (hm : l.length ≤ maxLen) : Rd r h (.sl id off n cap k) l := by
 subst hn
 refine ⟨?_, hm⟩
 by_cases h0 : l.length = 0
 ·have : l = [] := List.eq_nil_of_length_eq_zero h0
  subst this
  simp only [rdS, List.length_nil, if_true]
  rfl
 ·simp only [rdS, if_neg h0, h1, Option.bind_some, if_pos h2, h3]
theorem Rd.mk0 {id off cap : Nat} {k : Option Nat} (h0 : l.length = 0) : Rd r h (.sl id off 0 cap k) l := by
 have : l = [] := List.eq_nil_of_length_eq_zero h0
 subst this
 exact ⟨by simp only [rdS, if_true]; rfl, Nat.zero_le _⟩
theorem Rd.takeS (e : Rd r h s l) (hc : s.capOk = true) {i : Nat} (hi : i ≤ l.length) {sz : Nat} (hz : r.sz = sz) : ∃ s', slL sz s none (some (.i .i64 i)) none = some s' ∧ Rd r h s' (l.take i) ∧ ∀ q, s.ok q = true → s'.ok q = true := by
 subst hz
 have hs := e.isSl
 have hl := e.len
 cases s <;> first | (cases hs; done) | skip
 ·rename_i id off len cap k
  simp only [lenV, Option.some.injEq] at hl
  simp only [AV.capOk, decide_eq_true_eq] at hc
  have hb : bnd len cap (some (.i .i64 (i : Int))) = some i := by
   simp only [bnd]
   rw [if_pos (by omega)]
   rfl
  refine ⟨.sl id off i cap k, ?_, ?_, fun q ho => ?_⟩
  ·simp only [slL, hb, Option.bind_some]
   simp only [bnd, Option.map_some, if_true]
  ·by_cases h0 : i = 0
   ·subst h0
    exact Rd.mk0 (by simp)
   ·obtain ⟨-, xs, h1, h2, h3⟩ := e.slc (by omega)
    have hti : (l.take i).length = i := by rw [List.length_take]; omega
    have hmul : i * r.sz ≤ l.length * r.sz := Nat.mul_le_mul_right _ hi
    refine Rd.mk_sl h1 hti.symm (by rw [hti]; omega) ?_ (by have := e.2; omega)
    rw [hti, ← r.cells_take, ← h3, List.take_take, Nat.min_eq_left hmul]
  ·simp only [AV.ok, Bool.or_eq_true, Bool.and_eq_true] at ho ⊢
   refine ho.imp (fun g => ⟨⟨?_, g.1.2⟩, g.2⟩) fun z => z
   have := Nat.eq_of_beq_eq_true g.1.1
   have h0 : i = 0 := by omega
   subst h0
   rfl
 ·simp only [lenV, Option.some.injEq] at hl
  have h0 : i = 0 := by omega
  subst h0
  exact ⟨.se, rfl, ⟨rfl, Nat.zero_le _⟩, fun _ h => h⟩
 ·simp only [lenV, Option.some.injEq] at hl
  have h0 : i = 0 := by omega
  subst h0
  exact ⟨.ns, rfl, ⟨rfl, Nat.zero_le _⟩, fun _ h => h⟩
theorem Rd.dropS (e : Rd r h s l) (hc : s.capOk = true) {i : Nat} (hi : i ≤ l.length) {sz : Nat} (hz : r.sz = sz) : ∃ s', slL sz s (some (.i .i64 i)) none none = some s' ∧ Rd r h s' (l.drop i) ∧ ∀ q, s.ok q = true → s'.ok q = true := by
 subst hz
 have hs := e.isSl
 have hl := e.len
 cases s <;> first | (cases hs; done) | skip
 ·rename_i id off len cap k
  simp only [lenV, Option.some.injEq] at hl
  simp only [AV.capOk, decide_eq_true_eq] at hc
  have hb : bnd 0 len (some (.i .i64 (i : Int))) = some i := by
   simp only [bnd]
   rw [if_pos (by omega)]
   rfl
  have hm := e.2
  by_cases h0 : i = 0
  ·subst h0
   refine ⟨.sl id off len cap k, ?_, by rw [List.drop_zero]; exact e, fun _ h => h⟩
   simp only [slL]
   rw [show bnd len cap none = some len from rfl, Option.bind_some, hb]
   simp only [Option.map_some, if_true]
  ·by_cases h1 : i < cap
   ·refine ⟨.sl id (off + i * r.sz) (len - i) (cap - i) (kcut k r.sz), ?_, ?_, fun q ho => ?_⟩
    ·simp only [slL]
     rw [show bnd len cap none = some len from rfl, Option.bind_some, hb]
     simp only [Option.map_some, if_neg h0, if_pos h1]
    ·by_cases h2 : i = l.length
     ·rw [show len - i = 0 from by omega]
      exact Rd.mk0 (by simp; omega)
     ·obtain ⟨-, xs, g1, g2, g3⟩ := e.slc (by omega)
      have hti : (l.drop i).length = l.length - i := by rw [List.length_drop]
      have hmul : (l.length - i) * r.sz + i * r.sz = l.length * r.sz := by rw [← Nat.add_mul]; congr 1; omega
      refine Rd.mk_sl g1 (by omega) (by rw [hti]; omega) ?_ (by omega)
      rw [hti, ← r.cells_drop, ← g3, List.drop_take, List.drop_drop]
      congr 1
      omega
    ·simp only [AV.ok, Bool.or_eq_true, Bool.and_eq_true] at ho ⊢
     refine .inr (ho.elim (fun g => ?_) fun z => z)
     have := Nat.eq_of_beq_eq_true g.1.2
     omega
   ·have hi2 : i = l.length := by omega
    by_cases hk : k = none
    ·refine ⟨.sl id off 0 0 none, ?_, Rd.mk0 (by simp; omega), fun q ho => ?_⟩
     ·simp only [slL]
      rw [show bnd len cap none = some len from rfl, Option.bind_some, hb]
      simp only [Option.map_some, if_neg h0, if_neg h1, if_pos hk]
     ·subst hk
      simp only [AV.ok, Bool.or_eq_true, Bool.and_eq_true] at ho ⊢
      exact .inr (ho.elim (fun g => absurd g.2 (by simp)) fun z => z)
    ·refine ⟨.se, ?_, ?_, fun q ho => rfl⟩
     ·simp only [slL]
      rw [show bnd len cap none = some len from rfl, Option.bind_some, hb]
      simp only [Option.map_some, if_neg h0, if_neg h1, if_neg hk]
     ·rw [List.drop_eq_nil_of_le (by omega)]
      exact ⟨rfl, Nat.zero_le _⟩
 ·simp only [lenV, Option.some.injEq] at hl
  have h0 : i = 0 := by omega
  subst h0
  exact ⟨.se, rfl, by rw [List.drop_zero]; exact e, fun _ h => h⟩
 ·simp only [lenV, Option.some.injEq] at hl
  have h0 : i = 0 := by omega
  subst h0
  exact ⟨.ns, rfl, by rw [List.drop_zero]; exact e, fun _ h => h⟩
def blkX : List AB → Nat → List AV
 | [], _ => []
 | .blk _ _ xs :: _, 0 => xs
 | _ :: _, 0 => []
 | _ :: L, k + 1 => blkX L k
def YpO : List AB → Nat → Bool
 | [], _ => false
 | .blk fl m _ :: _, 0 => fl && m
 | _ :: _, 0 => false
 | _ :: L, k + 1 => YpO L k
theorem Xc9 (fl m : Bool) (xs : List AV) (L : List AB) : blkX (.blk fl m xs :: L) 0 = xs := _root_.id rfl
theorem qdZ (B : AB) (L : List AB) (k : Nat) : blkX (B :: L) (k + 1) = blkX L k := by cases B <;> rfl
theorem KYW (xs : List AV) (L : List AB) : YpO (.blk true true xs :: L) 0 = true := _root_.id rfl
theorem qJ3 (B : AB) (L : List AB) (k : Nat) : YpO (B :: L) (k + 1) = YpO L k := by cases B <;> rfl
theorem Kwk : ∀ (L : List AB) (k : Nat), YpO L k = true → L[k]? = some (.blk true true (blkX L k))
 | [], _, e => by cases e
 | B :: L, 0, e => by
  cases B <;> first | (cases e; done) | skip
  rename_i fl m xs
  simp only [YpO, Bool.and_eq_true] at e
  obtain ⟨rfl, rfl⟩ := e
  rfl
 | B :: L, k + 1, e => by
  rw [qJ3] at e
  rw [qdZ]
  simpa using Kwk L k e
theorem KrC {h : List AB} (L : List AB) (k n sz by_ m : Nat) (ys : List AV) (hb : YpO L k = true) (hx : (blkX L k).length = n * sz) (hs : sz ≠ 0) (hm : m ≠ 0) (h1 : (n + m) * by_ ≤ 140737488355328) (h2 : n + m ≤ maxLen) :
  appW (h ++ L) true sz by_ (.sl (h.length + k) 0 n n (some sz)) m ys = some (.sl (h.length + L.length) 0 (n + m) (n + m) (some sz), h ++ (Ycl L k ++ [.blk true true (blkX L k ++ ys)])) := by
 have hx2 := Kwk L k hb
 unfold appW
 dsimp only
 rw [if_neg hm, if_neg (by omega), Yn6, hx2]
 simp only [true_and, Nat.zero_add, hx, Nat.le_refl, h1, h2, if_true, reduceCtorEq, if_false, List.drop_zero, List.length_append]
 rw [if_pos ⟨hs, trivial⟩, ZII, List.set_append_right _ _ (by omega), Nat.add_sub_cancel_left, List.append_assoc]
theorem zHp (H : List AB) (fl : Bool) (sz by_ id off n c : Nat) (k : Option Nat) (ys : List AV) : appW H fl sz by_ (.sl id off n c k) 0 ys = some (.sl id off n c k, H) := by unfold appW; dsimp only; rw [if_pos rfl]
end Go.Proofs.YtfaccliekejngaaGreat
end
