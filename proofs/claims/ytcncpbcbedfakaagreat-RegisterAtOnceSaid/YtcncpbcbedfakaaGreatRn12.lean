/- Part 12 of what the laws' proofs rest on. No condition. -/
import Derived.Test.YtcncpbcbedfakaaGreatRn11
set_option linter.all false
section
namespace Go.Proofs.YtcncpbcbedfakaaGreat
open Go.RowKit
section
variable {T : Env} {fr : List AV} {h : List AB} {p : Nat}
theorem ld_ownP (hp : h.length = p) (l : List AB) (k o : Nat) : ldV (h ++ l) none (.p (p + k) o) = (ownC l k).bind fun xs => xs[o]? := by subst hp; exact ld_own l k o
theorem lda_ownP (hp : h.length = p) (l : List AB) (k o n : Nat) : ldV (h ++ l) (some n) (.p (p + k) o) = (ownC l k).bind fun xs => if o + n ≤ xs.length then some (.ag ((xs.drop o).take n)) else none := by subst hp; exact lda_own l k o n
theorem st_ownP (hp : h.length = p) (l : List AB) (k o : Nat) (v : AV) : stV (h ++ l) none (.p (p + k) o) v = if v.one = true then (ownW l k o [v]).map (h ++ ·) else none := by subst hp; exact st_own l k o v
theorem sta_ownP (hp : h.length = p) (l : List AB) (k o n : Nat) (vs : List AV) : stV (h ++ l) (some n) (.p (p + k) o) (.ag vs) = if vs.length = n then (ownW l k o vs).map (h ++ ·) else none := by subst hp; exact sta_own l k o n vs
theorem srcV_ownP (hp : h.length = p) (L : List AB) (k off n cap sz : Nat) (kk : Option Nat) : srcV (h ++ L) sz (.sl (p + k) off n cap kk) = if n = 0 then some (0, []) else (ownC L k).bind fun xs => if off + n * sz ≤ xs.length then some (n, (xs.drop off).take (n * sz)) else none := by subst hp; exact srcV_own L k off n cap sz kk
theorem appW_apP {α : Type} {r : Row α} (hp : h.length = p) {sz : Nat} (hz : r.sz = sz) (L : List AB) (k : Nat) (l : List α) (by_ m : Nat) (ys : List AV) (hb : ownM r l L k) (hm : m ≠ 0) (h1 : (l.length + m) * by_ ≤ 140737488355328) (h2 : l.length + m ≤ maxLen) :
  appW (h ++ L) true sz by_ (apS r (p + k) l) m ys = some (.sl (p + L.length) 0 (l.length + m) (l.length + m) (some sz), h ++ (killB L k ++ [.blk true true (r.cells l ++ ys)])) := by subst hp; exact appW_ap hz L k l by_ m ys hb hm h1 h2
theorem appW_rslP {α : Type} {r : Row α} (hp : h.length = p) {sz : Nat} (hz : r.sz = sz) (L : List AB) (k : Nat) (l : List α) (by_ m : Nat) (ys : List AV) (h0 : l.length ≠ 0) (hb : ownM r l L k) (hm : m ≠ 0) (h1 : (l.length + m) * by_ ≤ 140737488355328) (h2 : l.length + m ≤ maxLen) :
  appW (h ++ L) true sz by_ (rsl r (p + k) l) m ys = some (.sl (p + L.length) 0 (l.length + m) (l.length + m) (some sz), h ++ (killB L k ++ [.blk true true (r.cells l ++ ys)])) := by rw [← apS_rsl _ h0]; exact appW_apP hp hz L k l by_ m ys hb hm h1 h2
theorem rsl_ldaP {α : Type} {r : Row α} (hp : h.length = p) {sz : Nat} (hz : r.sz = sz) (L : List AB) (k : Nat) (l : List α) (n : Nat) (e : ownR r l L k) (hn : n < l.length) : ldV (h ++ L) (some sz) (elP sz (rsl r (p + k) l) n 0) = some (.ag (r.f (l.getD n r.d))) := by subst hp; exact rsl_lda hz L k l n e hn
theorem rsl_getP {α : Type} {r : Row α} (hp : h.length = p) (L : List AB) (k : Nat) (l : List α) (e : ownR r l L k) (hl : l.length ≤ maxLen) : getS r (h ++ L) (rsl r (p + k) l) = some l := by subst hp; exact rsl_get L k l e hl
theorem len_appP (hp : h.length = p) (l : List AB) : (h ++ l).length = p + l.length := by rw [← hp]; exact List.length_append
theorem len_fz : (h.map AB.freeze).length = h.length := List.length_map _
theorem drop_ownP (hp : h.length = p) (l : List AB) (n : Nat) : (h ++ l).drop (p + n) = l.drop n := by subst hp; exact drop_own l n
theorem getD_ownP (hp : h.length = p) (l : List AB) (n : Nat) : (h ++ l).getD (p + n) .dead = l.getD n .dead := by subst hp; exact getD_own l n
theorem mask_any (hp : h.length = p) (c anc n : Nat) (past : List Pt) (ws : List Nat) (l : List AB) (hn : n = p + l.length) (hw : (ws.all fun id => decide (p ≤ id)) = true) : maskB (seen (p + c) anc past n) ws 0 (h ++ l) = h.map AB.freeze ++ mskL p c anc past ws 0 l := by
 subst hp
 have h1 : ∀ j, j < h.length → j ∉ ws := fun j hj hm => by
  have := List.all_eq_true.1 hw j hm
  simp only [decide_eq_true_eq] at this
  omega
 refine List.ext_getElem? fun i => ?_
 rw [maskB_get, Nat.zero_add]
 by_cases hi : i < h.length
 ·rw [List.getElem?_append_left hi, List.getElem?_append_left (by rw [List.length_map]; exact hi), List.getElem?_map, List.getElem?_eq_getElem hi, Option.map_some, Option.map_some, if_neg (h1 i hi), if_pos]
  exact List.mem_filter.2 ⟨List.mem_range.2 (by omega), qOk_lt (by omega)⟩
 ·rw [List.getElem?_append_right (by omega), List.getElem?_append_right (by rw [List.length_map]; omega), List.length_map, mskL_get]
  cases hB : l[i - h.length]? with
  | none => rfl
  | some B =>
   have hlt := (List.getElem?_eq_some_iff.1 hB).1
   simp only [Option.map_some, Option.some.injEq, show h.length + (0 + (i - h.length)) = i by omega]
   by_cases hm : i ∈ ws
   ·rw [if_pos hm, if_pos (memN_iff.2 hm)]
   ·rw [if_neg hm, if_neg (fun q => hm (memN_iff.1 q))]
    by_cases hq : qOk (h.length + c) 0 0 anc past i = true
    ·rw [if_pos hq, if_pos]
     exact List.mem_filter.2 ⟨List.mem_range.2 (by omega), hq⟩
    ·rw [if_neg hq, if_neg]
     exact fun q => hq (List.mem_filter.1 q).2
theorem merge_any (ws : List Nat) (G l : List AB) (hw : (ws.all fun id => decide (h.length ≤ id)) = true) : mergeB ws (h.map AB.freeze ++ G) 0 (h ++ l) = h ++ mrgL h.length ws 0 G l := by
 have h1 : ∀ j, j < h.length → j ∉ ws := fun j hj hm => by
  have := List.all_eq_true.1 hw j hm
  simp only [decide_eq_true_eq] at this
  omega
 refine List.ext_getElem? fun i => ?_
 rw [mergeB_get, Nat.zero_add]
 by_cases hi : i < h.length
 ·rw [if_pos (by rw [List.length_append]; omega), if_neg (h1 i hi), List.getElem?_append_left hi, List.getElem?_append_left hi]
 ·have g1 : (h.map AB.freeze ++ G)[i]? = G[i - h.length]? := by rw [List.getElem?_append_right (by rw [List.length_map]; omega), List.length_map]
  rw [g1, List.getElem?_append_right (by omega), List.getElem?_append_right (by omega), mrgL_get, List.length_append, show h.length + (0 + (i - h.length)) = i by omega]
  by_cases hl : i - h.length < l.length
  ·rw [if_pos hl, if_pos (by omega)]
  ·rw [if_neg hl, if_neg (by omega)]
theorem HOk_ownP (hp : h.length = p) (hh : HOk h) (l : List AB) : HOk (h ++ l) = ((l.all fun B => B.ok (fun i => decide (i < p + l.length))) = true) := by subst hp; exact HOk_own hh l
def bx2 (h : List AB) (id : Nat) (v d : AV) : List AB := h.set id (.blk false true [v, d])
theorem bx2_len (id : Nat) (v d : AV) : (bx2 h id v d).length = h.length := List.length_set
theorem bx2_get {id : Nat} (hid : id < h.length) (v d : AV) (x : List AB) : (bx2 h id v d ++ x)[id]? = some (.blk false true [v, d]) := by
 rw [List.getElem?_append_left (by rw [bx2_len]; exact hid)]
 unfold bx2
 rw [List.getElem?_set_self hid]
theorem bx2_same {id : Nat} {v d : AV} (hb : h[id]? = some (.blk false true [v, d])) : bx2 h id v d = h := by
 unfold bx2
 refine List.ext_getElem? fun i => ?_
 rw [List.getElem?_set]
 split
 ·rename_i e
  subst e
  first | rw [if_pos (List.getElem?_eq_some_iff.1 hb).1, hb] | rw [hb]
 ·rfl
theorem bx2_ok {id : Nat} (hid : id < h.length) (hh : HOk h) {v d : AV} (hv : v.ok (fun i => decide (i < h.length)) = true) (hd : d.ok (fun i => decide (i < h.length)) = true) : HOk (bx2 h id v d) := by
 intro i B hB
 rw [bx2_len]
 unfold bx2 at hB
 rw [List.getElem?_set] at hB
 split at hB
 ·rename_i e
  subst e
  first | rw [if_pos hid] at hB | skip
  cases hB
  simp [AB.ok, okL, hv, hd]
 ·exact hh i B hB
theorem bx2_fx {id : Nat} (hid : id < h.length) : (∀ v d x, ldV (bx2 h id v d ++ x) none (.p id 0) = some v) ∧ (∀ v d x, ldV (bx2 h id v d ++ x) none (.p id 1) = some d) ∧ (∀ v d x, ldV (bx2 h id v d ++ x) (some 2) (.p id 0) = some (.ag [v, d])) ∧
  (∀ v d x w, stV (bx2 h id v d ++ x) none (.p id 0) w = if w.one = true then some (bx2 h id w d ++ x) else none) ∧ (∀ v d x w, stV (bx2 h id v d ++ x) none (.p id 1) w = if w.one = true then some (bx2 h id v w ++ x) else none) ∧
  (∀ c lo hi anc past, qOk (h.length + c) lo hi anc past id = true) ∧ (∀ c, (id < h.length + c) = True) ∧ (id < h.length) = True ∧ (∀ v d, (bx2 h id v d).length = h.length) ∧ (∀ c, (h.length + c = id) = False) ∧ (h.length ≤ id) = False := by
 have rd : ∀ v d x, rdBlk (bx2 h id v d ++ x) id = some [v, d] := fun v d x => by
  unfold rdBlk
  rw [bx2_get hid]
 have st : ∀ v d x (o : Nat) w (ho : o < 2), stV (bx2 h id v d ++ x) none (.p id o) w = if w.one = true then some ((h.set id (.blk false true (over [v, d] o [w]))) ++ x) else none := fun v d x o w ho => by
  simp only [stV, stB, bx2_get hid]
  have e1 : o + [w].length ≤ [v, d].length := by simp; omega
  by_cases hw : w.one = true
  ·have e2 : [w].all (wrOk false) = true := by simp [wrOk, hw]
   rw [if_pos hw, if_pos ⟨e1, e2⟩, if_pos hw]
   congr 1
   rw [List.set_append_left _ _ (by rw [bx2_len]; exact hid)]
   unfold bx2
   rw [List.set_set]
  ·rw [if_neg hw, if_neg hw]
 refine ⟨fun v d x => ?_, fun v d x => ?_, fun v d x => ?_, fun v d x w => ?_, fun v d x w => ?_, fun c lo hi anc past => qOk_lt (by omega), fun c => eq_true (by omega), eq_true hid, fun v d => bx2_len id v d, fun c => eq_false (by omega), eq_false (by omega)⟩
 ·simp only [ldV, rd, Option.bind_some]; rfl
 ·simp only [ldV, rd, Option.bind_some]; rfl
 ·simp only [ldV, rd, Option.bind_some]; rfl
 ·rw [st v d x 0 w (by decide)]; rfl
 ·rw [st v d x 1 w (by decide)]; rfl
theorem mask_box (hp : h.length = p) {id : Nat} (hid : id < h.length) (v d : AV) (c anc n : Nat) (past : List Pt) (l : List AB) (hn : n = p + l.length) : maskB (seen (p + c) anc past n) [id] 0 (bx2 h id v d ++ l) = bx2 (h.map AB.freeze) id v d ++ mskL p c anc past [id] 0 l := by
 subst hp
 refine List.ext_getElem? fun i => ?_
 rw [maskB_get, Nat.zero_add]
 by_cases hi : i < h.length
 ·rw [List.getElem?_append_left (by rw [bx2_len]; exact hi), List.getElem?_append_left (by rw [bx2_len, List.length_map]; exact hi)]
  unfold bx2
  by_cases e : i = id
  ·subst e
   rw [List.getElem?_set_self hi, List.getElem?_set_self (by rw [List.length_map]; exact hi), Option.map_some, if_pos (List.mem_singleton.2 rfl)]
  ·rw [List.getElem?_set_ne (Ne.symm e), List.getElem?_set_ne (Ne.symm e), List.getElem?_map, List.getElem?_eq_getElem hi, Option.map_some, Option.map_some, if_neg (by simpa using e), if_pos]
   exact List.mem_filter.2 ⟨List.mem_range.2 (by omega), qOk_lt (by omega)⟩
 ·have hne : i ≠ id := by omega
  have g1 : (bx2 h id v d ++ l)[i]? = l[i - h.length]? := by rw [List.getElem?_append_right (by rw [bx2_len]; omega), bx2_len]
  have g2 : (bx2 (h.map AB.freeze) id v d ++ mskL h.length c anc past [id] 0 l)[i]? = (mskL h.length c anc past [id] 0 l)[i - h.length]? := by rw [List.getElem?_append_right (by rw [bx2_len, List.length_map]; omega), bx2_len, List.length_map]
  rw [g1, g2, mskL_get]
  cases hB : l[i - h.length]? with
  | none => rfl
  | some B =>
   have hlt := (List.getElem?_eq_some_iff.1 hB).1
   simp only [Option.map_some, Option.some.injEq, show h.length + (0 + (i - h.length)) = i by omega]
   rw [if_neg (by simpa using hne), if_neg (show ¬ memN i [id] = true by rw [memN_iff]; simpa using hne)]
   by_cases hq : qOk (h.length + c) 0 0 anc past i = true
   ·rw [if_pos hq, if_pos]
    exact List.mem_filter.2 ⟨List.mem_range.2 (by omega), hq⟩
   ·rw [if_neg hq, if_neg]
    exact fun q => hq (List.mem_filter.1 q).2
theorem merge_box {id : Nat} (hid : id < h.length) (v d v' d' : AV) (G l : List AB) : mergeB [id] (bx2 (h.map AB.freeze) id v' d' ++ G) 0 (bx2 h id v d ++ l) = bx2 h id v' d' ++ mrgL h.length [id] 0 G l := by
 refine List.ext_getElem? fun i => ?_
 rw [mergeB_get, Nat.zero_add]
 by_cases hi : i < h.length
 ·have g1 : (bx2 h id v d ++ l)[i]? = (bx2 h id v d)[i]? := List.getElem?_append_left (by rw [bx2_len]; exact hi)
  have g2 : (bx2 (h.map AB.freeze) id v' d' ++ G)[i]? = (bx2 (h.map AB.freeze) id v' d')[i]? := List.getElem?_append_left (by rw [bx2_len, List.length_map]; exact hi)
  have g3 : (bx2 h id v' d' ++ mrgL h.length [id] 0 G l)[i]? = (bx2 h id v' d')[i]? := List.getElem?_append_left (by rw [bx2_len]; exact hi)
  rw [if_pos (by rw [List.length_append, bx2_len]; omega), g1, g2, g3]
  unfold bx2
  by_cases e : i = id
  ·subst e
   rw [if_pos (List.mem_singleton.2 rfl), List.getElem?_set_self (by rw [List.length_map]; exact hi), List.getElem?_set_self hi]
   rfl
  ·rw [if_neg (by simpa using e), List.getElem?_set_ne (Ne.symm e), List.getElem?_set_ne (Ne.symm e)]
 ·have hne : i ≠ id := by omega
  have g1 : (bx2 h id v d ++ l)[i]? = l[i - h.length]? := by rw [List.getElem?_append_right (by rw [bx2_len]; omega), bx2_len]
  have g2 : (bx2 (h.map AB.freeze) id v' d' ++ G)[i]? = G[i - h.length]? := by rw [List.getElem?_append_right (by rw [bx2_len, List.length_map]; omega), bx2_len, List.length_map]
  have g3 : (bx2 h id v' d' ++ mrgL h.length [id] 0 G l)[i]? = (mrgL h.length [id] 0 G l)[i - h.length]? := by rw [List.getElem?_append_right (by rw [bx2_len]; omega), bx2_len]
  rw [g1, g2, g3, mrgL_get, List.length_append, bx2_len]
  by_cases hl : i - h.length < l.length
  ·rw [if_pos hl, if_pos (by omega), if_neg (by simpa using hne), if_neg (show ¬ h.length + (0 + (i - h.length)) ∈ [id] by rw [List.mem_singleton]; omega)]
  ·rw [if_neg hl, if_neg (by omega)]
theorem getD_box {id : Nat} (hid : id < h.length) (v d : AV) (G : List AB) : (bx2 h id v d ++ G).getD id .dead = .blk false true [v, d] := by
 rw [List.getD_eq_getElem?_getD, bx2_get hid]
 rfl
theorem bx2_app_len (id : Nat) (v d : AV) (l : List AB) : (bx2 h id v d ++ l).length = h.length + l.length := by rw [List.length_append, bx2_len]
theorem bx2_drop (id : Nat) (v d : AV) (l : List AB) (n : Nat) : (bx2 h id v d ++ l).drop (h.length + n) = l.drop n := drop_ownP (bx2_len id v d) l n
theorem HOk_bx {id : Nat} (hid : id < h.length) (hh : HOk h) (v d : AV) (x : List AB) : HOk (bx2 h id v d ++ x) = ((okL (fun i => decide (i < h.length + x.length)) [v, d] && x.all fun B => B.ok (fun i => decide (i < h.length + x.length))) = true) := by
 refine propext ⟨fun q => ?_, fun q i B hB => ?_⟩
 ·rw [Bool.and_eq_true]
  refine ⟨?_, List.all_eq_true.2 fun B hB => ?_⟩
  ·have := q id _ (bx2_get hid v d x)
   rw [bx2_app_len] at this
   exact this
  ·obtain ⟨j, hj⟩ := List.mem_iff_getElem?.1 hB
   have := q (h.length + j) B (by rw [List.getElem?_append_right (by rw [bx2_len]; omega), bx2_len, Nat.add_sub_cancel_left]; exact hj)
   rw [bx2_app_len] at this
   exact this
 ·rw [Bool.and_eq_true] at q
  rw [bx2_app_len]
  rw [List.getElem?_append] at hB
  split at hB
  ·unfold bx2 at hB
   rw [List.getElem?_set] at hB
   split at hB
   ·rename_i e
    subst e
    first | rw [if_pos hid] at hB | skip
    cases hB
    exact q.1
   ·exact AB.ok_mono (fun i hi => by simp only [decide_eq_true_eq] at hi ⊢; omega) B (hh i B hB)
  ·exact List.all_eq_true.1 q.2 B (List.mem_of_getElem? hB)
theorem Bt.selB {P : Program} {h l l' : List AB} {fr fr' : List AV} {id : Nat} {V D V' D' : AV} (hid : id < h.length) (sel : List Nat) (hh : HOk h) (hbx : BWk (fun i => decide (i < h.length + sel.length)) (selN h.length sel) (.blk false true [V', D']) (.blk false true [V, D])) (hnd : sel.Nodup) (hb : BlkSel h.length sel sel.length l sel l') (hfr : FrSel h.length sel sel.length fr fr') : Bt P h.length fr (bx2 h id V D ++ l) fr' (bx2 h id V' D' ++ l') := by
 intro ρ w cs hp r v
 obtain ⟨b1, b2⟩ := hb.get
 obtain ⟨f1, f2⟩ := hfr.get
 have hlt : ∀ (i k : Nat), sel[i]? = some k → k < l.length := fun i k hk => by
  have hi : i < l'.length := by rw [b1]; exact (List.getElem?_eq_some_iff.1 hk).1
  obtain ⟨k', B, q1, q2, _⟩ := b2 i l'[i] (List.getElem?_eq_getElem hi)
  rw [hk] at q1
  cases q1
  exact (List.getElem?_eq_some_iff.1 q2).1
 have hρ := r.len
 rw [List.length_append, bx2_len] at hρ
 let ρ' : Mp := ρ.take h.length ++ sel.map fun k => ρ.getD (h.length + k) (0, 0, 0)
 have old : ∀ i, i < h.length → ρ'[i]? = ρ[i]? := fun i hi => by
  simp only [ρ']
  rw [List.getElem?_append_left (by rw [List.length_take]; omega), List.getElem?_take, if_pos hi]
 have new : ∀ i k, sel[i]? = some k → ρ'[h.length + i]? = ρ[h.length + k]? := fun i k hk => by
  have := hlt i k hk
  simp only [ρ']
  rw [List.getElem?_append_right (by rw [List.length_take]; omega), List.length_take, show h.length + i - min h.length ρ.length = i by omega, List.getElem?_map, hk, Option.map_some, List.getD_eq_getElem?_getD, List.getElem?_eq_getElem (by omega : h.length + k < ρ.length)]
  rfl
 have hq : ∀ i, (fun i => decide (i < h.length + sel.length)) i = true → ρ'[i]? = ρ[selN h.length sel i]? := fun i hi => by
  by_cases h1 : i < h.length
  ·rw [selN_old h1, old i h1]
  ·obtain ⟨k, rfl⟩ : ∃ k, i = h.length + k := ⟨i - h.length, by omega⟩
   have hk : k < sel.length := by simp only [decide_eq_true_eq] at hi; omega
   rw [selN_new, List.getD_eq_getElem?_getD, List.getElem?_eq_getElem hk]
   exact new k _ (List.getElem?_eq_getElem hk)
 have gl : ∀ (V D : AV) (l : List AB) (i : Nat), i < h.length → (bx2 h id V D ++ l)[i]? = if i = id then some (.blk false true [V, D]) else h[i]? := fun V D l i hi => by
  rw [List.getElem?_append_left (by rw [bx2_len]; exact hi)]
  unfold bx2
  split
  ·rename_i e; subst e; rw [List.getElem?_set_self hi]
  ·rename_i e; rw [List.getElem?_set_ne (Ne.symm e)]
 have gr : ∀ (V D : AV) (l : List AB) (i : Nat), (bx2 h id V D ++ l)[h.length + i]? = l[i]? := fun V D l i => by
  rw [List.getElem?_append_right (by rw [bx2_len]; omega), bx2_len, Nat.add_sub_cancel_left]
 have cls : ∀ (i : Nat) B', (bx2 h id V' D' ++ l')[i]? = some B' → (i < h.length ∧ i ≠ id ∧ h[i]? = some B' ∧ (bx2 h id V D ++ l)[i]? = some B') ∨ (∃ j B, ((i = id ∧ j = id) ∨ ∃ i' k, i = h.length + i' ∧ sel[i']? = some k ∧ j = h.length + k) ∧ (bx2 h id V D ++ l)[j]? = some B ∧ ρ'[i]? = ρ[j]? ∧ BWk (fun i => decide (i < h.length + sel.length)) (selN h.length sel) B' B) := fun i B' hB => by
  by_cases hi : i < h.length
  ·by_cases e : i = id
   ·subst e
    rw [gl _ _ _ _ hi, if_pos rfl] at hB
    cases hB
    exact .inr ⟨i, .blk false true [V, D], .inl ⟨rfl, rfl⟩, by rw [gl _ _ _ _ hi, if_pos rfl], old i hi, hbx⟩
   ·rw [gl _ _ _ _ hi, if_neg e] at hB
    exact .inl ⟨hi, e, hB, by rw [gl _ _ _ _ hi, if_neg e]; exact hB⟩
  ·obtain ⟨i', rfl⟩ : ∃ k, i = h.length + k := ⟨i - h.length, by omega⟩
   rw [gr] at hB
   obtain ⟨k, B, q1, q2, q3⟩ := b2 _ B' hB
   exact .inr ⟨h.length + k, B, .inr ⟨i', k, rfl, q1, rfl⟩, by rw [gr]; exact q2, new i' k q1, q3⟩
 have up : ∀ (i : Nat) B' x, (bx2 h id V' D' ++ l')[i]? = some B' → ρ'[i]? = some x → ∃ j B, (bx2 h id V D ++ l)[j]? = some B ∧ ρ[j]? = some x ∧ (B'.mut = true → B.mut = true) ∧ (B'.live = true → B.live = true) ∧ ((i < h.length ∧ j = i) ∨ (∃ i' k, i = h.length + i' ∧ sel[i']? = some k ∧ j = h.length + k)) := fun i B' x hB hx => by
  rcases cls i B' hB with ⟨hi, e, q, q'⟩ | ⟨j, B, q0, q2, q4, q3⟩
  ·exact ⟨i, B', q', by rw [← old i hi]; exact hx, _root_.id, _root_.id, .inl ⟨hi, rfl⟩⟩
  ·refine ⟨j, B, q2, by rw [← q4]; exact hx, q3.mut, q3.live, ?_⟩
   rcases q0 with ⟨e1, e2⟩ | ⟨i', k, e1, e2, e3⟩
   ·exact .inl ⟨by omega, by omega⟩
   ·exact .inr ⟨i', k, e1, e2, e3⟩
 refine ⟨by rw [List.length_append, bx2_len]; omega, ρ', ⟨f1.trans v.1, fun j a' c ha hc => ?_⟩, ⟨?_, fun i B' b o n hB hx => ?_, fun i j bi oi bj oj Bi Bj hne h1 h2 h3 h4 hm hl => ?_⟩, fun b ⟨i, B', o, h1, h2, h3⟩ => ?_, fun i b ⟨B', o, h1, h2, h3⟩ => ?_, fun i hi => ?_⟩
 ·rcases f2 j a' ha with rfl | ⟨q1, a, q2, q3⟩
  ·exact .top c
  ·exact VR.ren_down hq a' q1 c (q3 ρ c (v.2 j a c q2 hc))
 ·simp only [ρ', List.length_append, List.length_take, List.length_map, b1, bx2_len]
  omega
 ·rcases cls i B' hB with ⟨hi, e, q, q'⟩ | ⟨j, B, q0, q2, q4, q3⟩
  ·have := r.blk i B' b o n q' (by rw [← old i hi]; exact hx)
   exact this.agree (q := fun i => decide (i < h.length)) (fun i hi => old i (by simpa using hi)) (hh i B' q) (fun _ => rfl)
  ·exact q3.br hq (r.blk j B b o n q2 (by rw [← q4]; exact hx))
 ·obtain ⟨i', Ci, u1, u2, u3, _, u5⟩ := up i Bi _ h1 h3
  obtain ⟨j', Cj, z1, z2, _, z4, z5⟩ := up j Bj _ h2 h4
  refine r.sep i' j' bi oi bj oj Ci Cj (fun e => hne ?_) u1 z1 u2 z2 (u3 hm) (z4 hl)
  subst e
  rcases u5 with ⟨x1, x2⟩ | ⟨s, k, x1, x2, x3⟩ <;> rcases z5 with ⟨y1, y2⟩ | ⟨t, m, y1, y2, y3⟩
  ·omega
  ·omega
  ·omega
  ·have : k = m := by omega
   subst this
   have := (List.getElem?_inj (List.getElem?_eq_some_iff.1 x2).1 hnd).1 (x2.trans y2.symm)
   omega
 ·obtain ⟨j, B, q1, q2, q3, _, _⟩ := up i B' _ h1 h3
  exact ⟨j, B, o, q1, q3 h2, q2⟩
 ·obtain ⟨j, B, q1, q2, _, q4, q5⟩ := up i B' _ h1 h3
  refine ⟨j, ⟨B, o, q1, q4 h2, q2⟩, fun hi => ?_, fun hi => ?_⟩
  ·rcases q5 with ⟨_, x⟩ | ⟨s, k, x, y, z⟩
   ·exact x
   ·omega
  ·rcases q5 with ⟨x, _⟩ | ⟨s, k, z, y, x⟩
   ·omega
   ·omega
 ·exact old i hi
theorem Rd.bx2 {α : Type} {r : Row α} {s : AV} {l : List α} (e : Rd r h s l) {id : Nat} {v0 d0 : AV} (hb : h[id]? = some (.blk false true [v0, d0])) (hv : v0.isSl = true) (hd : d0.isSl = true) (hr : ∀ x : α, ∀ c ∈ r.f x, c.isSl = false) (v d : AV) : Rd r (bx2 h id v d) s l := by
 refine ⟨?_, e.2⟩
 by_cases h0 : l.length = 0
 ·have h1 := e.1
  have hl := rdS_len h1
  have h2 : l = [] := List.length_eq_zero_iff.1 h0
  subst h2
  cases s with
  | sl id' off len cap k =>
   simp only [lenV, List.length_nil, Option.some.injEq] at hl
   have : len = 0 := by simpa using hl
   subst this
   rfl
  | ns => rfl
  | se => rfl
  | _ => cases h1
 ·obtain ⟨id', off, cap, k, xs, rfl, h1, h2, h3⟩ := e.blk 0 (by omega)
  have hne : id' ≠ id := by
   rintro rfl
   unfold rdBlk at h1
   rw [hb] at h1
   cases h1
   have hp := r.pos
   have hlt : 0 < l.length * r.sz := Nat.mul_pos (by omega) hp
   simp only [List.length_cons, List.length_nil] at h2
   have g := r.cells_get l 0 0 (by omega) hp
   rw [← h3, Nat.zero_mul, Nat.zero_add, List.getElem?_take, if_pos hlt, List.getElem?_drop, Nat.add_zero] at g
   obtain ⟨c, hc⟩ : ∃ c, [v0, d0][off]? = some c := ⟨_, List.getElem?_eq_getElem (by simp; omega)⟩
   rw [hc] at g
   have hm : c ∈ r.f (l.getD 0 r.d) := List.mem_of_getElem? g.symm
   have hf := hr _ c hm
   have : c.isSl = true := by
    rcases List.mem_cons.1 (List.mem_of_getElem? hc) with rfl | hc'
    ·exact hv
    ·rcases List.mem_cons.1 hc' with rfl | hc''
     ·exact hd
     ·simp at hc''
   rw [this] at hf
   cases hf
  have hr' : rdBlk (h.set id (.blk false true [v, d])) id' = rdBlk h id' := by
   unfold rdBlk
   rw [List.getElem?_set_ne (Ne.symm hne)]
  have h4 := e.1
  simp only [rdS, Go.Proofs.YtcncpbcbedfakaaGreat.bx2, hr'] at h4 ⊢
  exact h4
theorem int_sl (x : Int) : ∀ c ∈ intR.f x, c.isSl = false := by
 intro c hc
 simp only [intR_f, List.mem_singleton] at hc
 subst hc
 rfl
theorem dot_sl (x : Int × Int) : ∀ c ∈ dotR.f x, c.isSl = false := by
 intro c hc
 simp only [dotR_f, List.mem_cons, List.not_mem_nil, or_false] at hc
 rcases hc with rfl | rfl <;> rfl
theorem Rd.fxB {α : Type} {r : Row α} {b : List AB} {s : AV} {l : List α} (e : Rd r b s l) {sz : Nat} (hz : r.sz = sz) : (∀ x n j, n < l.length → j < sz → ldV (b ++ x) none (elP sz s n j) = (r.f (l.getD n r.d))[j]?) ∧ (∀ x n, n < l.length → ldV (b ++ x) (some sz) (elP sz s n 0) = some (.ag (r.f (l.getD n r.d)))) ∧ (∀ x, getS r (b ++ x) s = some l) ∧ (∀ x, getS r (b.map AB.freeze ++ x) s = some l) := by
 subst hz
 exact ⟨fun x n j h1 h2 => (e.app x).ld n j h1 h2, fun x n h1 => (e.app x).lda n h1, fun x => (e.app x).get, fun x => (e.frz.app x).get⟩
end
end Go.Proofs.YtcncpbcbedfakaaGreat
end
section
namespace Go.Proofs.YtcncpbcbedfakaaGreat
open Go.RowKit
def AV.val : AV → Value
 | .b t => .bool t
 | .i k n => .int k n
 | .s l => .string ⟨l.toArray⟩
 | _ => undef
def AV.fl : AV → Bool
 | .b _ | .i _ _ | .s _ => true
 | _ => false
theorem vr_val (ρ : Mp) {a : AV} (h : a.fl = true) : VR ρ a a.val := by
 cases a <;> first | (cases h; done) | skip
 ·exact .b _
 ·exact .i _ _
 ·exact .s _ _ rfl
theorem val_vr {ρ : Mp} {a : AV} {v : Value} (h : a.fl = true) (e : VR ρ a v) : v = a.val := by
 cases a <;> first | (cases h; done) | skip
 ·cases e; rfl
 ·cases e; rfl
 ·cases e with
  | s l bs hb => subst hb; rfl
theorem vl_val (ρ : Mp) : ∀ (l : List AV), (∀ a ∈ l, a.fl = true) → VL ρ l (l.map AV.val).toArray
 | [], _ => VL.nil ρ
 | a :: l, h => VL.cons (vr_val ρ (h a (.head _))) (vl_val ρ l fun b hb => h b (.tail _ hb))
theorem vr_ag {ρ : Mp} {l : List AV} {cs : Array Value} (h : VL ρ l cs) : VR ρ (.ag l) (.agg cs) := .ag l cs h.1 h.2
structure In (K : Code → CC → Prop) (ρ : Mp) (h : List AB) (w : World) : Prop where
 rel : Rel K ρ h w
 frz : ∀ B ∈ h, B.mut = false
variable {K : Code → CC → Prop} {ρ : Mp} {h : List AB} {w : World}
theorem In.nil (w : World) : In K [] [] w := ⟨⟨rfl, fun i B b o n h => by simp at h, fun i j bi oi bj oj Bi Bj _ h => by simp at h⟩, fun B h => by simp at h⟩
theorem In.push (r : In K ρ h w) {B : AB} {b o n : Nat} (hm : B.mut = false) (hB : BR K (ρ ++ [(b, o, n)]) w b o n B) : In K (ρ ++ [(b, o, n)]) (h ++ [B]) w := by
 have hf : ∀ C ∈ h ++ [B], C.mut = false := fun C hC => by
  rcases List.mem_append.1 hC with q | q
  ·exact r.frz C q
  ·rw [List.mem_singleton.1 q]; exact hm
 refine ⟨⟨by simp [r.rel.len], fun i C b' o' n' h1 h2 => ?_, fun i j bi oi bj oj Bi Bj _ h1 _ _ _ hm' _ => ?_⟩, hf⟩
 ·by_cases hi : i < h.length
  ·rw [List.getElem?_append_left hi] at h1
   rw [List.getElem?_append_left (by rw [r.rel.len]; exact hi)] at h2
   exact (r.rel.blk i C b' o' n' h1 h2).same (Ext.push _ _) fun _ => rfl
  ·have hlt := (List.getElem?_eq_some_iff.1 h1).1
   rw [List.length_append, List.length_singleton] at hlt
   have : i = h.length := by omega
   subst this
   rw [List.getElem?_append_right (Nat.le_refl _), Nat.sub_self] at h1
   rw [List.getElem?_append_right (by rw [r.rel.len]; exact Nat.le_refl _), r.rel.len, Nat.sub_self] at h2
   cases h1
   cases h2
   exact hB
 ·rw [hf Bi (List.mem_of_getElem? h1)] at hm'
  cases hm'
theorem In.slice {α : Type} {r : Row α} (i : In K ρ h w) {v : Value} {l : List α} (hfl : ∀ x, ∀ a ∈ r.f x, a.fl = true) (hs : Sl w v l.length ((r.cells l).map AV.val)) :
  l.length ≤ maxLen ∧ ∃ x, In K (ρ ++ [x]) (h ++ [resB r false l]) w ∧ VR (ρ ++ [x]) (rsl r h.length l) v := by
 have hrl := i.rel.len
 by_cases h0 : l.length = 0
 ·have : l = [] := List.eq_nil_of_length_eq_zero h0
  subst this
  refine ⟨Nat.zero_le _, (0, 0, 0), i.push (by simp [resB, AB.mut]) (by simp [resB, BR]), ?_⟩
  simp only [rsl, List.length_nil, if_true]
  rcases hs with ⟨⟨a, rfl⟩, _, _⟩ | ⟨b, off, cap, rfl, _, hc, _⟩
  ·exact .sz _ _ _ _ (Nat.zero_le _) fun _ => rfl
  ·exact .sz _ _ _ _ hc fun q => by cases q
 ·rcases hs with ⟨_, q, _⟩ | ⟨b, off, cap, rfl, hlc, hc, hcells⟩
  ·exact absurd q h0
  ·have hlen : (r.cells l).length = l.length * r.sz := r.cells_len l
   have hpos : 0 < l.length * r.sz := Nat.mul_pos (by omega) r.pos
   have hall : ∀ a ∈ r.cells l, a.fl = true := fun a ha => by
    obtain ⟨x, _, hx⟩ := List.mem_flatMap.1 ha
    exact hfl x a hx
   have hat : ∀ k (hk : k < (r.cells l).length), w.cell? ⟨b, off + k, none⟩ = some ((r.cells l)[k]).val := fun k hk => hcells k _ (by rw [List.getElem?_map, List.getElem?_eq_getElem hk]; rfl)
   obtain ⟨cs, e, fz, hb⟩ : ∃ cs e fz, w.heap[b]? = some (.cells cs e fz) := by
    have := hat 0 (by omega)
    unfold World.cell? at this
    split at this
    ·rename_i c e fz hb
     exact ⟨c, e, fz, hb⟩
    ·cases this
   have hat' : ∀ k (hk : k < (r.cells l).length), cs[off + k]? = some ((r.cells l)[k]).val := fun k hk => by
    have := hat k hk
    unfold World.cell? at this
    rw [hb] at this
    simpa using this
   refine ⟨by omega, (b, off, off + cap * r.sz), i.push (by simp [resB, h0, AB.mut]) ?_, ?_⟩
   ·simp only [resB, if_neg h0, BR]
    refine ⟨cs, e, fz, hb, (fun q => by cases q), ?_, fun k a c ha hc' => ?_⟩
    ·have := (Array.getElem?_eq_some_iff.1 (hat' ((r.cells l).length - 1) (by omega))).1
     omega
    ·have hk := (List.getElem?_eq_some_iff.1 ha).1
     rw [hat' k hk] at hc'
     have : a = (r.cells l)[k] := (List.getElem?_eq_some_iff.1 ha).2.symm
     subst this
     cases hc'
     exact vr_val _ (hall _ (List.getElem_mem hk))
   ·simp only [rsl, if_neg h0]
    exact .sl h.length 0 l.length l.length (some r.sz) b off (off + cap * r.sz) cap (by rw [← hrl, List.getElem?_append_right (Nat.le_refl _), Nat.sub_self]; rfl) (Nat.le_refl _) hlc hc (fun q => by cases q) (fun z hz _ => by cases hz; exact Nat.le_refl _)
theorem law_true {P : Program} {g : Nat} {az : List AV} {vals : Array Value} {h' : List AB} (i : In (KC P) ρ h w) (hv : VL ρ az vals) (e : FnC P g az h (.b true) h') : Calls P g vals w (fun e w' => e = .returned (.bool true) ∧ Kept NoS w w') := by
 refine (e.2 ρ w vals i.rel hv).mono ?_
 rintro e w' ⟨v', ρ', rfl, hva, _, heff⟩
 cases hva
 refine ⟨rfl, heff.os, heff.tape, heff.output.1, heff.size, fun b hb _ => heff.keep b hb fun ⟨j, B, o, h1, h2, _⟩ => ?_⟩
 rw [i.frz B (List.mem_of_getElem? h1)] at h2
 cases h2
theorem int_fl (x : Int) : ∀ a ∈ intR.f x, a.fl = true := fun a ha => by simp [intR_f] at ha; subst ha; rfl
theorem dot_fl (x : Int × Int) : ∀ a ∈ dotR.f x, a.fl = true := fun a ha => by simp [dotR_f] at ha; rcases ha with rfl | rfl <;> rfl
end Go.Proofs.YtcncpbcbedfakaaGreat
end
section
namespace Go.Proofs.YtcncpbcbedfakaaGreat
open Go.ChangeShapes Go.WideShapes Go.ChangeAt Go.RowKit
def RdL {α : Type} (R : World → List Value → α → Prop) (size : Nat) (w : World) (v : Value) (ts : List α) : Prop :=
 ∃ cs, Sl w v ts.length cs ∧ cs.length = ts.length * size ∧ ∀ i t, ts[i]? = some t → R w ((cs.drop (i * size)).take size) t
section
variable {H : Type} {enc : TypeId × Value → H} {P : Program} {w : World} {base : Nat} {spare : Nat → Bool} {held : Bool}
theorem mapM_some {α β : Type} (f : α → Option β) : ∀ (l : List α) (r : List β), l.mapM f = some r → ∀ a ∈ l, ∃ b, f a = some b
 | [], _, _, a, ha => by cases ha
 | x :: l, r, h, a, ha => by
  rw [List.mapM_cons] at h
  cases hx : f x with
  | none => simp [hx] at h
  | some b =>
   cases hl : l.mapM f with
   | none => simp [hx, hl] at h
   | some bs =>
    rcases List.mem_cons.1 ha with rfl | ha
    ·exact ⟨b, hx⟩
    ·exact mapM_some f l bs hl a ha
theorem choose_list {α : Type} (R : Nat → α → Prop) : ∀ n, (∀ i, i < n → ∃ t, R i t) → ∃ ts : List α, ts.length = n ∧ ∀ i t, ts[i]? = some t → R i t
 | 0, _ => ⟨[], rfl, fun i t h => by simp at h⟩
 | n + 1, h => by
  obtain ⟨ts, hl, ht⟩ := choose_list R n fun i hi => h i (by omega)
  obtain ⟨t, h1⟩ := h n (by omega)
  refine ⟨ts ++ [t], by simp [hl], fun i u hu => ?_⟩
  by_cases hi : i < n
  ·rw [List.getElem?_append_left (by omega)] at hu
   exact ht i u hu
  ·have hi2 : i = n := by
    have := (List.getElem?_eq_some_iff.1 hu).1
    simp [hl] at this
    omega
   subst hi2
   rw [List.getElem?_append_right (by omega)] at hu
   simp [hl] at hu
   exact hu ▸ h1
theorem slice_open {α : Type} (R : World → List Value → α → Prop) {fuel : Nat} {T e : TypeId} {size : Nat} (hT : P.underlying T = some (.slice e)) (hc : P.cellsOf e = size) (hsz : 0 < size)
  (hR : ∀ cs x, DataW.trod enc P w base (fun _ => true) held fuel e cs = some x → ∃ t, R w cs t) {v : Value} {x : DataW H × List MemPlace}
  (h : DataW.trod enc P w base (fun _ => true) held (fuel + 1) T [v] = some x) : ∃ ts, RdL R size w v ts := by
 cases v with
 | slice a len cap =>
  cases a with
  | none =>
   cases len with
   | zero =>
    cases cap with
    | zero => exact ⟨[], [], .inl ⟨⟨_, rfl⟩, rfl, rfl⟩, by simp, fun i t ht => by simp at ht⟩
    | succ c => simp [DataW.trod, hT] at h
   | succ l => cases cap <;> simp [DataW.trod, hT] at h
  | some a =>
   simp only [DataW.trod, hT, hc] at h
   split at h
   case isFalse => cases h
   case isTrue hcond =>
    obtain ⟨hb, hlc, hcm⟩ := hcond
    obtain ⟨elems, hel, h2⟩ := Option.bind_eq_some_iff.1 h
    simp only [if_true] at h2
    obtain ⟨rest, hrest, _⟩ := Option.map_eq_some_iff.1 h2
    have hel2 : ∀ i, i < len → ∃ cs t, cs.length = size ∧ (∀ j, j < size → w.cell? ((a.add (i * size)).add j) = cs[j]?) ∧ R w cs t := by
     intro i hi
     obtain ⟨y, hy⟩ := mapM_some _ _ _ hel i (List.mem_range.2 hi)
     obtain ⟨cs, hcs, hy2⟩ := Option.bind_eq_some_iff.1 hy
     obtain ⟨_, hl, hcell⟩ := World.cells?_some hcs
     obtain ⟨t, ht⟩ := hR cs y hy2
     exact ⟨cs, t, hl, hcell, ht⟩
    by_cases h0 : cap = 0
    ·subst h0
     have : len = 0 := by omega
     subst this
     exact ⟨[], [], .inl ⟨⟨_, rfl⟩, rfl, rfl⟩, by simp, fun i t ht => by simp at ht⟩
    ·have hspot : a.spot = none := by
      have hfirst : ∃ u, w.cell? a = some u := by
       by_cases hl0 : len = 0
       ·subst hl0
        obtain ⟨y, hy⟩ := mapM_some _ _ _ hrest 0 (List.mem_range.2 (by omega))
        obtain ⟨cs, hcs, _⟩ := Option.bind_eq_some_iff.1 hy
        obtain ⟨_, hl, hcell⟩ := World.cells?_some hcs
        have := hcell 0 hsz
        simp [Addr.add] at this
        exact ⟨cs[0]'(by omega), by rw [this]; exact List.getElem?_eq_getElem (by omega)⟩
       ·obtain ⟨cs, t, hl, hcell, _⟩ := hel2 0 (by omega)
        have := hcell 0 hsz
        simp [Addr.add] at this
        exact ⟨cs[0]'(by omega), by rw [this]; exact List.getElem?_eq_getElem (by omega)⟩
      obtain ⟨u, hu⟩ := hfirst
      unfold World.cell? at hu
      split at hu
      ·split at hu
       ·cases hu
       ·rename_i hs
        simpa using hs
      ·cases hu
     obtain ⟨b, off, sp⟩ := a
     simp only at hspot
     subst hspot
     obtain ⟨g, hg⟩ : ∃ g : Nat → Value, ∀ k, g k = (w.cell? ⟨b, off + k, none⟩).getD undef := ⟨_, fun _ => rfl⟩
     have hlt : ∀ i j, i < len → j < size → i * size + j < len * size := fun i j hi hj => by
      have : (i + 1) * size ≤ len * size := Nat.mul_le_mul_right _ hi
      rw [Nat.add_mul] at this
      omega
     have hpiece : ∀ i, i < len → ∀ cs' : List Value, cs'.length = size → (∀ j, j < size → w.cell? (((⟨b, off, none⟩ : Addr).add (i * size)).add j) = cs'[j]?) → ((((List.range (len * size)).map g).drop (i * size)).take size) = cs' := by
      intro i hi cs' hl hcell
      apply List.ext_getElem?
      intro j
      by_cases hj : j < size
      ·have h1 := hcell j hj
       rw [Addr.add_none, Addr.add_none] at h1
       rw [List.getElem?_take_of_lt hj, List.getElem?_drop, List.getElem?_map, List.getElem?_range (hlt i j hi hj), ← h1]
       rw [Option.map_some, hg, ← Nat.add_assoc, h1, List.getElem?_eq_getElem (by omega)]
       rfl
      ·rw [List.getElem?_eq_none (by rw [List.length_take]; omega), List.getElem?_eq_none (by omega)]
     obtain ⟨ts, htl, hts⟩ := choose_list (fun i t => R w ((((List.range (len * size)).map g).drop (i * size)).take size) t) len fun i hi => by
      obtain ⟨cs, t, hl, hcell, ht⟩ := hel2 i hi
      exact ⟨t, by rw [hpiece i hi cs hl hcell]; exact ht⟩
     refine ⟨ts, (List.range (len * size)).map g, .inr ⟨b, off, cap, by rw [htl], by omega, hcm, fun k u hu => ?_⟩, by simp [htl], hts⟩
     rw [List.getElem?_map] at hu
     obtain ⟨k', hk', rfl⟩ := Option.map_eq_some_iff.1 hu
     have hk : k < len * size := by simpa using (List.getElem?_eq_some_iff.1 hk').1
     rw [List.getElem?_range hk] at hk'
     cases hk'
     have hdiv : k / size < len := (Nat.div_lt_iff_lt_mul hsz).2 hk
     obtain ⟨cs, t, hl, hcell, _⟩ := hel2 (k / size) hdiv
     have h1 := hcell (k % size) (Nat.mod_lt _ hsz)
     rw [Addr.add_none, Addr.add_none, Nat.add_assoc, Nat.mul_comm, Nat.div_add_mod] at h1
     rw [hg, h1, List.getElem?_eq_getElem (by have := Nat.mod_lt k hsz; omega)]
     rfl
 | _ => simp [DataW.trod, hT] at h
theorem struct_open {fuel : Nat} {T : TypeId} {fs : Array Field} (hT : P.underlying T = some (.struct fs)) {cs : List Value} {x : DataW H × List MemPlace}
  (h : DataW.trod enc P w base spare held (fuel + 1) T cs = some x) : cs.length = P.cellsOf T ∧ ∀ f ∈ fs.toList, ∃ y, DataW.trod enc P w base spare held fuel f.type ((cs.drop f.offset).take (P.cellsOf f.type)) = some y := by
 simp only [DataW.trod, hT] at h
 split at h
 ·rename_i hl
  obtain ⟨xs, hxs, _⟩ := Option.map_eq_some_iff.1 h
  exact ⟨hl, fun f hf => mapM_some _ _ _ hxs f hf⟩
 ·cases h
theorem array_open {fuel : Nat} {T e : TypeId} {n : Nat} (hT : P.underlying T = some (.array n e)) {cs : List Value} {x : DataW H × List MemPlace}
  (h : DataW.trod enc P w base spare held (fuel + 1) T cs = some x) : cs.length = P.cellsOf T ∧ ∀ i, i < n → ∃ y, DataW.trod enc P w base spare held fuel e ((cs.drop (i * P.cellsOf e)).take (P.cellsOf e)) = some y := by
 simp only [DataW.trod, hT] at h
 split at h
 ·rename_i hl
  obtain ⟨xs, hxs, _⟩ := Option.map_eq_some_iff.1 h
  exact ⟨hl, fun i hi => mapM_some _ _ _ hxs i (List.mem_range.2 hi)⟩
 ·cases h
theorem leaf_int {fuel : Nat} {T : TypeId} {k : IntKind} (hT : P.underlying T = some (.int k)) {cs : List Value} {x : DataW H × List MemPlace}
  (h : DataW.trod enc P w base spare held fuel T cs = some x) : ∃ n, cs = [.int k n] ∧ (Lit.int k n).wf = true := by
 cases fuel with
 | zero => cases h
 | succ fuel =>
  simp only [DataW.trod, hT] at h
  split at h <;> simp_all
theorem leaf_slice {α : Type} (R : World → List Value → α → Prop) {fuel : Nat} {T e : TypeId} {size : Nat} (hT : P.underlying T = some (.slice e)) (hc : P.cellsOf e = size) (hsz : 0 < size)
  (hR : ∀ fuel cs x, DataW.trod enc P w base (fun _ => true) held fuel e cs = some x → ∃ t, R w cs t) {cs : List Value} {x : DataW H × List MemPlace}
  (h : DataW.trod enc P w base (fun _ => true) held fuel T cs = some x) : ∃ v, cs = [v] ∧ ∃ ts, RdL R size w v ts := by
 cases fuel with
 | zero => cases h
 | succ fuel =>
  have hv : ∃ v, cs = [v] := by
   have h' := h
   simp only [DataW.trod, hT] at h'
   split at h' <;> simp_all
  obtain ⟨v, rfl⟩ := hv
  exact ⟨v, rfl, slice_open R hT hc hsz (fun cs x => hR fuel cs x) h⟩
theorem RdL.one {α : Type} {f : α → Value} {w : World} {v : Value} {ts : List α} (h : RdL (fun _ cs t => cs = [f t]) 1 w v ts) : Sl w v ts.length (ts.map f) := by
 obtain ⟨cs, h1, h2, h3⟩ := h
 have hcs : cs = ts.map f := by
  apply List.ext_getElem?
  intro i
  by_cases hi : i < ts.length
  ·obtain ⟨t, ht⟩ := some_at ts hi
   have := h3 i t ht
   rw [List.getElem?_map, ht, Option.map_some]
   have e : ((cs.drop (i * 1)).take 1)[0]? = some (f t) := by rw [this]; rfl
   rw [List.getElem?_take_of_lt (by omega), List.getElem?_drop] at e
   simpa using e
  ·rw [List.getElem?_eq_none (by omega), List.getElem?_eq_none (by rw [List.length_map]; omega)]
 rw [hcs] at h1
 exact h1
theorem wf_u8 {n : Int} (h : (Lit.int .u8 n).wf = true) : Value.int .u8 n = .int .u8 ((UInt8.ofInt n).toNat : Int) := by
 have hb := bounds_u8 h
 congr 1
 simp only [UInt8.ofInt, UInt8.toNat_ofNat']
 omega
theorem wf_i64 {n : Int} (h : (Lit.int .i64 n).wf = true) : -9223372036854775808 ≤ n ∧ n ≤ 9223372036854775807 := bounds_i64 h
end
end Go.Proofs.YtcncpbcbedfakaaGreat
end
section
namespace Go.Proofs.YtcncpbcbedfakaaGreat
def walkW := (And.intro (And.intro (And.intro (And.intro (And.intro (And.intro (And.intro @W_seq (And.intro @W_reg @W_cond)) (And.intro (And.intro @W_cnd_true @W_cnd_false) (And.intro @W_cnd @W_block))) (And.intro (And.intro @W_blk (And.intro @W_scope @W_exit)) (And.intro (And.intro @W_ret @W_skip) (And.intro @W_nil @W_lpe)))) (And.intro (And.intro (And.intro @Lv_x_blk (And.intro @Lv_x_code @Lv_x_ops)) (And.intro (And.intro @Lv_x_lpe @Lv_x_nil) (And.intro @W_ops_nil @W_ops))) (And.intro (And.intro (And.intro @W_ops_g @W_op) (And.intro @W_op_if @W_op_ifn)) (And.intro (And.intro @W_op_none @W_grd_1) (And.intro @W_grd_0 @W_grd_10))))) (And.intro (And.intro (And.intro (And.intro @W_grd_01 (And.intro @W_grd_u @W_grd_t)) (And.intro (And.intro @W_grd_f @gv_pl) (And.intro @pl_0 @pl_s))) (And.intro (And.intro @put_some (And.intro @put_none @set_0)) (And.intro (And.intro @set_s @ev_t) (And.intro @ev_c @opR_mv)))) (And.intro (And.intro (And.intro @opR_bin (And.intro @opR_un @opR_pick)) (And.intro (And.intro @opR_len @opR_mm) (And.intro @opR_ld @opR_st))) (And.intro (And.intro (And.intro @opR_new @opR_box) (And.intro @opR_bld @opR_bls)) (And.intro (And.intro @opR_iad' @opR_fad') (And.intro @opR_nck @opR_ext)))))) (And.intro (And.intro (And.intro (And.intro (And.intro @opR_eqb (And.intro @opR_eqc @opR_cvi)) (And.intro (And.intro @opR_mkf @opR_sll) (And.intro @opR_app @opR_call))) (And.intro (And.intro @callE_f (And.intro @callE_y @fadV_p)) (And.intro (And.intro @pickV_t @pickV_f) (And.intro @omap_some @omap_if)))) (And.intro (And.intro (And.intro @omap_none (And.intro @obind_some @obind_none)) (And.intro (And.intro @bin_lss @bin_leq) (And.intro @bin_gtr @bin_geq))) (And.intro (And.intro (And.intro @bin_eql @bin_neq) (And.intro @bin_add @bin_sub)) (And.intro (And.intro @mm_max @mm_min) (And.intro @un_not @un_not_t))))) (And.intro (And.intro (And.intro (And.intro @un_not_f (And.intro @Tab.at_nil @Tab.at_cons)) (And.intro (And.intro @map_nil' @map_cons') (And.intro @apL_nil @apL_cons))) (And.intro (And.intro (And.intro @fill_nil @fill_cons) (And.intro @newB_eq @cells_ag)) (And.intro (And.intro @cells_i @cells_b) (And.intro @cells_s @cells_p)))) (And.intro (And.intro (And.intro @cells_sl (And.intro @cells_ns @cells_f)) (And.intro (And.intro @all_nil @all_cons) (And.intro @wrOk_t @wrOk_f))) (And.intro (And.intro (And.intro @one_i @one_b) (And.intro @one_s @one_p)) (And.intro (And.intro @one_sl @one_ns) (And.intro @one_f @flat_i))))))) (And.intro (And.intro (And.intro (And.intro (And.intro (And.intro @flat_b (And.intro @flat_s @flat_ns)) (And.intro (And.intro @ownC_0 @ownC_s) (And.intro @ownW_0 @ownW_s))) (And.intro (And.intro @over_0 (And.intro @over_s @over_c)) (And.intro (And.intro @over_n @take_0) (And.intro @take_s @drop_0)))) (And.intro (And.intro (And.intro @drop_s (And.intro @get_0 @get_s)) (And.intro (And.intro @len_nil @len_cons) (And.intro @len_avnil @len_avcons))) (And.intro (And.intro (And.intro @app_app @nil_app) (And.intro @cons_app @Fin_r)) (And.intro (And.intro @Fin_n @res_0) (And.intro @res_1 @res_2))))) (And.intro (And.intro (And.intro (And.intro @true_and (And.intro @and_true @true_implies)) (And.intro (And.intro @Bool.true_and @Bool.and_true) (And.intro @Bool.false_and @Bool.and_false))) (And.intro (And.intro (And.intro @Nat.lt_add_one @tp_0) (And.intro @tp_s @WkL_nil)) (And.intro (And.intro @WkL_cons @Wk_top) (And.intro @Wk_refl @Int.cast_ofNat_Int)))) (And.intro (And.intro (And.intro @Int.natCast_inj (And.intro @Int.ofNat_lt @Int.ofNat_le)) (And.intro (And.intro @Int.toNat_natCast @Int.natCast_nonneg) (And.intro @not_false_eq_true @not_true_eq_false))) (And.intro (And.intro (And.intro @Bool.false_eq_true @rsl_str) (And.intro @rsl_one @rsl_known)) (And.intro (And.intro @rsl_cells @rsl_len) (And.intro @rsl_fad @resB_fz)))))) (And.intro (And.intro (And.intro (And.intro (And.intro @ownR_0 (And.intro @ownR_s @appV_def)) (And.intro (And.intro @flB_0 @flB_s) (And.intro @appW_e @appW_ns))) (And.intro (And.intro @int_all (And.intro @dot_all @killB_0)) (And.intro (And.intro @killB_s @ownM_0) (And.intro @ownM_s @apS_len)))) (And.intro (And.intro (And.intro @opR_eqn (And.intro @eqNil_ns @eqNil_se)) (And.intro (And.intro @isSl_ns @isSl_se) (And.intro @isSl_sl @xor_f))) (And.intro (And.intro (And.intro @xor_t @xor_00) (And.intro @xor_01 @xor_10)) (And.intro (And.intro @xor_11 @FinO_some) (And.intro @res_c @res_ct))))) (And.intro (And.intro (And.intro (And.intro @known_i (And.intro @known_b @known_s)) (And.intro (And.intro @known_p @known_ns) (And.intro @known_sl @known_f))) (And.intro (And.intro (And.intro @known_ag @getS_litI) (And.intro @chkI_0 @chkI_s)) (And.intro (And.intro @valI_0 @valI_s) (And.intro @set_own @lset_0)))) (And.intro (And.intro (And.intro @lset_s (And.intro @Nat.add_assoc @bxS_own)) (And.intro (And.intro @bxL_0 @bxL_s) (And.intro @rdBlk_app @getS_ns))) (And.intro (And.intro (And.intro @iadV_sl @opR_mks) (And.intro @mksV_i @apS_str)) (And.intro (And.intro @apS_one @apS_known) (And.intro @apS_cells @lenV_ns))))))))
def walkD := (And.intro (And.intro (And.intro (And.intro (And.intro (And.intro (And.intro @W_drw @W_drw_nil) (And.intro @W_drw_op @W_drw_g)) (And.intro (And.intro @W_dgr_1 @W_dgr_0) (And.intro @W_dgr_10 @W_dgr_01))) (And.intro (And.intro (And.intro @W_dgr_u @W_dgr_t) (And.intro @W_dgr_f @W_dop_free)) (And.intro (And.intro @W_dop_ld @W_dop_mem) (And.intro @W_dop_nw @W_dop_call)))) (And.intro (And.intro (And.intro (And.intro @W_dfr @W_dfr_if) (And.intro @W_dld @W_dmkB)) (And.intro (And.intro @bareP_nil @bareP_cons) (And.intro @W_dmk_if @mk_mv))) (And.intro (And.intro (And.intro @mk_pick @mk_bin) (And.intro @mk_eqb @mk_eqc)) (And.intro (And.intro @mk_eqn @mk_un) (And.intro @mk_cvi (And.intro @mk_cvs @mk_fad)))))) (And.intro (And.intro (And.intro (And.intro (And.intro @mk_fld @mk_iad) (And.intro @mk_iaa @mk_ixs)) (And.intro (And.intro @mk_ixa @mk_sls) (And.intro @mk_sll @mk_sla))) (And.intro (And.intro (And.intro @mk_ifc @mk_mkf) (And.intro @mk_ext @mk_len)) (And.intro (And.intro @mk_lnc @mk_mm) (And.intro @mk_nck @mk_tas)))) (And.intro (And.intro (And.intro (And.intro @mk_bld @mk_capo) (And.intro @mk_box @mk_bls)) (And.intro (And.intro @mk_mks @mk_app) (And.intro @mk_cpy @mk_apz))) (And.intro (And.intro (And.intro @mk_b2s @mk_clr) (And.intro @mk_bcmp @mk_st)) (And.intro (And.intro @memN_nil @memN_cons) (And.intro @memN_app (And.intro @memN_seen @qOk_dec))))))) (And.intro (And.intro (And.intro (And.intro (And.intro (And.intro @bit_dec @indepS_dec) (And.intro @ptHas_dec @msk_nil)) (And.intro (And.intro @msk_cons @fz_blk) (And.intro @fz_dead @mrg_nil))) (And.intro (And.intro (And.intro @mrg_cons @getD_0) (And.intro @getD_s @abok_t)) (And.intro (And.intro @abok_f @abok_d) (And.intro @ok_i @ok_b)))) (And.intro (And.intro (And.intro (And.intro @ok_s @ok_ns) (And.intro @ok_np @ok_nf)) (And.intro (And.intro @ok_p @ok_y) (And.intro @ok_sl @ok_f))) (And.intro (And.intro (And.intro @ok_ag @ok_tu) (And.intro @okL_nil @okL_cons)) (And.intro (And.intro @nthA_pl @lt_add) (And.intro @le_add (And.intro @eq_add @lt_zero)))))) (And.intro (And.intro (And.intro (And.intro (And.intro @zero_le' @le_self) (And.intro @any_nil @any_cons)) (And.intro (And.intro @idOf_p @idOf_sl) (And.intro @idOf_ns @wsC_call))) (And.intro (And.intro (And.intro @wsC_st @wsC_app) (And.intro @wsC_new @wsC_box)) (And.intro (And.intro @wsC_bls @wsC_mks) (And.intro @Tab.ws_nil (And.intro @Tab.ws_cons @decide_true))))) (And.intro (And.intro (And.intro (And.intro @decide_false @Bool.or_true) (And.intro @Bool.or_false @Bool.true_or)) (And.intro (And.intro @Bool.false_or @Bool.not_true) (And.intro @Bool.not_false @resB_ok))) (And.intro (And.intro (And.intro @rsl_ok @rsl_okEl) (And.intro @lapp_nil @lapp_cons)) (And.intro (And.intro @fm_nil @fm_cons) (And.intro @abok_lp (And.intro @apS_ok @idOf_rsl))))))))
def walkS := (And.intro (And.intro (And.intro (And.intro (And.intro @BWk_resB @rsl_ren) (And.intro @apS_ren (And.intro @selN_at @selN_at0))) (And.intro (And.intro @nd_0 (And.intro @nd_s @rsl_ok')) (And.intro @Wk_refl (And.intro @Wk_top @get_0)))) (And.intro (And.intro (And.intro @get_s (And.intro @decide_eq_true_eq @Bool.and_eq_true)) (And.intro @Bool.and_true (And.intro @Bool.true_and @Nat.lt_add_right_iff_pos))) (And.intro (And.intro @Nat.lt_add_one (And.intro @Nat.add_lt_add_iff_left @Nat.zero_lt_succ)) (And.intro @or_true (And.intro @true_or @and_true))))) (And.intro (And.intro (And.intro (And.intro @true_and @and_self) (And.intro @Nat.zero_add (And.intro @Nat.add_zero @false_or))) (And.intro (And.intro @BWk_t (And.intro @BWk_f @BWk_d)) (And.intro @BWk_lp (And.intro @WkL_cons @WkL_nil)))) (And.intro (And.intro (And.intro @imp_self (And.intro @intR_sz @dotR_sz)) (And.intro @intR_f (And.intro @dotR_f @decide_true))) (And.intro (And.intro @Bool.or_true (And.intro @pr_eta @apS_nil)) (And.intro @apS_one1 (And.intro @resB_one1 @Nat.lt_irrefl))))))
def walkX := (And.intro (And.intro (And.intro @ld_own @lda_own) (And.intro @st_own (And.intro @sta_own @srcV_own))) (And.intro (And.intro @rsl_get @len_app) (And.intro @drop_own (And.intro @getD_own @merge_own))))
end Go.Proofs.YtcncpbcbedfakaaGreat
end
section
namespace Go.Proofs.YtcncpbcbedfakaaGreat
def walkM := (And.intro (And.intro (And.intro @ld_ownP @lda_ownP) (And.intro @st_ownP (And.intro @sta_ownP @srcV_ownP))) (And.intro (And.intro @rsl_getP (And.intro @len_appP @len_fz)) (And.intro @drop_ownP (And.intro @getD_ownP @merge_any))))
end Go.Proofs.YtcncpbcbedfakaaGreat
end
section
namespace Go.Proofs.YtcncpbcbedfakaaGreat
variable {α : Type} {r : Row α} {h : List AB} {s : AV} {l : List α}
def AV.capOk : AV → Bool
 | .sl _ _ n c _ => decide (n ≤ c)
 | _ => true
theorem rsl_capOk (id : Nat) (l : List α) : (rsl r id l).capOk = true := by
 unfold rsl
 split <;> simp [AV.capOk]
theorem Rd.slc {id off len cap : Nat} {k : Option Nat} (e : Rd r h (.sl id off len cap k) l) (h0 : l.length ≠ 0) : len = l.length ∧ ∃ xs, rdBlk h id = some xs ∧ off + l.length * r.sz ≤ xs.length ∧ (xs.drop off).take (l.length * r.sz) = r.cells l := by
 have e1 := e.1
 have e2 := e.len
 simp only [lenV, Option.some.injEq] at e2
 obtain rfl : len = l.length := by omega
 simp only [rdS, if_neg h0] at e1
 obtain ⟨xs, h1, e1⟩ := Option.bind_eq_some_iff.1 e1
 split at e1
 ·rename_i h2
  simp only [Option.some.injEq, Prod.mk.injEq, true_and] at e1
  exact ⟨rfl, xs, h1, h2, e1⟩
 ·cases e1
theorem Rd.mk_sl {id off n cap : Nat} {k : Option Nat} {xs : List AV} (h1 : rdBlk h id = some xs) (hn : n = l.length) (h2 : off + l.length * r.sz ≤ xs.length) (h3 : (xs.drop off).take (l.length * r.sz) = r.cells l) (hm : l.length ≤ maxLen) : Rd r h (.sl id off n cap k) l := by
 subst hn
 refine ⟨?_, hm⟩
 by_cases h0 : l.length = 0
 ·have : l = [] := List.eq_nil_of_length_eq_zero h0
  subst this
  simp only [rdS, List.length_nil, if_true]
  rfl
 ·simp only [rdS, if_neg h0, h1, Option.bind_some, if_pos h2, h3]
theorem Rd.mk0 {id off cap : Nat} {k : Option Nat} (h0 : l.length = 0) : Rd r h (.sl id off 0 cap k) l := by
 have : l = [] := List.eq_nil_of_length_eq_zero h0
 subst this
 exact ⟨by simp only [rdS, if_true]; rfl, Nat.zero_le _⟩
theorem Rd.takeS (e : Rd r h s l) (hc : s.capOk = true) {i : Nat} (hi : i ≤ l.length) {sz : Nat} (hz : r.sz = sz) : ∃ s', slL sz s none (some (.i .i64 i)) none = some s' ∧ Rd r h s' (l.take i) ∧ ∀ q, s.ok q = true → s'.ok q = true := by
 subst hz
 have hs := e.isSl
 have hl := e.len
 cases s <;> first | (cases hs; done) | skip
 ·rename_i id off len cap k
  simp only [lenV, Option.some.injEq] at hl
  simp only [AV.capOk, decide_eq_true_eq] at hc
  have hb : bnd len cap (some (.i .i64 (i : Int))) = some i := by
   simp only [bnd]
   rw [if_pos (by omega)]
   rfl
  refine ⟨.sl id off i cap k, ?_, ?_, fun q ho => ?_⟩
  ·simp only [slL, hb, Option.bind_some]
   simp only [bnd, Option.map_some, if_true]
  ·by_cases h0 : i = 0
   ·subst h0
    exact Rd.mk0 (by simp)
   ·obtain ⟨-, xs, h1, h2, h3⟩ := e.slc (by omega)
    have hti : (l.take i).length = i := by rw [List.length_take]; omega
    have hmul : i * r.sz ≤ l.length * r.sz := Nat.mul_le_mul_right _ hi
    refine Rd.mk_sl h1 hti.symm (by rw [hti]; omega) ?_ (by have := e.2; omega)
    rw [hti, ← r.cells_take, ← h3, List.take_take, Nat.min_eq_left hmul]
  ·simp only [AV.ok, Bool.or_eq_true, Bool.and_eq_true] at ho ⊢
   refine ho.imp (fun g => ⟨⟨?_, g.1.2⟩, g.2⟩) fun z => z
   have := Nat.eq_of_beq_eq_true g.1.1
   have h0 : i = 0 := by omega
   subst h0
   rfl
 ·simp only [lenV, Option.some.injEq] at hl
  have h0 : i = 0 := by omega
  subst h0
  exact ⟨.se, rfl, ⟨rfl, Nat.zero_le _⟩, fun _ h => h⟩
 ·simp only [lenV, Option.some.injEq] at hl
  have h0 : i = 0 := by omega
  subst h0
  exact ⟨.ns, rfl, ⟨rfl, Nat.zero_le _⟩, fun _ h => h⟩
theorem Rd.dropS (e : Rd r h s l) (hc : s.capOk = true) {i : Nat} (hi : i ≤ l.length) {sz : Nat} (hz : r.sz = sz) : ∃ s', slL sz s (some (.i .i64 i)) none none = some s' ∧ Rd r h s' (l.drop i) ∧ ∀ q, s.ok q = true → s'.ok q = true := by
 subst hz
 have hs := e.isSl
 have hl := e.len
 cases s <;> first | (cases hs; done) | skip
 ·rename_i id off len cap k
  simp only [lenV, Option.some.injEq] at hl
  simp only [AV.capOk, decide_eq_true_eq] at hc
  have hb : bnd 0 len (some (.i .i64 (i : Int))) = some i := by
   simp only [bnd]
   rw [if_pos (by omega)]
   rfl
  have hm := e.2
  by_cases h0 : i = 0
  ·subst h0
   refine ⟨.sl id off len cap k, ?_, by rw [List.drop_zero]; exact e, fun _ h => h⟩
   simp only [slL]
   rw [show bnd len cap none = some len from rfl, Option.bind_some, hb]
   simp only [Option.map_some, if_true]
  ·by_cases h1 : i < cap
   ·refine ⟨.sl id (off + i * r.sz) (len - i) (cap - i) (kcut k r.sz), ?_, ?_, fun q ho => ?_⟩
    ·simp only [slL]
     rw [show bnd len cap none = some len from rfl, Option.bind_some, hb]
     simp only [Option.map_some, if_neg h0, if_pos h1]
    ·by_cases h2 : i = l.length
     ·rw [show len - i = 0 from by omega]
      exact Rd.mk0 (by simp; omega)
     ·obtain ⟨-, xs, g1, g2, g3⟩ := e.slc (by omega)
      have hti : (l.drop i).length = l.length - i := by rw [List.length_drop]
      have hmul : (l.length - i) * r.sz + i * r.sz = l.length * r.sz := by rw [← Nat.add_mul]; congr 1; omega
      refine Rd.mk_sl g1 (by omega) (by rw [hti]; omega) ?_ (by omega)
      rw [hti, ← r.cells_drop, ← g3, List.drop_take, List.drop_drop]
      congr 1
      omega
    ·simp only [AV.ok, Bool.or_eq_true, Bool.and_eq_true] at ho ⊢
     refine .inr (ho.elim (fun g => ?_) fun z => z)
     have := Nat.eq_of_beq_eq_true g.1.2
     omega
   ·have hi2 : i = l.length := by omega
    by_cases hk : k = none
    ·refine ⟨.sl id off 0 0 none, ?_, Rd.mk0 (by simp; omega), fun q ho => ?_⟩
     ·simp only [slL]
      rw [show bnd len cap none = some len from rfl, Option.bind_some, hb]
      simp only [Option.map_some, if_neg h0, if_neg h1, if_pos hk]
     ·subst hk
      simp only [AV.ok, Bool.or_eq_true, Bool.and_eq_true] at ho ⊢
      exact .inr (ho.elim (fun g => absurd g.2 (by simp)) fun z => z)
    ·refine ⟨.se, ?_, ?_, fun q ho => rfl⟩
     ·simp only [slL]
      rw [show bnd len cap none = some len from rfl, Option.bind_some, hb]
      simp only [Option.map_some, if_neg h0, if_neg h1, if_neg hk]
     ·rw [List.drop_eq_nil_of_le (by omega)]
      exact ⟨rfl, Nat.zero_le _⟩
 ·simp only [lenV, Option.some.injEq] at hl
  have h0 : i = 0 := by omega
  subst h0
  exact ⟨.se, rfl, by rw [List.drop_zero]; exact e, fun _ h => h⟩
 ·simp only [lenV, Option.some.injEq] at hl
  have h0 : i = 0 := by omega
  subst h0
  exact ⟨.ns, rfl, by rw [List.drop_zero]; exact e, fun _ h => h⟩
end Go.Proofs.YtcncpbcbedfakaaGreat
end
