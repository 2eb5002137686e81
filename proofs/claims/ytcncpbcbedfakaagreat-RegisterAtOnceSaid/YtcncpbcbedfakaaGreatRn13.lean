/- Part 13 of what the laws' proofs rest on. No condition. -/
import Derived.Test.YtcncpbcbedfakaaGreatProg
import Derived.Test.YtcncpbcbedfakaaGreatRn12
set_option linter.all false
section
namespace Go.Proofs.YtcncpbcbedfakaaGreat
open Go.ChangeShapes Go.WideShapes Go.ChangeAt Go.RowKit
section
variable {K : Code → CC → Prop} {ρ : Mp} {h : List AB} {w : World}
theorem In.hz (i : In K ρ h w) : h.map AB.freeze = h := by
 refine List.ext_getElem? fun j => ?_
 rw [List.getElem?_map]
 cases e : h[j]? with
 | none => rfl
 | some B =>
  have := i.frz B (List.mem_of_getElem? e)
  rw [Option.map_some]
  congr 1
  cases B <;> first | rfl | (cases this; done) | (simp only [AB.mut] at this; subst this; rfl)
theorem In.sl {α : Type} {r : Row α} (i : In K ρ h w) (hfl : ∀ x, ∀ a ∈ r.f x, a.fl = true) {v : Value} {l : List α} (hs : Sl w v l.length ((r.cells l).map AV.val)) :
  ∃ x s B, In K (ρ ++ [x]) (h ++ [B]) w ∧ VR (ρ ++ [x]) s v ∧ Rd r (h ++ [B]) s l ∧ Ext ρ (ρ ++ [x]) ∧ s.capOk = true := by
 obtain ⟨hl, x, i', vr⟩ := i.slice hfl hs
 exact ⟨x, _, _, i', vr, rsl_rd (by rw [List.getElem?_append_right (Nat.le_refl _), Nat.sub_self]; rfl) hl, Ext.push _ _, rsl_capOk _ _⟩
theorem RdL.row {α : Type} {r : Row α} {v : Value} {ts : List α} (e : RdL (fun _ cs x => cs = (r.f x).map AV.val) r.sz w v ts) : Sl w v ts.length ((r.cells ts).map AV.val) := by
 obtain ⟨cs, h1, h2, h3⟩ := e
 have hcs : cs = (r.cells ts).map AV.val := by
  apply List.ext_getElem?
  intro k
  by_cases hk : k < ts.length * r.sz
  ·have hi : k / r.sz < ts.length := (Nat.div_lt_iff_lt_mul r.pos).2 hk
   have hj := Nat.mod_lt k r.pos
   have ek : k = k / r.sz * r.sz + k % r.sz := by rw [Nat.mul_comm]; exact (Nat.div_add_mod k r.sz).symm
   have ht : ts[k / r.sz]? = some (ts.getD (k / r.sz) r.d) := by rw [List.getD_eq_getElem?_getD, List.getElem?_eq_getElem hi]; rfl
   have q := h3 _ _ ht
   have q1 : ((cs.drop (k / r.sz * r.sz)).take r.sz)[k % r.sz]? = ((r.f (ts.getD (k / r.sz) r.d)).map AV.val)[k % r.sz]? := by rw [q]
   rw [List.getElem?_take_of_lt hj, List.getElem?_drop, ← ek, List.getElem?_map, ← r.cells_get ts _ _ hi hj, ← ek] at q1
   rw [q1, List.getElem?_map]
  ·rw [List.getElem?_eq_none (by omega), List.getElem?_eq_none (by rw [List.length_map, r.cells_len]; omega)]
 rw [hcs] at h1
 exact h1
end
section
variable {H : Type} {enc : TypeId × Value → H} {w : World} {base : Nat} {held : Bool}
theorem list2 {α : Type} {l : List α} (h : l.length = 2) : ∃ a b, l = [a, b] := by
 match l, h with
 | [a, b], _ => exact ⟨a, b, rfl⟩
theorem ints_sl {fuel : Nat} {cs : List Value} {x : DataW H × List MemPlace} (h : DataW.trod enc Tryz.prog w base (fun _ => true) held fuel 23 cs = some x) : ∃ v, cs = [v] ∧ ∃ xs : List Int, Sl w v xs.length ((intR.cells xs).map AV.val) := by
 obtain ⟨v, h1, ts, h2⟩ := leaf_slice (fun _ cs (c : Int) => cs = (intR.f c).map AV.val) Tryz.underlying23 (size := 1) (by kernel_rfl) (by decide) (fun fuel cs x hx => by
  obtain ⟨n, rfl, hw⟩ := leaf_int Tryz.underlying3 hx
  exact ⟨n, by rw [intR_f]; rfl⟩) h
 exact ⟨v, h1, ts, RdL.row (r := intR) h2⟩
theorem int_bd {fuel : Nat} {i : Int} {x : DataW H × List MemPlace} (h : DataW.trod enc Tryz.prog w base (fun _ => true) held fuel 3 [.int .i64 i] = some x) : -9223372036854775808 ≤ i ∧ i ≤ 9223372036854775807 := by
 obtain ⟨n, e, hw⟩ := leaf_int Tryz.underlying3 h
 cases e
 exact wf_i64 hw
theorem dot_cells {fuel : Nat} {cs : List Value} {x : DataW H × List MemPlace} (h : DataW.trod enc Tryz.prog w base (fun _ => true) held fuel 38 cs = some x) : ∃ r n, cs = [.int .i64 r, .int .i64 n] ∧ (-9223372036854775808 ≤ r ∧ r ≤ 9223372036854775807) ∧ (-9223372036854775808 ≤ n ∧ n ≤ 9223372036854775807) := by
 cases fuel with
 | zero => cases h
 | succ fuel =>
  obtain ⟨hl, he⟩ := struct_open Tryz.underlying38 h
  have hl2 : cs.length = 2 := hl.trans (by kernel_rfl)
  simp only [List.forall_mem_cons] at he
  obtain ⟨⟨y0, h0⟩, ⟨y1, h1⟩, _⟩ := he
  rw [(by kernel_rfl : Tryz.prog.cellsOf 3 = 1)] at h0 h1
  obtain ⟨r, e0, w0⟩ := leaf_int Tryz.underlying3 h0
  obtain ⟨n, e1, w1⟩ := leaf_int Tryz.underlying3 h1
  obtain ⟨a, b, rfl⟩ := list2 hl2
  have e0' : [a] = _ := e0
  have e1' : [b] = _ := e1
  cases e0'
  cases e1'
  exact ⟨r, n, rfl, wf_i64 w0, wf_i64 w1⟩
theorem dots_sl {fuel : Nat} {cs : List Value} {x : DataW H × List MemPlace} (h : DataW.trod enc Tryz.prog w base (fun _ => true) held fuel 24 cs = some x) : ∃ v, cs = [v] ∧ ∃ xs : List (Int × Int), Sl w v xs.length ((dotR.cells xs).map AV.val) := by
 obtain ⟨v, h1, ts, h2⟩ := leaf_slice (fun _ cs (c : Int × Int) => cs = (dotR.f c).map AV.val) Tryz.underlying24 (size := 2) (by kernel_rfl) (by decide) (fun fuel cs x hx => by
  obtain ⟨r, n, rfl, _, _⟩ := dot_cells hx
  exact ⟨(r, n), by rw [dotR_f]; rfl⟩) h
 exact ⟨v, h1, ts, RdL.row (r := dotR) h2⟩
theorem cloud_sl {fuel : Nat} {cs : List Value} {x : DataW H × List MemPlace} (h : DataW.trod enc Tryz.prog w base (fun _ => true) held fuel 26 cs = some x) :
  ∃ v d, cs = [v, d] ∧ (∃ xs : List Int, Sl w v xs.length ((intR.cells xs).map AV.val)) ∧ ∃ ds : List (Int × Int), Sl w d ds.length ((dotR.cells ds).map AV.val) := by
 cases fuel with
 | zero => cases h
 | succ fuel =>
  obtain ⟨hl, he⟩ := struct_open Tryz.underlying26 h
  have hl2 : cs.length = 2 := hl.trans (by kernel_rfl)
  simp only [List.forall_mem_cons] at he
  obtain ⟨⟨y0, h0⟩, ⟨y1, h1⟩, _⟩ := he
  rw [(by kernel_rfl : Tryz.prog.cellsOf 23 = 1)] at h0
  rw [(by kernel_rfl : Tryz.prog.cellsOf 24 = 1)] at h1
  obtain ⟨v, e0, s0⟩ := ints_sl h0
  obtain ⟨d, e1, s1⟩ := dots_sl h1
  obtain ⟨a, b, rfl⟩ := list2 hl2
  have e0' : [a] = _ := e0
  have e1' : [b] = _ := e1
  cases e0'
  cases e1'
  exact ⟨_, _, rfl, s0, s1⟩
end
end Go.Proofs.YtcncpbcbedfakaaGreat
end
section
namespace Go.Proofs.YtcncpbcbedfakaaGreat
section
variable {α : Type} {r : Row α} {h l : List AB}
def mskQ (base c anc : Nat) (past : List Pt) (l : List AB) : List AB := mskL base c anc past [] 0 l
def vis (base c anc : Nat) (past : List Pt) (k : Nat) : Bool := decide (k < c) || past.any (fun p => bit p.k anc && decide (p.lo ≤ base + k) && decide (base + k < p.hi))
theorem vis_eq (base c anc : Nat) (past : List Pt) (k : Nat) : qOk (base + c) 0 0 anc past (base + k) = vis base c anc past k := by
 rw [qOk_dec]
 unfold vis
 have e1 : decide (base + k < base + c) = decide (k < c) := decide_eq_decide.2 (by omega)
 have e2 : decide (base + k < 0) = false := decide_eq_false (by omega)
 rw [e1, e2, Bool.and_false, Bool.or_false]
theorem mskQ_get (base c anc : Nat) (past : List Pt) (l : List AB) (k : Nat) : (mskQ base c anc past l)[k]? = (l[k]?).map fun B => if vis base c anc past k = true then B.freeze else .dead := by
 unfold mskQ
 rw [mskL_get, Nat.zero_add]
 congr 1
 funext B
 rw [vis_eq]
 simp [memN_nil]
theorem mskQ_len (base c anc : Nat) (past : List Pt) (l : List AB) : (mskQ base c anc past l).length = l.length := by
 rcases Nat.lt_trichotomy (mskQ base c anc past l).length l.length with q | q | q
 ·have := mskQ_get base c anc past l (mskQ base c anc past l).length
  rw [List.getElem?_eq_none (Nat.le_refl _), List.getElem?_eq_getElem q] at this
  cases this
 ·exact q
 ·have := mskQ_get base c anc past l l.length
  rw [List.getElem?_eq_none (Nat.le_refl _), List.getElem?_eq_getElem q] at this
  cases this
theorem ownC_at (L : List AB) (k : Nat) : ownC L k = match L[k]? with
  | some (.blk _ _ xs) => some xs
  | _ => none := by rw [← rdBlk_own]; rfl
theorem ownC_mskQ {base c anc : Nat} {past : List Pt} {k : Nat} (hv : vis base c anc past k = true) : ownC (mskQ base c anc past l) k = ownC l k := by
 rw [ownC_at, ownC_at, mskQ_get]
 cases l[k]? with
 | none => rfl
 | some B => simp only [Option.map_some, hv, if_true]; cases B <;> rfl
theorem bxL_mskQ {base c anc : Nat} {past : List Pt} {k : Nat} (hv : vis base c anc past k = true) : bxL (mskQ base c anc past l) k = bxL l k := by
 rw [← bxL_eq, ← bxL_eq]
 unfold bxS
 rw [mskQ_get]
 cases l[k]? with
 | none => rfl
 | some B =>
  simp only [Option.map_some, hv, if_true]
  cases B with
  | blk fl m xs => cases fl <;> (cases xs with | nil => rfl | cons a t => cases t <;> rfl)
  | _ => rfl
theorem ownR_iff (x : List α) : ∀ (L : List AB) (k : Nat), ownR r x L k ↔ ∃ m, L[k]? = some (resB r m x)
 | [], k => by simp [ownR]
 | B :: L, 0 => by simp [ownR]
 | B :: L, k + 1 => by simpa [ownR] using ownR_iff x L k
theorem ownR_mskQ {base c anc : Nat} {past : List Pt} {k : Nat} (x : List α) (hv : vis base c anc past k = true) (hr : ownR r x l k) : ownR r x (mskQ base c anc past l) k = True := by
 refine eq_true ?_
 rw [ownR_iff] at hr ⊢
 obtain ⟨m, e⟩ := hr
 exact ⟨false, by rw [mskQ_get, e, Option.map_some, if_pos hv, resB_fz]⟩
theorem mask_ownQ (hz : h.map AB.freeze = h) (c anc n : Nat) (past : List Pt) (l : List AB) (hn : n = h.length + l.length) : maskB (seen (h.length + c) anc past n) [] 0 (h ++ l) = h ++ mskQ h.length c anc past l := mask_own hz c anc n past [] l hn rfl
theorem mask_ownQ0 (hz : h.map AB.freeze = h) (anc n : Nat) (past : List Pt) (l : List AB) (hn : n = h.length + l.length) : maskB (seen h.length anc past n) [] 0 (h ++ l) = h ++ mskQ h.length 0 anc past l := mask_own hz 0 anc n past [] l hn rfl
theorem mask_ownC (hz : h.map AB.freeze = h) (c anc n : Nat) (past : List Pt) (w0 : Nat) (ws : List Nat) (l : List AB) (hn : n = h.length + l.length) (hw : ((w0 :: ws).all fun id => decide (h.length ≤ id)) = true) : maskB (seen (h.length + c) anc past n) (w0 :: ws) 0 (h ++ l) = h ++ mskL h.length c anc past (w0 :: ws) 0 l := mask_own hz c anc n past (w0 :: ws) l hn hw
theorem merge_none (G x l : List AB) (hG : G.length = l.length) : mergeB [] (h ++ (G ++ x)) 0 (h ++ l) = h ++ (l ++ x) := by
 rw [merge_own [] (G ++ x) l rfl]
 congr 1
 refine List.ext_getElem? fun j => ?_
 rw [mrgL_get]
 by_cases hj : j < l.length
 ·rw [if_pos hj, if_neg (by simp), List.getElem?_append_left hj]
 ·rw [if_neg hj, List.getElem?_append_right (by omega), List.getElem?_append_right (by omega), hG]
def qP (anc : Nat) : List Pt → Nat → Bool
 | [], _ => false
 | ⟨k, lo, hi, _, _⟩ :: l, id => if lo ≤ id ∧ id < hi then (if anc / 2 ^ k % 2 = 1 then true else qP anc l id) else qP anc l id
theorem qP_nil (anc id : Nat) : qP anc [] id = false := _root_.id rfl
theorem qP_cons (anc k lo hi : Nat) (rs ws : List Nat) (l : List Pt) (id : Nat) : qP anc (⟨k, lo, hi, rs, ws⟩ :: l) id = if lo ≤ id ∧ id < hi then (if anc / 2 ^ k % 2 = 1 then true else qP anc l id) else qP anc l id := _root_.id rfl
theorem qP_eq (anc id : Nat) : ∀ past : List Pt, qP anc past id = past.any fun p => bit p.k anc && decide (p.lo ≤ id) && decide (id < p.hi)
 | [] => rfl
 | ⟨k, lo, hi, rs, ws⟩ :: l => by
  rw [qP_cons, List.any_cons, qP_eq anc id l, bit_dec]
  by_cases h1 : lo ≤ id <;> by_cases h2 : id < hi <;> by_cases h3 : anc / 2 ^ k % 2 = 1 <;> simp [h1, h2, h3]
theorem qOk_q (len0 lo hi anc : Nat) (past : List Pt) (id : Nat) : qOk len0 lo hi anc past id = if id < len0 then true else if lo ≤ id ∧ id < hi then true else qP anc past id := by
 rw [qOk_dec, qP_eq]
 by_cases h1 : id < len0 <;> by_cases h2 : lo ≤ id <;> by_cases h3 : id < hi <;> simp [h1, h2, h3]
theorem vis_any (base c anc : Nat) (past : List Pt) (k : Nat) : vis base c anc past k = if k < c then true else qP anc past (base + k) := by
 unfold vis
 rw [qP_eq]
 by_cases h1 : k < c <;> simp [h1]
def sepA (anc lo hi : Nat) : List Pt → Bool
 | [] => true
 | ⟨k, lo', hi', _, _⟩ :: l => if hi' ≤ lo ∨ hi ≤ lo' then sepA anc lo hi l else if anc / 2 ^ k % 2 = 1 then false else sepA anc lo hi l
theorem sepA_nil (anc lo hi : Nat) : sepA anc lo hi [] = true := _root_.id rfl
theorem sepA_cons (anc lo hi k lo' hi' : Nat) (rs ws : List Nat) (l : List Pt) : sepA anc lo hi (⟨k, lo', hi', rs, ws⟩ :: l) = if hi' ≤ lo ∨ hi ≤ lo' then sepA anc lo hi l else if anc / 2 ^ k % 2 = 1 then false else sepA anc lo hi l := _root_.id rfl
theorem sepA_eq (anc lo hi : Nat) : ∀ past : List Pt, sepA anc lo hi past = past.all fun p' => !bit p'.k anc || decide (p'.hi ≤ lo) || decide (hi ≤ p'.lo)
 | [] => rfl
 | ⟨k, lo', hi', rs, ws⟩ :: l => by
  rw [sepA_cons, List.all_cons, sepA_eq anc lo hi l, bit_dec]
  by_cases h1 : hi' ≤ lo <;> by_cases h2 : hi ≤ lo' <;> by_cases h3 : anc / 2 ^ k % 2 = 1 <;> simp [h1, h2, h3]
def indA (len0 anc : Nat) (past0 : List Pt) (ws0 : List Nat) : List Pt → Bool
 | [] => true
 | ⟨k, lo, hi, rs, ws⟩ :: l => if anc / 2 ^ k % 2 = 1 then indA len0 anc past0 ws0 l else
   if (ws.all fun id => !qOk len0 0 0 anc past0 id) = true then
    if hi ≤ lo ∨ (len0 ≤ lo ∧ sepA anc lo hi past0 = true) then
     if (ws0.all fun id => !ptHas ⟨k, lo, hi, rs, ws⟩ id && !memN id (rs ++ ws)) = true then indA len0 anc past0 ws0 l else false
    else false
   else false
theorem indA_nil (len0 anc : Nat) (past0 : List Pt) (ws0 : List Nat) : indA len0 anc past0 ws0 [] = true := _root_.id rfl
theorem indA_cons (len0 anc : Nat) (past0 : List Pt) (ws0 : List Nat) (k lo hi : Nat) (rs ws : List Nat) (l : List Pt) : indA len0 anc past0 ws0 (⟨k, lo, hi, rs, ws⟩ :: l) = if anc / 2 ^ k % 2 = 1 then indA len0 anc past0 ws0 l else
      if (ws.all fun id => !qOk len0 0 0 anc past0 id) = true then
        if hi ≤ lo ∨ (len0 ≤ lo ∧ sepA anc lo hi past0 = true) then
          if (ws0.all fun id => !ptHas ⟨k, lo, hi, rs, ws⟩ id && !memN id (rs ++ ws)) = true then indA len0 anc past0 ws0 l else false
        else false
      else false := _root_.id rfl
theorem indA_eq (len0 anc : Nat) (past0 : List Pt) (ws0 : List Nat) : ∀ past : List Pt, past.all (indepS len0 anc past0 ws0) = indA len0 anc past0 ws0 past
 | [] => rfl
 | ⟨k, lo, hi, rs, ws⟩ :: l => by
  rw [indA_cons, List.all_cons, indA_eq len0 anc past0 ws0 l, indepS_dec, sepA_eq, bit_dec]
  by_cases h1 : anc / 2 ^ k % 2 = 1
  ·simp [h1]
  ·simp only [h1, decide_false, Bool.false_or, if_false]
   generalize (ws.all fun id => !qOk len0 0 0 anc past0 id) = a
   generalize (past0.all fun p' => !bit p'.k anc || decide (p'.hi ≤ lo) || decide (hi ≤ p'.lo)) = b
   generalize (ws0.all fun id => !ptHas ⟨k, lo, hi, rs, ws⟩ id && !memN id (rs ++ ws)) = e
   by_cases h2 : hi ≤ lo <;> by_cases h3 : len0 ≤ lo <;> cases a <;> cases b <;> cases e <;> simp [h2, h3]
variable {c : Ctx} {k : List IT} {fr : List AV} {len0 n anc : Nat} {past : List Pt} {d : Option Nat} {ops : List DOp}
theorem W_dmkC (w0 : Nat) (ws : List Nat) (vs : List AV) (v : AV) (G : List AB) : W c (.dmk (w0 :: ws) vs (some (v, G)) len0 n anc past d ops :: k) fr h = (okL (fun i => decide (i < h.length)) vs = true ∧ HOk h ∧ indA len0 anc past (w0 :: ws) past = true ∧ ((w0 :: ws).all fun id => decide (id < h.length)) = true ∧ h.length ≤ G.length ∧ v.ok (qOk len0 h.length G.length anc past) = true ∧
      ((w0 :: ws).all fun id => (G.getD id .dead).ok (qOk len0 h.length G.length anc past)) = true ∧ ((G.drop h.length).all fun B => B.ok (qOk len0 h.length G.length anc past)) = true ∧
      W c (.drw len0 (n + 1) (⟨n, h.length, G.length, seen len0 anc (bareP past) h.length, w0 :: ws⟩ :: past) ops :: k) (put fr d v) (mergeB (w0 :: ws) G 0 h)) := by
  rw [← indA_eq]
  exact W_dmkB (w0 :: ws) vs v G
theorem W_dmkQ (vs : List AV) (v : AV) (c0 anc' : Nat) (past' : List Pt) (x : List AB) : W c (.dmk [] vs (some (v, h ++ (mskQ h.length c0 anc' past' l ++ x))) len0 n anc past d ops :: k) fr (h ++ l) = (okL (fun i => decide (i < h.length + l.length)) vs = true ∧ HOk (h ++ l) ∧ indA len0 anc past [] past = true ∧ v.ok (qOk len0 (h.length + l.length) (h.length + (l.length + x.length)) anc past) = true ∧
      (x.all fun B => B.ok (qOk len0 (h.length + l.length) (h.length + (l.length + x.length)) anc past)) = true ∧
      W c (.drw len0 (n + 1) (⟨n, h.length + l.length, h.length + (l.length + x.length), seen len0 anc (bareP past) (h.length + l.length), []⟩ :: past) ops :: k) (put fr d v) (h ++ (l ++ x))) := by
  rw [← indA_eq, W_dmkB, merge_none _ _ _ (mskQ_len _ _ _ _ _)]
  have e1 : (h ++ l).length = h.length + l.length := List.length_append
  have e2 : (h ++ (mskQ h.length c0 anc' past' l ++ x)).length = h.length + (l.length + x.length) := by rw [List.length_append, List.length_append, mskQ_len]
  have e3 : (h ++ (mskQ h.length c0 anc' past' l ++ x)).drop (h ++ l).length = x := by
    rw [e1, drop_own, List.drop_append_of_le_length (by rw [mskQ_len]; exact Nat.le_refl _), List.drop_eq_nil_of_le (by rw [mskQ_len]; exact Nat.le_refl _), List.nil_append]
  rw [e3, e2, e1]
  have e4 : (h.length + l.length ≤ h.length + (l.length + x.length)) = True := eq_true (by omega)
  simp only [List.all_nil, e4, true_and]
theorem W_dmkQ0 (vs : List AV) (v : AV) (c0 anc' : Nat) (past' : List Pt) : W c (.dmk [] vs (some (v, h ++ mskQ h.length c0 anc' past' l)) len0 n anc past d ops :: k) fr (h ++ l) = (okL (fun i => decide (i < h.length + l.length)) vs = true ∧ HOk (h ++ l) ∧ indA len0 anc past [] past = true ∧ v.ok (qOk len0 (h.length + l.length) (h.length + l.length) anc past) = true ∧
      W c (.drw len0 (n + 1) (⟨n, h.length + l.length, h.length + l.length, seen len0 anc (bareP past) (h.length + l.length), []⟩ :: past) ops :: k) (put fr d v) (h ++ l)) := by
  have := W_dmkQ (c := c) (k := k) (fr := fr) (len0 := len0) (n := n) (anc := anc) (past := past) (d := d) (ops := ops) (h := h) (l := l) vs v c0 anc' past' []
  simpa only [List.append_nil, List.length_nil, Nat.add_zero, List.all_nil, true_and] using this
theorem W_dldQ (v : AV) (h' : List AB) (x : AV) : W c (.dld (some (v, h')) x len0 n anc past d ops :: k) fr h = (indA len0 anc past [] past = true ∧ x.ok (qOk len0 0 0 anc past) = true ∧ v.ok (qOk len0 0 0 anc past) = true ∧ W c (.drw len0 (n + 1) (⟨n, 0, 0, idOf x, []⟩ :: past) ops :: k) (put fr d v) h) := by
 rw [← indA_eq]
 exact W_dld v h' x
theorem maxLen_ok {n : Nat} (h : n ≤ 1000000) : (n ≤ maxLen) = True := eq_true (by unfold maxLen; omega)
end
def walkQ := (And.intro (And.intro (And.intro (And.intro (And.intro (And.intro (And.intro @W_drw @W_drw_nil) (And.intro @W_drw_op @W_drw_g)) (And.intro (And.intro @W_dgr_1 @W_dgr_0) (And.intro @W_dgr_10 (And.intro @W_dgr_01 @W_dgr_u)))) (And.intro (And.intro (And.intro @W_dgr_t @W_dgr_f) (And.intro @W_dop_free (And.intro @W_dop_ld @W_dop_mem))) (And.intro (And.intro @W_dop_nw @W_dop_call) (And.intro @W_dfr (And.intro @W_dfr_if @W_dldQ))))) (And.intro (And.intro (And.intro (And.intro @bareP_nil @bareP_cons) (And.intro @W_dmk_if @mk_mv)) (And.intro (And.intro @mk_pick @mk_bin) (And.intro @mk_eqb (And.intro @mk_eqc @mk_eqn)))) (And.intro (And.intro (And.intro @mk_un @mk_cvi) (And.intro @mk_cvs (And.intro @mk_fad @mk_fld))) (And.intro (And.intro @mk_iad @mk_iaa) (And.intro @mk_ixs (And.intro @mk_ixa @mk_sls)))))) (And.intro (And.intro (And.intro (And.intro (And.intro @mk_sll @mk_sla) (And.intro @mk_ifc @mk_mkf)) (And.intro (And.intro @mk_ext @mk_len) (And.intro @mk_lnc (And.intro @mk_mm @mk_nck)))) (And.intro (And.intro (And.intro @mk_tas @mk_bld) (And.intro @mk_capo (And.intro @mk_new @mk_box))) (And.intro (And.intro @mk_bls @mk_mks) (And.intro @mk_app (And.intro @mk_cpy @mk_apz))))) (And.intro (And.intro (And.intro (And.intro @mk_b2s @mk_clr) (And.intro @mk_bcmp @mk_st)) (And.intro (And.intro @memN_nil @memN_cons) (And.intro @memN_app (And.intro @memN_seen @ptHas_dec)))) (And.intro (And.intro (And.intro @msk_nil @msk_cons) (And.intro @fz_blk (And.intro @fz_dead @mrg_nil))) (And.intro (And.intro @mrg_cons @getD_0) (And.intro @getD_s (And.intro @abok_t @abok_f))))))) (And.intro (And.intro (And.intro (And.intro (And.intro (And.intro @abok_d @ok_i) (And.intro @ok_b @ok_s)) (And.intro (And.intro @ok_ns @ok_np) (And.intro @ok_nf (And.intro @ok_p @ok_y)))) (And.intro (And.intro (And.intro @ok_sl @ok_f) (And.intro @ok_ag (And.intro @ok_tu @okL_nil))) (And.intro (And.intro @okL_cons @nthA_pl) (And.intro @lt_add (And.intro @le_add @eq_add))))) (And.intro (And.intro (And.intro (And.intro @lt_zero @zero_le') (And.intro @le_self @any_nil)) (And.intro (And.intro @any_cons @idOf_p) (And.intro @idOf_sl (And.intro @idOf_ns @wsC_call)))) (And.intro (And.intro (And.intro @wsC_st @wsC_app) (And.intro @wsC_new (And.intro @wsC_box @wsC_bls))) (And.intro (And.intro @wsC_mks @Tab.ws_nil) (And.intro @Tab.ws_cons (And.intro @decide_true @decide_false)))))) (And.intro (And.intro (And.intro (And.intro (And.intro @Bool.or_true @Bool.or_false) (And.intro @Bool.true_or @Bool.false_or)) (And.intro (And.intro @Bool.not_true @Bool.not_false) (And.intro @resB_ok (And.intro @rsl_ok @rsl_okEl)))) (And.intro (And.intro (And.intro @lapp_nil @lapp_cons) (And.intro @fm_nil (And.intro @fm_cons @abok_lp))) (And.intro (And.intro @apS_ok @idOf_rsl) (And.intro @W_dmkC (And.intro @W_dmkQ @W_dmkQ0))))) (And.intro (And.intro (And.intro (And.intro @ownC_mskQ @bxL_mskQ) (And.intro @ownR_mskQ (And.intro @mskQ_len @vis_any))) (And.intro (And.intro @qP_nil @qP_cons) (And.intro @qOk_q (And.intro @sepA_nil @sepA_cons)))) (And.intro (And.intro (And.intro @indA_nil @indA_cons) (And.intro @and_self (And.intro @false_and @and_false))) (And.intro (And.intro @or_true @true_or) (And.intro @false_or (And.intro @or_false @maxLen_ok))))))))
end Go.Proofs.YtcncpbcbedfakaaGreat
end
section
namespace Go.Proofs.YtcncpbcbedfakaaGreat
structure Dg where
 l : List UInt8
 h : l.length = 32
deriving DecidableEq
def u8A (b : UInt8) : AV := .i .u8 (b.toNat : Int)
theorem u8A_inj {a b : UInt8} (e : u8A a = u8A b) : a = b := by
 unfold u8A at e
 have e2 : (a.toNat : Int) = (b.toNat : Int) := by
  injection e
 exact UInt8.toNat.inj (by omega)
theorem map_inj {α β : Type} {f : α → β} (hf : ∀ a b, f a = f b → a = b) : ∀ {l l' : List α}, l.map f = l'.map f → l = l'
 | [], [], _ => rfl
 | [], _ :: _, e => by simp at e
 | _ :: _, [], e => by simp at e
 | a :: l, b :: l', e => by
  simp only [List.map_cons, List.cons.injEq] at e
  rw [hf a b e.1, map_inj hf e.2]
theorem Dg.ext {a b : Dg} (e : a.l = b.l) : a = b := by
 cases a; cases b
 cases e
 rfl
def zeroD : Dg := ⟨List.replicate 32 0, by simp⟩
def idR : Row Dg := ⟨fun x => x.l.map u8A, 32, fun x => by rw [List.length_map]; exact x.h, by decide, zeroD, fun x y e => Dg.ext (map_inj (fun a b => u8A_inj) e)⟩
abbrev Hd := (Int × Int) × Dg
def heldR : Row Hd := ⟨fun x => [.i .i64 x.1.1, .i .i64 x.1.2] ++ idR.f x.2, 34, fun x => by rw [List.length_append, idR.len]; rfl, by decide, ((0, 0), zeroD), fun x y e => by
 simp only [List.cons_append, List.nil_append, List.cons.injEq, AV.i.injEq, true_and] at e
 exact Prod.ext (Prod.ext e.1 e.2.1) (idR.inj _ _ e.2.2)⟩
theorem idR_sz : idR.sz = 32 := _root_.id rfl
theorem heldR_sz : heldR.sz = 34 := _root_.id rfl
theorem heldR_f (x : Hd) : heldR.f x = .i .i64 x.1.1 :: .i .i64 x.1.2 :: idR.f x.2 := _root_.id rfl
theorem held_dot (x : Hd) : ((heldR.f x).drop 0).take 2 = dotR.f x.1 := by rw [heldR_f, dotR_f]; rfl
theorem held_id (x : Hd) : ((heldR.f x).drop 2).take 32 = idR.f x.2 := by
 rw [heldR_f]
 simp only [List.drop_succ_cons, List.drop_zero]
 exact List.take_of_length_le (by rw [idR.len]; exact Nat.le_refl _)
theorem eqcB : ∀ (l l' : List UInt8), l.length = l'.length → eqCells (List.replicate l.length .i) (l.map u8A) (l'.map u8A) = some (decide (l = l'))
 | [], [], _ => by simp [eqCells]
 | [], _ :: _, e => by simp at e
 | _ :: _, [], e => by simp at e
 | a :: l, b :: l', e => by
  simp only [List.length_cons, List.replicate_succ, List.map_cons, eqCells, u8A, eqCell, if_true, Option.bind_some]
  have ih := eqcB l l' (by simpa using e)
  rw [ih, Option.map_some]
  congr 1
  have h1 : ((a.toNat : Int) == (b.toNat : Int)) = decide (a = b) := by
   rw [Bool.eq_iff_iff]
   simp only [beq_iff_eq, decide_eq_true_eq]
   exact ⟨fun q => UInt8.toNat.inj (by omega), fun q => by rw [q]⟩
  rw [h1, Bool.eq_iff_iff]
  simp
theorem eqc_id (a b : Dg) : eqCells [.i, .i, .i, .i, .i, .i, .i, .i, .i, .i, .i, .i, .i, .i, .i, .i, .i, .i, .i, .i, .i, .i, .i, .i, .i, .i, .i, .i, .i, .i, .i, .i] (idR.f a) (idR.f b) = some (decide (a = b)) := by
 have := eqcB a.l b.l (a.h.trans b.h.symm)
 rw [a.h] at this
 refine (show eqCells [.i, .i, .i, .i, .i, .i, .i, .i, .i, .i, .i, .i, .i, .i, .i, .i, .i, .i, .i, .i, .i, .i, .i, .i, .i, .i, .i, .i, .i, .i, .i, .i] (idR.f a) (idR.f b) = some (decide (a.l = b.l)) from this).trans ?_
 congr 1
 exact decide_eq_decide.2 ⟨Dg.ext, fun q => by rw [q]⟩
theorem eqc_held (a b : Hd) : eqCells [.i, .i, .i, .i, .i, .i, .i, .i, .i, .i, .i, .i, .i, .i, .i, .i, .i, .i, .i, .i, .i, .i, .i, .i, .i, .i, .i, .i, .i, .i, .i, .i, .i, .i] (heldR.f a) (heldR.f b) = some (decide (a = b)) := by
 have h1 := eqc_id a.2 b.2
 have h2 : eqCells [.i, .i, .i, .i, .i, .i, .i, .i, .i, .i, .i, .i, .i, .i, .i, .i, .i, .i, .i, .i, .i, .i, .i, .i, .i, .i, .i, .i, .i, .i, .i, .i, .i, .i] (heldR.f a) (heldR.f b) = ((eqCell .i (.i .i64 a.1.1) (.i .i64 b.1.1)).bind fun r => (((eqCell .i (.i .i64 a.1.2) (.i .i64 b.1.2)).bind fun r => (eqCells [.i, .i, .i, .i, .i, .i, .i, .i, .i, .i, .i, .i, .i, .i, .i, .i, .i, .i, .i, .i, .i, .i, .i, .i, .i, .i, .i, .i, .i, .i, .i, .i] (idR.f a.2) (idR.f b.2)).map (r && ·))).map (r && ·)) := rfl
 rw [h2, h1]
 simp only [eqCell, if_true, Option.bind_some, Option.map_some, Option.some.injEq]
 rw [Bool.eq_iff_iff]
 simp only [Bool.and_eq_true, beq_iff_eq, decide_eq_true_eq]
 constructor
 ·rintro ⟨q1, q2, q3⟩
  exact Prod.ext (Prod.ext q1 q2) q3
 ·rintro rfl
  exact ⟨rfl, rfl, rfl⟩
theorem okL_u8 (q : Nat → Bool) : ∀ l : List UInt8, okL q (l.map u8A) = true
 | [] => by simp [okL]
 | a :: l => by simp [okL, u8A, AV.ok, okL_u8 q l]
theorem id_ok (q : Nat → Bool) (d : Dg) : okL q (idR.f d) = true := okL_u8 q d.l
theorem held_ok (q : Nat → Bool) (d : Hd) : okL q (heldR.f d) = true := by rw [heldR_f, okL_cons, okL_cons, ok_i, ok_i, id_ok]; rfl
theorem all_u8 : ∀ l : List UInt8, (l.map u8A).all (wrOk true) = true
 | [] => rfl
 | a :: l => by rw [List.map_cons, List.all_cons, all_u8 l]; rfl
theorem id_all (d : Dg) : (idR.f d).all (wrOk true) = true := all_u8 d.l
theorem held_all1 (d : Hd) : (heldR.f d).all (wrOk true) = true := by rw [heldR_f, List.all_cons, List.all_cons, id_all]; rfl
theorem cells_all {α : Type} {r : Row α} (h : ∀ d, (r.f d).all (wrOk true) = true) : ∀ l : List α, (r.cells l).all (wrOk true) = true
 | [] => rfl
 | d :: l => by
  have := cells_all h l
  simp only [Row.cells, List.flatMap_cons, List.all_append, h d, Bool.true_and] at this ⊢
  exact this
theorem helds_all (l : List Hd) : (heldR.cells l).all (wrOk true) = true := cells_all held_all1 l
theorem id_fl (x : Dg) : ∀ a ∈ idR.f x, a.fl = true := fun a ha => by
 obtain ⟨b, _, rfl⟩ := List.mem_map.1 (show a ∈ x.l.map u8A from ha)
 rfl
theorem held_fl (x : Hd) : ∀ a ∈ heldR.f x, a.fl = true := fun a ha => by
 rw [heldR_f] at ha
 rcases List.mem_cons.1 ha with rfl | ha
 ·rfl
 ·rcases List.mem_cons.1 ha with rfl | ha
  ·rfl
  ·exact id_fl _ a ha
end Go.Proofs.YtcncpbcbedfakaaGreat
end
section
namespace Go.Proofs.YtcncpbcbedfakaaGreat
open Go.ChangeShapes Go.WideShapes Go.ChangeAt Go.RowKit
section
variable {H : Type} {enc : TypeId × Value → H} {w : World} {base : Nat} {held : Bool}
theorem id_cells {fuel : Nat} {cs : List Value} {x : DataW H × List MemPlace} (h : DataW.trod enc Tryz.prog w base (fun _ => true) held fuel 40 cs = some x) : ∃ i : Dg, cs = (idR.f i).map AV.val := by
 cases fuel with
 | zero => cases h
 | succ fuel =>
  obtain ⟨hl, he⟩ := array_open Tryz.underlying40 h
  have hl2 : cs.length = 32 := hl.trans (by kernel_rfl)
  have h1 : Tryz.prog.cellsOf 5 = 1 := by kernel_rfl
  obtain ⟨d, hd, hdt⟩ := choose_list (fun i (c : UInt8) => cs[i]? = some (.int .u8 (c.toNat : Int))) 32 fun i hi => by
   obtain ⟨y, hy⟩ := he i hi
   rw [h1] at hy
   obtain ⟨n, hn, hw⟩ := leaf_int Tryz.underlying5 hy
   refine ⟨UInt8.ofInt n, ?_⟩
   have e : ((cs.drop (i * 1)).take 1)[0]? = some (.int .u8 n) := by rw [hn]; rfl
   rw [List.getElem?_take_of_lt (by omega), List.getElem?_drop, wf_u8 hw] at e
   simpa using e
  refine ⟨⟨d, hd⟩, ?_⟩
  apply List.ext_getElem?
  intro i
  show cs[i]? = ((d.map u8A).map AV.val)[i]?
  rw [List.map_map]
  by_cases hi : i < 32
  ·rw [List.getElem?_map, List.getElem?_eq_getElem (by omega : i < d.length), Option.map_some, hdt i _ (List.getElem?_eq_getElem (by omega : i < d.length))]
   rfl
  ·rw [List.getElem?_eq_none (by omega), List.getElem?_eq_none (by rw [List.length_map]; omega)]
theorem agg_of {v : Value} {l : List Value} (e : v.cells.toList = l) (h : l.length ≠ 1) : v = .agg l.toArray := by
 subst e
 cases v <;> first | (simp [Value.cells] at h; done) | (simp [Value.cells])
theorem held_cells {fuel : Nat} {cs : List Value} {x : DataW H × List MemPlace} (h : DataW.trod enc Tryz.prog w base (fun _ => true) held fuel 54 cs = some x) : ∃ i : Hd, cs = (heldR.f i).map AV.val := by
 cases fuel with
 | zero => cases h
 | succ fuel =>
  obtain ⟨hl, he⟩ := struct_open Tryz.underlying54 h
  have hl2 : cs.length = 34 := hl.trans (by kernel_rfl)
  simp only [List.forall_mem_cons] at he
  obtain ⟨⟨y0, h0⟩, ⟨y1, h1⟩, _⟩ := he
  rw [(by kernel_rfl : Tryz.prog.cellsOf 38 = 2)] at h0
  rw [(by kernel_rfl : Tryz.prog.cellsOf 40 = 32)] at h1
  obtain ⟨r, n, e0, _, _⟩ := dot_cells h0
  obtain ⟨i, e1⟩ := id_cells h1
  refine ⟨((r, n), i), ?_⟩
  have e0' : cs.take 2 = _ := e0
  have e1' : (cs.drop 2).take 32 = _ := e1
  have : cs = cs.take 2 ++ (cs.drop 2).take 32 := by
   have q : (cs.drop 2).take 32 = cs.drop 2 := List.take_of_length_le (by rw [List.length_drop]; omega)
   rw [q, List.take_append_drop]
  rw [this, e0', e1', heldR_f]
  rfl
theorem helds_sl {fuel : Nat} {cs : List Value} {x : DataW H × List MemPlace} (h : DataW.trod enc Tryz.prog w base (fun _ => true) held fuel 22 cs = some x) : ∃ v, cs = [v] ∧ ∃ xs : List Hd, Sl w v xs.length ((heldR.cells xs).map AV.val) := by
 obtain ⟨v, h1, ts, h2⟩ := leaf_slice (fun _ cs (c : Hd) => cs = (heldR.f c).map AV.val) Tryz.underlying22 (size := 34) (by kernel_rfl) (by decide) (fun fuel cs x hx => held_cells hx) h
 exact ⟨v, h1, ts, RdL.row (r := heldR) h2⟩
theorem list3 {α : Type} {l : List α} (h : l.length = 3) : ∃ a b c, l = [a, b, c] := by
 match l, h with
 | [a, b, c], _ => exact ⟨a, b, c, rfl⟩
theorem reg_sl {fuel : Nat} {cs : List Value} {x : DataW H × List MemPlace} (h : DataW.trod enc Tryz.prog w base (fun _ => true) held fuel 28 cs = some x) :
  ∃ l v d, cs = [l, v, d] ∧ (∃ hs : List Hd, Sl w l hs.length ((heldR.cells hs).map AV.val)) ∧ (∃ xs : List Int, Sl w v xs.length ((intR.cells xs).map AV.val)) ∧ ∃ ds : List (Int × Int), Sl w d ds.length ((dotR.cells ds).map AV.val) := by
 cases fuel with
 | zero => cases h
 | succ fuel =>
  obtain ⟨hl, he⟩ := struct_open Tryz.underlying28 h
  have hl2 : cs.length = 3 := hl.trans (by kernel_rfl)
  simp only [List.forall_mem_cons] at he
  obtain ⟨⟨y0, h0⟩, ⟨y1, h1⟩, _⟩ := he
  rw [(by kernel_rfl : Tryz.prog.cellsOf 22 = 1)] at h0
  rw [(by kernel_rfl : Tryz.prog.cellsOf 26 = 2)] at h1
  obtain ⟨l, e0, s0⟩ := helds_sl h0
  obtain ⟨v, d, e1, s1, s2⟩ := cloud_sl h1
  obtain ⟨a, b, c, rfl⟩ := list3 hl2
  have e0' : [a] = _ := e0
  have e1' : [b, c] = _ := e1
  cases e0'
  cases e1'
  exact ⟨_, _, _, rfl, s0, s1, s2⟩
end
end Go.Proofs.YtcncpbcbedfakaaGreat
end
section
namespace Go.Proofs.YtcncpbcbedfakaaGreat
open Go.RowKit
section
variable {P : Program} {α : Type} {r : Row α}
theorem Bt.less {p : Nat} {fr : List AV} {h : List AB} {i : Nat} {B B' : AB} (hi : h[i]? = some B) (hbr : ∀ ρ w b o n, BR (KC P) ρ w b o n B → BR (KC P) ρ w b o n B') (hm : B'.mut = true → B.mut = true) (hl : B'.live = true → B.live = true) : Bt P p fr h fr (h.set i B') := by
 intro ρ w cs hp rr v
 have hlt := (List.getElem?_eq_some_iff.1 hi).1
 have cls : ∀ (j : Nat) C, (h.set i B')[j]? = some C → ∃ C0, h[j]? = some C0 ∧ (C.mut = true → C0.mut = true) ∧ (C.live = true → C0.live = true) ∧ ∀ ρ w b o n, BR (KC P) ρ w b o n C0 → BR (KC P) ρ w b o n C := fun j C hC => by
  rw [List.getElem?_set] at hC
  split at hC
  ·rename_i hij
   subst hij
   cases hC
   exact ⟨B, hi, hm, hl, hbr⟩
  ·exact ⟨C, hC, fun z => z, fun z => z, fun _ _ _ _ _ z => z⟩
 refine ⟨by rw [List.length_set]; exact hp, ρ, v, ⟨by rw [List.length_set]; exact rr.len, fun j C b o n h1 h2 => ?_, fun j k bj oj bk ok Bj Bk hne h1 h2 h3 h4 g1 g2 => ?_⟩, fun b ⟨j, C, o, h1, h2, h3⟩ => ?_, fun j b ⟨C, o, h1, h2, h3⟩ => ?_, fun _ _ => rfl⟩
 ·obtain ⟨C0, q1, _, _, q4⟩ := cls j C h1
  exact q4 _ _ _ _ _ (rr.blk j C0 b o n q1 h2)
 ·obtain ⟨C0, q1, q2, _, _⟩ := cls j Bj h1
  obtain ⟨C1, z1, _, z3, _⟩ := cls k Bk h2
  exact rr.sep j k bj oj bk ok C0 C1 hne q1 z1 h3 h4 (q2 g1) (z3 g2)
 ·obtain ⟨C0, q1, q2, _, _⟩ := cls j C h1
  exact ⟨j, C0, o, q1, q2 h2, h3⟩
 ·obtain ⟨C0, q1, _, q3, _⟩ := cls j C h1
  exact ⟨j, ⟨C0, o, q1, q3 h2, h3⟩, fun _ => rfl, fun z => z⟩
theorem Bt.take {p : Nat} {fr : List AV} {h : List AB} {i n : Nat} {m : Bool} {l : List α} (hi : h[i]? = some (resB r m l)) (hn : n ≤ l.length) : Bt P p fr h fr (h.set i (resB r m (l.take n))) := by
 have hl : (l.take n).length = n := by rw [List.length_take]; omega
 by_cases h0 : n = 0
 ·have e : resB r m (l.take n) = .dead := by unfold resB; rw [if_pos (hl.trans h0)]
  rw [e]
  exact Bt.less hi (fun ρ w b o q _ => trivial) (fun q => by cases q) (fun q => by cases q)
 ·have hl0 : ¬ l.length = 0 := by omega
  have hle : n * r.sz ≤ l.length * r.sz := Nat.mul_le_mul_right _ hn
  have hc : r.cells (l.take n) = (r.cells l).take (n * r.sz) := (r.cells_take l n).symm
  have hcl := r.cells_len l
  refine Bt.less hi (fun ρ w b o q hb => ?_) (fun q => ?_) (fun q => ?_)
  ·simp only [resB, hl, if_neg h0, if_neg hl0, BR] at hb ⊢
   obtain ⟨cs, e, fz, h1, h2, h3, h4⟩ := hb
   refine ⟨cs, e, fz, h1, h2, ?_, fun k a c ha hcs => ?_⟩
   ·rw [hc, List.length_take]; omega
   ·rw [hc, List.getElem?_take] at ha
    split at ha
    ·exact h4 k a c ha hcs
    ·cases ha
  ·simpa only [resB, hl, if_neg h0, if_neg hl0, AB.mut] using q
  ·simp only [resB, if_neg hl0, AB.live]
def cutS (s : AV) (n : Nat) : AV :=
 match s with
 | .sl id off _ cap k => .sl id off n cap k
 | s => s
theorem cutS_wk (id : Nat) {l : List α} {n : Nat} (hn : n ≤ l.length) : Wk (rsl r id (l.take n)) (cutS (rsl r id l) n) := by
 have hl : (l.take n).length = n := by rw [List.length_take]; omega
 by_cases h0 : n = 0
 ·subst h0
  unfold rsl
  rw [if_pos hl]
  split <;> exact Wk.empty _ _ _ _ _ _
 ·unfold rsl
  rw [hl, if_neg h0, if_neg (by omega)]
  intro ρ c hv
  simp only [cutS] at hv
  generalize hk : (some r.sz : Option Nat) = k at hv ⊢
  generalize l.length = m at hv hn
  cases hv with
  | sl _ _ _ _ _ b o nn cap' g1 g2 g3 g4 g5 g6 => exact .sl id 0 n n k b o nn cap' g1 (Nat.le_refl _) (by omega) g4 (fun q => by rw [q] at hk; cases hk) g6
  | sz => exact absurd rfl h0
theorem cutS_ren (f : Nat → Nat) (id n : Nat) (l : List α) : (cutS (rsl r id l) n).ren f = cutS (rsl r (f id) l) n := by unfold rsl; split <;> rfl
theorem cutS_okr (q : Nat → Bool) (id n : Nat) {l : List α} (h : q id = true) : (cutS (rsl r id l) n).ok q = true := by unfold rsl; split <;> simp [cutS, AV.ok, h]
theorem nsSl : AV.ns.isSl = true := _root_.id rfl
theorem slSl (a b c d : Nat) (k : Option Nat) : (AV.sl a b c d k).isSl = true := _root_.id rfl
theorem cutS_isSl {s : AV} (h : s.isSl = true) (n : Nat) : (cutS s n).isSl = true := by cases s <;> first | rfl | cases h
theorem cutS_rsl (id n : Nat) (l : List α) : (cutS (rsl r id l) n).isSl = true := cutS_isSl (rsl_isSl id l) n
theorem cutS_one (id n : Nat) (l : List α) : (cutS (rsl r id l) n).one = true := sl_one (cutS_rsl id n l)
theorem cutS_cells (id n : Nat) (l : List α) : (cutS (rsl r id l) n).cells = [cutS (rsl r id l) n] := sl_cells (cutS_rsl id n l)
theorem cutS_known (id n : Nat) (l : List α) : (cutS (rsl r id l) n).known = true := sl_known (cutS_rsl id n l)
theorem FnC.bt {g : Nat} {args : List AV} {h h1 h2 : List AB} {a a' : AV} (e : FnC P g args h a h1) (b : Bt P h.length [a] h1 [a'] h2) : FnC P g args h a' h2 := by
 refine ⟨e.1, fun ρ w vals hr hv => (e.2 ρ w vals hr hv).mono ?_⟩
 rintro x w' ⟨v', ρ', rfl, hva, hrel, heff⟩
 obtain ⟨_, ρ2, v2, r2, o2, a2, f2⟩ := b ρ' w' #[v'] (heff.len hr hrel) hrel ⟨rfl, fun j x c hx hc => by
  match j, hx with
  | 0, hx => cases hx; cases hc; exact hva⟩
 exact ⟨v', ρ2, rfl, v2.2 0 a' v' rfl rfl, r2, heff.trans ⟨rfl, rfl, ⟨rfl, Nat.le_refl _⟩, Nat.le_refl _, fun _ _ _ => rfl, fun b h => .inl (o2 b h), fun i b h => .inl (a2 i b h), f2⟩⟩
end
end Go.Proofs.YtcncpbcbedfakaaGreat
end
section
namespace Go.Proofs.YtcncpbcbedfakaaGreat
section
variable {h : List AB} {p : Nat}
def bxc (h : List AB) (id : Nat) (cs : List AV) : List AB := h.set id (.blk false true cs)
theorem bxc_len (id : Nat) (cs : List AV) : (bxc h id cs).length = h.length := List.length_set
theorem bxc_get {id : Nat} (hid : id < h.length) (cs : List AV) (x : List AB) : (bxc h id cs ++ x)[id]? = some (.blk false true cs) := by
 rw [List.getElem?_append_left (by rw [bxc_len]; exact hid)]
 unfold bxc
 rw [List.getElem?_set_self hid]
theorem bxc_same {id : Nat} {cs : List AV} (hb : h[id]? = some (.blk false true cs)) : bxc h id cs = h := by
 unfold bxc
 refine List.ext_getElem? fun i => ?_
 rw [List.getElem?_set]
 split
 ·rename_i e
  subst e
  first | rw [if_pos (List.getElem?_eq_some_iff.1 hb).1, hb] | rw [hb]
 ·rfl
theorem bxc_lda {id : Nat} (hid : id < h.length) (cs : List AV) (x : List AB) (n o : Nat) : ldV (bxc h id cs ++ x) (some n) (.p id o) = if o + n ≤ cs.length then some (.ag ((cs.drop o).take n)) else none := by
 have rd : rdBlk (bxc h id cs ++ x) id = some cs := by
  unfold rdBlk
  rw [bxc_get hid]
 simp only [ldV, rd, Option.bind_some]
theorem bxc_sta {id : Nat} (hid : id < h.length) (cs : List AV) (x : List AB) (n o : Nat) (vs : List AV) : stV (bxc h id cs ++ x) (some n) (.p id o) (.ag vs) = if vs.length = n ∧ o + vs.length ≤ cs.length ∧ vs.all (wrOk false) = true then some (bxc h id (over cs o vs) ++ x) else none := by
 simp only [stV, stB, bxc_get hid]
 by_cases h1 : vs.length = n
 ·rw [if_pos h1]
  by_cases h2 : o + vs.length ≤ cs.length ∧ vs.all (wrOk false) = true
  ·rw [if_pos h2, if_pos ⟨h1, h2⟩]
   congr 1
   rw [List.set_append_left _ _ (by rw [bxc_len]; exact hid)]
   unfold bxc
   rw [List.set_set]
  ·rw [if_neg h2, if_neg fun q => h2 q.2]
 ·rw [if_neg h1, if_neg fun q => h1 q.1]
theorem mask_bxc (hp : h.length = p) {id : Nat} (hid : id < h.length) (cs : List AV) (c anc n : Nat) (past : List Pt) (l : List AB) (hn : n = p + l.length) : maskB (seen (p + c) anc past n) [id] 0 (bxc h id cs ++ l) = bxc (h.map AB.freeze) id cs ++ mskL p c anc past [id] 0 l := by
 subst hp
 refine List.ext_getElem? fun i => ?_
 rw [maskB_get, Nat.zero_add]
 by_cases hi : i < h.length
 ·rw [List.getElem?_append_left (by rw [bxc_len]; exact hi), List.getElem?_append_left (by rw [bxc_len, List.length_map]; exact hi)]
  unfold bxc
  by_cases e : i = id
  ·subst e
   rw [List.getElem?_set_self hi, List.getElem?_set_self (by rw [List.length_map]; exact hi), Option.map_some, if_pos (List.mem_singleton.2 rfl)]
  ·rw [List.getElem?_set_ne (Ne.symm e), List.getElem?_set_ne (Ne.symm e), List.getElem?_map, List.getElem?_eq_getElem hi, Option.map_some, Option.map_some, if_neg (by simpa using e), if_pos]
   exact List.mem_filter.2 ⟨List.mem_range.2 (by omega), qOk_lt (by omega)⟩
 ·have hne : i ≠ id := by omega
  have g1 : (bxc h id cs ++ l)[i]? = l[i - h.length]? := by rw [List.getElem?_append_right (by rw [bxc_len]; omega), bxc_len]
  have g2 : (bxc (h.map AB.freeze) id cs ++ mskL h.length c anc past [id] 0 l)[i]? = (mskL h.length c anc past [id] 0 l)[i - h.length]? := by rw [List.getElem?_append_right (by rw [bxc_len, List.length_map]; omega), bxc_len, List.length_map]
  rw [g1, g2, mskL_get]
  cases hB : l[i - h.length]? with
  | none => rfl
  | some B =>
   have hlt := (List.getElem?_eq_some_iff.1 hB).1
   simp only [Option.map_some, Option.some.injEq, show h.length + (0 + (i - h.length)) = i by omega]
   rw [if_neg (by simpa using hne), if_neg (show ¬ memN i [id] = true by rw [memN_iff]; simpa using hne)]
   by_cases hq : qOk (h.length + c) 0 0 anc past i = true
   ·rw [if_pos hq, if_pos]
    exact List.mem_filter.2 ⟨List.mem_range.2 (by omega), hq⟩
   ·rw [if_neg hq, if_neg]
    exact fun q => hq (List.mem_filter.1 q).2
theorem merge_bxc {id : Nat} (hid : id < h.length) (cs cs' : List AV) (G l : List AB) : mergeB [id] (bxc (h.map AB.freeze) id cs' ++ G) 0 (bxc h id cs ++ l) = bxc h id cs' ++ mrgL h.length [id] 0 G l := by
 refine List.ext_getElem? fun i => ?_
 rw [mergeB_get, Nat.zero_add]
 by_cases hi : i < h.length
 ·have g1 : (bxc h id cs ++ l)[i]? = (bxc h id cs)[i]? := List.getElem?_append_left (by rw [bxc_len]; exact hi)
  have g2 : (bxc (h.map AB.freeze) id cs' ++ G)[i]? = (bxc (h.map AB.freeze) id cs')[i]? := List.getElem?_append_left (by rw [bxc_len, List.length_map]; exact hi)
  have g3 : (bxc h id cs' ++ mrgL h.length [id] 0 G l)[i]? = (bxc h id cs')[i]? := List.getElem?_append_left (by rw [bxc_len]; exact hi)
  rw [if_pos (by rw [List.length_append, bxc_len]; omega), g1, g2, g3]
  unfold bxc
  by_cases e : i = id
  ·subst e
   rw [if_pos (List.mem_singleton.2 rfl), List.getElem?_set_self (by rw [List.length_map]; exact hi), List.getElem?_set_self hi]
   rfl
  ·rw [if_neg (by simpa using e), List.getElem?_set_ne (Ne.symm e), List.getElem?_set_ne (Ne.symm e)]
 ·have hne : i ≠ id := by omega
  have g1 : (bxc h id cs ++ l)[i]? = l[i - h.length]? := by rw [List.getElem?_append_right (by rw [bxc_len]; omega), bxc_len]
  have g2 : (bxc (h.map AB.freeze) id cs' ++ G)[i]? = G[i - h.length]? := by rw [List.getElem?_append_right (by rw [bxc_len, List.length_map]; omega), bxc_len, List.length_map]
  have g3 : (bxc h id cs' ++ mrgL h.length [id] 0 G l)[i]? = (mrgL h.length [id] 0 G l)[i - h.length]? := by rw [List.getElem?_append_right (by rw [bxc_len]; omega), bxc_len]
  rw [g1, g2, g3, mrgL_get, List.length_append, bxc_len]
  by_cases hl : i - h.length < l.length
  ·rw [if_pos hl, if_pos (by omega), if_neg (by simpa using hne), if_neg (show ¬ h.length + (0 + (i - h.length)) ∈ [id] by rw [List.mem_singleton]; omega)]
  ·rw [if_neg hl, if_neg (by omega)]
theorem getD_bxc {id : Nat} (hid : id < h.length) (cs : List AV) (G : List AB) : (bxc h id cs ++ G).getD id .dead = .blk false true cs := by
 rw [List.getD_eq_getElem?_getD, bxc_get hid]
 rfl
theorem bxc_app_len (id : Nat) (cs : List AV) (l : List AB) : (bxc h id cs ++ l).length = h.length + l.length := by rw [List.length_append, bxc_len]
theorem bxc_drop (id : Nat) (cs : List AV) (l : List AB) (n : Nat) : (bxc h id cs ++ l).drop (h.length + n) = l.drop n := drop_ownP (bxc_len id cs) l n
theorem HOk_bxc {id : Nat} (hid : id < h.length) (hh : HOk h) (cs : List AV) (x : List AB) : HOk (bxc h id cs ++ x) = ((okL (fun i => decide (i < h.length + x.length)) cs && x.all fun B => B.ok (fun i => decide (i < h.length + x.length))) = true) := by
 refine propext ⟨fun q => ?_, fun q i B hB => ?_⟩
 ·rw [Bool.and_eq_true]
  refine ⟨?_, List.all_eq_true.2 fun B hB => ?_⟩
  ·have := q id _ (bxc_get hid cs x)
   rw [bxc_app_len] at this
   exact this
  ·obtain ⟨j, hj, rfl⟩ := List.getElem_of_mem hB
   have := q (h.length + j) x[j] (by rw [List.getElem?_append_right (by rw [bxc_len]; omega), bxc_len, Nat.add_sub_cancel_left, List.getElem?_eq_getElem hj])
   rw [bxc_app_len] at this
   exact this
 ·rw [bxc_app_len]
  rw [Bool.and_eq_true] at q
  obtain ⟨q1, q2⟩ := q
  by_cases hi : i < h.length
  ·rw [List.getElem?_append_left (by rw [bxc_len]; exact hi)] at hB
   unfold bxc at hB
   rw [List.getElem?_set] at hB
   split at hB
   ·rename_i e
    subst e
    first | rw [if_pos hid] at hB | skip
    cases hB
    exact q1
   ·exact AB.ok_mono (fun i hi => by simp only [decide_eq_true_eq] at hi ⊢; omega) B (hh i B hB)
  ·rw [List.getElem?_append_right (by rw [bxc_len]; omega), bxc_len] at hB
   exact List.all_eq_true.1 q2 B (List.mem_of_getElem? hB)
end
end Go.Proofs.YtcncpbcbedfakaaGreat
end
