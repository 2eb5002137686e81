/- Values and blocks of an abstract machine, and what they stand for in a world of the model. No program in sight. -/
import Derived.WalkKit
import Derived.Below
import Derived.Deep.AppendSrc
import Derived.Deep.MidRow
namespace Go.Proofs.Ytbcpcjofkfgjoaa
open Go.RowKit

/-- A value whose addresses are those of an abstract heap. -/
inductive AV where
  | b (x : Bool)
  | i (k : IntKind) (n : Int)
  | s (l : List UInt8)
  | p (id off : Nat)
  | np
  | sl (id off len cap : Nat) (k : Option Nat)
  | se
  | ns
  | f (fn : Fn) (fst cap : List AV)
  | nf
  | ifc (t : TypeId) (v : AV)
  | ni
  | ag (l : List AV)
  | tu (l : List AV)
  | top
  | y (id : Nat)

/-- A map of abstract blocks: each one's block, its first cell, and a place up to which the block's cells are there. -/
abbrev Mp := List (Nat × Nat × Nat)

/-- What an abstract value stands for. -/
inductive VR (ρ : Mp) : AV → Value → Prop
  | b (x : Bool) : VR ρ (.b x) (.bool x)
  | i (k : IntKind) (n : Int) : VR ρ (.i k n) (.int k n)
  | s (l : List UInt8) (bs : ByteArray) (h : bs.data.toList = l) : VR ρ (.s l) (.string bs)
  | p (id off b o n : Nat) (h : ρ[id]? = some (b, o, n)) : VR ρ (.p id off) (.pointer (some ⟨b, o + off, none⟩))
  | np : VR ρ .np (.pointer none)
  | sl (id off len cap : Nat) (k : Option Nat) (b o n cap' : Nat) (h : ρ[id]? = some (b, o, n)) (h1 : len ≤ cap) (h2 : cap ≤ cap') (h3 : cap' ≤ maxLen) (h4 : k = none → cap' = cap) (h5 : ∀ z, k = some z → z ≠ 0 → o + off + cap' * z ≤ n) :
      VR ρ (.sl id off len cap k) (.slice (some ⟨b, o + off, none⟩) len cap')
  | sz (id off : Nat) (a : Option Addr) (c : Nat) (h : c ≤ maxLen) (hn : a = none → c = 0) : VR ρ (.sl id off 0 0 (some 0)) (.slice a 0 c)
  | se (a : Addr) (c : Nat) (h : c ≤ maxLen) : VR ρ .se (.slice (some a) 0 c)
  | ns : VR ρ .ns (.slice none 0 0)
  | f (fn : Fn) (fst cap : List AV) (fst' cap' : Array Value) (h0 : fst.length = fst'.size) (h : cap.length = cap'.size) (hv0 : ∀ (j : Nat) a c, fst[j]? = some a → fst'[j]? = some c → VR ρ a c) (hv : ∀ (j : Nat) a c, cap[j]? = some a → cap'[j]? = some c → VR ρ a c) : VR ρ (.f fn fst cap) (.func fn fst' cap')
  | nf : VR ρ .nf .nilFunc
  | ifc (t : TypeId) (v : AV) (v' : Value) (h : VR ρ v v') : VR ρ (.ifc t v) (.iface t v')
  | ni : VR ρ .ni .nilIface
  | ag (l : List AV) (cs : Array Value) (h : l.length = cs.size) (hv : ∀ (j : Nat) a c, l[j]? = some a → cs[j]? = some c → VR ρ a c) : VR ρ (.ag l) (.agg cs)
  | tu (l : List AV) (cs : Array Value) (h : l.length = cs.size) (hv : ∀ (j : Nat) a c, l[j]? = some a → cs[j]? = some c → VR ρ a c) : VR ρ (.tu l) (.tuple cs)
  | top (v : Value) : VR ρ .top v
  | y (id b o n : Nat) (h : ρ[id]? = some (b, o, n)) : VR ρ (.y id) (.func (.yield b) #[] #[])

def Ext (ρ ρ' : Mp) : Prop := ∀ (i : Nat) (x : Nat × Nat × Nat), ρ[i]? = some x → ρ'[i]? = some x
theorem Ext.refl (ρ : Mp) : Ext ρ ρ := fun _ _ h => h
theorem Ext.trans {a b c : Mp} (h : Ext a b) (k : Ext b c) : Ext a c := fun i x e => k i x (h i x e)
theorem Ext.push (ρ : Mp) (x : Nat × Nat × Nat) : Ext ρ (ρ ++ [x]) := fun i y h => by
  rw [List.getElem?_append_left (List.getElem?_eq_some_iff.1 h).1]
  exact h

theorem VR.ext {ρ ρ' : Mp} (he : Ext ρ ρ') {a : AV} {v : Value} (h : VR ρ a v) : VR ρ' a v := by
  induction h with
  | b x => exact .b x
  | i k n => exact .i k n
  | s l bs h => exact .s l bs h
  | p id off b o n h => exact .p id off b o n (he _ _ h)
  | np => exact .np
  | sl id off len cap k b o n cap' h h1 h2 h3 h4 h5 => exact .sl id off len cap k b o n cap' (he _ _ h) h1 h2 h3 h4 h5
  | sz id off a c h hn => exact .sz id off a c h hn
  | se a c h => exact .se a c h
  | ns => exact .ns
  | f fn fst cap fst' cap' h0 h _ _ ih0 ih => exact .f fn fst cap fst' cap' h0 h ih0 ih
  | nf => exact .nf
  | ifc t v v' _ ih => exact .ifc t v v' ih
  | ni => exact .ni
  | ag l cs h _ ih => exact .ag l cs h ih
  | tu l cs h _ ih => exact .tu l cs h ih
  | top v => exact .top v
  | y id b o n h => exact .y id b o n (he _ _ h)

/-- Lists of values, place by place. -/
def VL (ρ : Mp) (l : List AV) (cs : Array Value) : Prop := l.length = cs.size ∧ ∀ (j : Nat) a c, l[j]? = some a → cs[j]? = some c → VR ρ a c
theorem VL.ext {ρ ρ' : Mp} (he : Ext ρ ρ') {l : List AV} {cs : Array Value} (h : VL ρ l cs) : VL ρ' l cs := ⟨h.1, fun j a c h1 h2 => (h.2 j a c h1 h2).ext he⟩
theorem VL.get {ρ : Mp} {l : List AV} {cs : Array Value} (h : VL ρ l cs) {j : Nat} {a : AV} (ha : l[j]? = some a) : ∃ c, cs[j]? = some c ∧ VR ρ a c := by
  have hj : j < cs.size := by rw [← h.1]; exact (List.getElem?_eq_some_iff.1 ha).1
  exact ⟨cs[j], Array.getElem?_eq_getElem hj, h.2 j a _ ha (Array.getElem?_eq_getElem hj)⟩
theorem VL.set {ρ : Mp} {l : List AV} {cs : Array Value} (h : VL ρ l cs) (d : Nat) {a : AV} {c : Value} (hv : VR ρ a c) : VL ρ (l.set d a) (cs.setIfInBounds d c) := by
  refine ⟨by simp [h.1], fun j a' c' h1 h2 => ?_⟩
  rw [List.getElem?_set] at h1
  rw [Array.getElem?_setIfInBounds] at h2
  by_cases hd : d = j
  · subst hd
    simp only [↓reduceIte] at h1 h2
    split at h1
    · split at h2
      · cases h1; cases h2; exact hv
      · cases h2
    · cases h1
  · rw [if_neg hd] at h1 h2
    exact h.2 j a' c' h1 h2
theorem VL.append {ρ : Mp} {l l' : List AV} {cs cs' : Array Value} (h : VL ρ l cs) (h' : VL ρ l' cs') : VL ρ (l ++ l') (cs ++ cs') := by
  refine ⟨by simp [h.1, h'.1], fun j a c h1 h2 => ?_⟩
  by_cases hj : j < l.length
  · rw [List.getElem?_append_left hj] at h1
    rw [Array.getElem?_append_left (by rw [← h.1]; exact hj)] at h2
    exact h.2 j a c h1 h2
  · rw [List.getElem?_append_right (by omega)] at h1
    rw [Array.getElem?_append_right (by rw [← h.1]; omega), ← h.1] at h2
    exact h'.2 _ a c h1 h2
theorem VL.nil (ρ : Mp) : VL ρ [] #[] := ⟨rfl, fun j a c h => by simp at h⟩
theorem VL.cons {ρ : Mp} {a : AV} {c : Value} {l : List AV} {cs : List Value} (h : VR ρ a c) (hl : VL ρ l cs.toArray) : VL ρ (a :: l) (c :: cs).toArray := by
  have := VL.append (l := [a]) (cs := #[c]) ⟨rfl, fun j x y h1 h2 => by
    cases j with
    | zero => simp at h1 h2; cases h1; cases h2; exact h
    | succ j => simp at h1⟩ hl
  simpa using this
theorem VL.one {ρ : Mp} {a : AV} {c : Value} (h : VR ρ a c) : VL ρ [a] #[c] := VL.cons h (VL.nil ρ)

inductive Opd where
  | t (n : Nat)
  | c (v : AV)
def Opd.ev (fr : List AV) : Opd → AV
  | .t n => fr.getD n (.tu [])
  | .c v => v

/-- The kind of a cell that is compared. -/
inductive CK where
  | b | i | s

inductive CO where
  | mv (x : Opd)
  | pick (c a b : Opd)
  | bin (op : BinOp) (x y : Opd)
  | eqb (neg : Bool) (x y : Opd)
  | eqc (ks : List CK) (neg : Bool) (x y : Opd)
  | eqn (neg : Bool) (x y : Opd)
  | un (op : UnOp) (x : Opd)
  | cvi (k : IntKind) (x : Opd)
  | cvs (x : Opd)
  | fad (off : Nat) (x : Opd)
  | fld (off : Nat) (sz : Option Nat) (x : Opd)
  | iad (sz : Nat) (x i : Opd)
  | iaa (n sz : Nat) (x i : Opd)
  | ixs (x i : Opd)
  | ixa (n sz : Nat) (ag : Bool) (x i : Opd)
  | sls (x : Opd) (lo hi : Option Opd)
  | sll (sz : Nat) (x : Opd) (lo hi mx : Option Opd)
  | sla (n sz : Nat) (x : Opd) (lo hi mx : Option Opd)
  | ifc (t : TypeId) (x : Opd)
  | mkf (fn : Fn) (fst cap : List Opd)
  | ext (x : Opd) (i : Nat)
  | len (str : Bool) (x : Opd)
  | lnc (n : Nat)
  | mm (max : Bool) (x y : Opd)
  | nck (x : Opd)
  | tas (x : Opd) (t : TypeId) (ok : Bool) (z : AV)
  | ld (n : Option Nat) (x : Opd)
  | st (n : Option Nat) (x v : Opd)
  | new (fl : Bool) (zs : List AV)
  | box (fl : Bool) (n : Nat) (x : Opd)
  | bld (zs : List AV) (ps : List (Nat × Nat × Opd))
  | bls (fl : Bool) (len : Nat) (zs : List AV) (ps : List (Nat × Nat × Opd))
  | mks (fl : Bool) (z : List AV) (by_ : Nat) (len cap : Opd)
  | app (str fl : Bool) (sz by_ : Nat) (s x : Opd)
  | cpy (str : Bool) (sz : Nat) (d s : Opd)
  | capo (x : Opd)
  | apz (fl : Bool) (z : List AV) (by_ : Nat) (s n : Opd)
  | stop
  | b2s (x : Opd)
  | clr (z : List AV) (x : Opd)
  | bcmp (x y : Opd)
  | s2b (x : Opd)
  | rng (x : Opd)
  | nxt (x : Opd)
  | s2s (x : Opd)
  | bix (x y : Opd)
  | call (f : Opd) (args : List Opd)

structure COper where
  dst : Option Nat
  guard : Option (Nat × Bool)
  op : CO

/-- An operation of a region that draws its order: those that stand ahead of it, the places that it looks at (both as sets). -/
structure DOp where
  o : COper
  anc : Nat
  us : Nat
inductive CC where
  | skip
  | reg (id : Nat) (ops : List COper)
  | drw (id : Nat) (ops : List DOp)
  | seq (a b : CC)
  | cond (c : Opd) (a b : CC)
  | block (id : Nat) (a : CC)
  | loop (a : CC)
  | scope (a : CC)
  | exit (id : Nat)
  | ret
  | stop
  | rf (g : Opd) (ps : List Nat) (a b : CC)
/-- How code is left. -/
inductive XE where
  | n
  | x (id : Nat)
  | r
/-- A block of the abstract heap: gone; a row of cells (flat: no addresses among them; m: owned, may be written). -/
inductive AB where
  | dead
  | blk (fl m : Bool) (xs : List AV)
  | iter (s : ByteArray) (pos : Nat)
  | lp (st : LoopState) (pd : XE) (fr : List AV) (ps : List Nat) (asg bd : CC)
def AB.mut : AB → Bool
  | .dead => false
  | .blk _ m _ => m
  | .iter _ _ => true
  | .lp _ _ _ _ _ _ => true
def AB.live : AB → Bool
  | .dead => false
  | _ => true
theorem AB.live_of_mut {B : AB} (h : B.mut = true) : B.live = true := by
  cases B with
  | dead => simp [AB.mut] at h
  | blk _ _ _ => rfl
  | iter _ _ => rfl
  | lp _ _ _ _ _ _ => rfl
/-- The map under which a block's cells are read. -/
def flm (fl : Bool) (ρ : Mp) : Mp := if fl then [] else ρ
theorem flm_ext (fl : Bool) {ρ ρ' : Mp} (h : Ext ρ ρ') : Ext (flm fl ρ) (flm fl ρ') := by
  unfold flm
  split
  · exact Ext.refl _
  · exact h
theorem ext_nil (ρ : Mp) : Ext [] ρ := fun i x h => by simp at h
theorem flm_sub (fl : Bool) (ρ : Mp) : Ext (flm fl ρ) ρ := by
  unfold flm
  split
  · exact ext_nil ρ
  · exact Ext.refl _

/-- The jump that is pending. -/
def XE.jump : XE → Option Code
  | .n => none
  | .x id => some (.exit id)
  | .r => some .ret
def BR (K : Code → CC → Prop) (ρ : Mp) (w : World) (b o n : Nat) : AB → Prop
  | .dead => True
  | .blk fl m xs => ∃ (cs : Array Value) (e : TypeId) (fz : Nat × Nat), w.heap[b]? = some (.cells cs e fz) ∧ (m = true → fz = (0, 0) ∧ n ≤ cs.size) ∧ o + xs.length ≤ cs.size ∧ ∀ (k : Nat) a c, xs[k]? = some a → cs[o + k]? = some c → VR (flm fl ρ) a c
  | .iter s pos => o = 0 ∧ w.heap[b]? = some (.stringIter s pos)
  | .lp st pd fr ps asg bd => ∃ r : Loop, w.heap[b]? = some (.loop r) ∧ r.state = st ∧ r.pending = pd.jump ∧ VL ρ fr r.tmps ∧ r.params.toList = ps ∧ K r.assign asg ∧ K r.body bd

variable {K : Code → CC → Prop}
structure Rel (K : Code → CC → Prop) (ρ : Mp) (h : List AB) (w : World) : Prop where
  len : ρ.length = h.length
  blk : ∀ (i : Nat) B b o n, h[i]? = some B → ρ[i]? = some (b, o, n) → BR K ρ w b o n B
  sep : ∀ (i j : Nat) bi (oi : Nat × Nat) bj (oj : Nat × Nat) Bi Bj, i ≠ j → h[i]? = some Bi → h[j]? = some Bj → ρ[i]? = some (bi, oi) → ρ[j]? = some (bj, oj) → Bi.mut = true → Bj.live = true → bi ≠ bj

/-- Block b is one that may be written. -/
def Own (ρ : Mp) (h : List AB) (b : Nat) : Prop := ∃ (i : Nat) (B : AB) (o : Nat × Nat), h[i]? = some B ∧ B.mut = true ∧ ρ[i]? = some (b, o)

/-- Block number i is there, at block b of the world. -/
def At (ρ : Mp) (h : List AB) (i b : Nat) : Prop := ∃ (B : AB) (o : Nat × Nat), h[i]? = some B ∧ B.live = true ∧ ρ[i]? = some (b, o)
/-- How often a world has drawn, as far as a seat's contracts tell it (0: not at all). -/
def dr (_w : World) : Nat := 0
theorem dr_drew (w : World) : dr w ≤ dr w.drew := Nat.le_refl _
theorem dr_drew' (w : World) : dr w ≤ dr { w with drawn := w.drawn + 1 } := Nat.le_refl _
/-- What a run may do: it writes owned blocks and new ones. -/
structure Eff (ρ : Mp) (h : List AB) (w : World) (ρ' : Mp) (h' : List AB) (w' : World) : Prop where
  os : w'.os = w.os
  tape : w'.tape = w.tape
  output : w'.output = w.output ∧ dr w ≤ dr w'
  size : w.heap.size ≤ w'.heap.size
  keep : ∀ b, b < w.heap.size → ¬ Own ρ h b → w'.heap[b]? = w.heap[b]?
  own : ∀ b, Own ρ' h' b → Own ρ h b ∨ w.heap.size ≤ b
  liv : ∀ (i : Nat) (b : Nat), At ρ' h' i b → At ρ h i b ∨ Own ρ h b ∨ w.heap.size ≤ b
theorem Eff.refl (ρ : Mp) (h : List AB) (w : World) : Eff ρ h w ρ h w := ⟨rfl, rfl, ⟨rfl, Nat.le_refl _⟩, Nat.le_refl _, fun _ _ _ => rfl, fun _ h => .inl h, fun _ _ h => .inl h⟩
theorem Eff.trans {ρ1 ρ2 ρ3 : Mp} {h1 h2 h3 : List AB} {w1 w2 w3 : World} (a : Eff ρ1 h1 w1 ρ2 h2 w2) (c : Eff ρ2 h2 w2 ρ3 h3 w3) : Eff ρ1 h1 w1 ρ3 h3 w3 :=
  ⟨c.os.trans a.os, c.tape.trans a.tape, ⟨c.output.1.trans a.output.1, Nat.le_trans a.output.2 c.output.2⟩, Nat.le_trans a.size c.size,
   fun b hb hn => (c.keep b (Nat.lt_of_lt_of_le hb a.size) (fun ho => by
     rcases a.own b ho with h | h
     · exact hn h
     · omega)).trans (a.keep b hb hn),
   fun b hb => by
     rcases c.own b hb with h | h
     · exact a.own b h
     · exact .inr (Nat.le_trans a.size h),
   fun i b hb => by
     rcases c.liv i b hb with h | h | h
     · exact a.liv i b h
     · exact .inr (a.own b h)
     · exact .inr (.inr (Nat.le_trans a.size h))⟩

theorem BR.lt {ρ : Mp} {w : World} {b o n : Nat} {B : AB} (h : BR K ρ w b o n B) (hl : B.live = true) : b < w.heap.size := by
  cases B with
  | dead => simp [AB.live] at hl
  | blk fl m xs =>
    obtain ⟨cs, e, fz, h, _⟩ := h
    exact (Array.getElem?_eq_some_iff.1 h).1
  | iter s pos => exact (Array.getElem?_eq_some_iff.1 h.2).1
  | lp st pd fr ps asg bd =>
    obtain ⟨r, h, _⟩ := h
    exact (Array.getElem?_eq_some_iff.1 h).1
/-- A block reads as before where its block of the world is as before. -/
theorem BR.same {ρ ρ' : Mp} (he : Ext ρ ρ') {w w' : World} {b o n : Nat} {B : AB} (h : BR K ρ w b o n B) (hw : B.live = true → w'.heap[b]? = w.heap[b]?) : BR K ρ' w' b o n B := by
  cases B with
  | dead => trivial
  | blk fl m xs =>
    obtain ⟨cs, e, fz, h1, h2, h3, h4⟩ := h
    exact ⟨cs, e, fz, (hw rfl).trans h1, h2, h3, fun k a c ha hc => (h4 k a c ha hc).ext (flm_ext fl he)⟩
  | iter s pos => exact ⟨h.1, (hw rfl).trans h.2⟩
  | lp st pd fr ps asg bd =>
    obtain ⟨r, h1, h2, h3, h4, h5⟩ := h
    exact ⟨r, (hw rfl).trans h1, h2, h3, h4.ext he, h5⟩
theorem Rel.at {ρ : Mp} {h : List AB} {w : World} (r : Rel K ρ h w) {i : Nat} {B : AB} (hi : h[i]? = some B) : ∃ b o n, ρ[i]? = some (b, o, n) ∧ BR K ρ w b o n B := by
  have hlt : i < ρ.length := by rw [r.len]; exact (List.getElem?_eq_some_iff.1 hi).1
  exact ⟨(ρ[i]).1, (ρ[i]).2.1, (ρ[i]).2.2, List.getElem?_eq_getElem hlt, r.blk i B _ _ _ hi (List.getElem?_eq_getElem hlt)⟩
/-- A world with the same heap is as good. -/
theorem Rel.heap {ρ : Mp} {h : List AB} {w w' : World} (r : Rel K ρ h w) (e : w'.heap = w.heap) : Rel K ρ h w' :=
  ⟨r.len, fun i B b o n h1 h2 => (r.blk i B b o n h1 h2).same (Ext.refl _) (fun _ => by rw [e]), r.sep⟩
theorem Rel.drew {ρ : Mp} {h : List AB} {w : World} (r : Rel K ρ h w) : Rel K ρ h w.drew := r.heap rfl
theorem Eff.drew (ρ : Mp) (h : List AB) (w : World) : Eff ρ h w ρ h w.drew := ⟨rfl, rfl, ⟨rfl, dr_drew w⟩, Nat.le_refl _, fun _ _ _ => rfl, fun _ h => .inl h, fun _ _ h => .inl h⟩

/-- One block more, in a new block of the world. -/
theorem Rel.new {ρ : Mp} {h : List AB} {w : World} (r : Rel K ρ h w) (o : Obj) (B : AB) (n : Nat) (hB : BR K (ρ ++ [(w.heap.size, 0, n)]) (w.alloc o) w.heap.size 0 n B) :
    Rel K (ρ ++ [(w.heap.size, 0, n)]) (h ++ [B]) (w.alloc o) ∧ Eff ρ h w (ρ ++ [(w.heap.size, 0, n)]) (h ++ [B]) (w.alloc o) := by
  have old : ∀ (i : Nat) x, i < h.length → (ρ ++ [(w.heap.size, 0, n)])[i]? = some x → ρ[i]? = some x := fun i x hi hx => by
    rw [List.getElem?_append_left (by rw [r.len]; exact hi)] at hx
    exact hx
  have last : ∀ (i : Nat) x, ¬ i < h.length → (ρ ++ [(w.heap.size, 0, n)])[i]? = some x → x = (w.heap.size, 0, n) := fun i x hi hx => by
    rw [List.getElem?_append_right (by rw [r.len]; omega)] at hx
    cases hq : i - ρ.length with
    | zero => rw [hq] at hx; simp at hx; exact hx.symm
    | succ n' => rw [hq] at hx; simp at hx
  have oldB : ∀ (i : Nat) C, i < h.length → (h ++ [B])[i]? = some C → h[i]? = some C := fun i C hi hx => by
    rw [List.getElem?_append_left hi] at hx
    exact hx
  have lastB : ∀ (i : Nat) (C : AB), ¬ i < h.length → (h ++ [B])[i]? = some C → i = h.length ∧ C = B := fun i C hi hx => by
    rw [List.getElem?_append_right (by omega)] at hx
    cases hq : i - h.length with
    | zero => rw [hq] at hx; simp at hx; exact ⟨by omega, hx.symm⟩
    | succ n => rw [hq] at hx; simp at hx
  have live : ∀ (i : Nat) C b (o' : Nat × Nat), h[i]? = some C → ρ[i]? = some (b, o') → C.live = true → b < w.heap.size := fun i C b o' h1 h2 hl => (r.blk i C b o'.1 o'.2 h1 h2).lt hl
  refine ⟨⟨by simp [r.len], fun i C b o' n' h1 h2 => ?_, fun i j bi oi bj oj Bi Bj hne h1 h2 h3 h4 hm hl => ?_⟩, ⟨rfl, rfl, ⟨rfl, Nat.le_refl _⟩, by simp, fun b hb _ => Below.heap_alloc _ _ _ hb, fun b hb => ?_, fun i b hb => ?_⟩⟩
  · by_cases hi : i < h.length
    · have h1' := oldB i C hi h1
      have h2' := old i _ hi h2
      exact (r.blk i C b o' n' h1' h2').same (Ext.push _ _) fun hl => Below.heap_alloc _ _ _ (live i C b (o', n') h1' h2' hl)
    · have := last i _ hi h2
      cases this
      obtain ⟨_, rfl⟩ := lastB i C hi h1
      exact hB
  · by_cases hi : i < h.length
    · by_cases hj : j < h.length
      · exact r.sep i j bi oi bj oj Bi Bj hne (oldB i _ hi h1) (oldB j _ hj h2) (old i _ hi h3) (old j _ hj h4) hm hl
      · have := last j _ hj h4
        cases this
        have := live i Bi bi oi (oldB i _ hi h1) (old i _ hi h3) (AB.live_of_mut hm)
        omega
    · have := last i _ hi h3
      cases this
      by_cases hj : j < h.length
      · have := live j Bj bj oj (oldB j _ hj h2) (old j _ hj h4) hl
        omega
      · have := (lastB i _ hi h1).1
        have := (lastB j _ hj h2).1
        omega
  · obtain ⟨i, C, o', h1, hm, h2⟩ := hb
    by_cases hi : i < h.length
    · exact .inl ⟨i, C, o', oldB i C hi h1, hm, old i _ hi h2⟩
    · have := last i _ hi h2
      cases this
      exact .inr (Nat.le_refl _)
  · obtain ⟨C, o', h1, hm, h2⟩ := hb
    by_cases hi : i < h.length
    · exact .inl ⟨C, o', oldB i C hi h1, hm, old i _ hi h2⟩
    · have := last i _ hi h2
      cases this
      exact .inr (.inr (Nat.le_refl _))
/-- An owned block is written over. -/
theorem Rel.put {ρ : Mp} {h : List AB} {w w' : World} (r : Rel K ρ h w) {i : Nat} {B B' : AB} {b o n : Nat} (hi : h[i]? = some B) (hm : B.mut = true) (hρ : ρ[i]? = some (b, o, n)) (hB : BR K ρ w' b o n B')
    (hos : w'.os = w.os) (ht : w'.tape = w.tape) (hou : w'.output = w.output ∧ dr w ≤ dr w') (hs : w'.heap.size = w.heap.size) (hk : ∀ k, k ≠ b → w'.heap[k]? = w.heap[k]?) (hl : B'.live = true → B.live = true) :
    Rel K ρ (h.set i B') w' ∧ Eff ρ h w ρ (h.set i B') w' := by
  have hlt : i < h.length := (List.getElem?_eq_some_iff.1 hi).1
  have here : ∀ (j : Nat) C, (h.set i B')[j]? = some C → (j = i ∧ C = B') ∨ (j ≠ i ∧ h[j]? = some C) := fun j C hj => by
    rw [List.getElem?_set] at hj
    by_cases hij : i = j
    · subst hij
      simp [hlt] at hj
      exact .inl ⟨rfl, hj.symm⟩
    · rw [if_neg hij] at hj
      exact .inr ⟨fun e => hij e.symm, hj⟩
  have liveB : B.live = true := AB.live_of_mut hm
  refine ⟨⟨by simp [r.len], fun j C b' o' n' h1 h2 => ?_, fun j k bi oi bj oj Bi Bj hne h1 h2 h3 h4 hm' hl' => ?_⟩, ⟨hos, ht, hou, by omega, fun b' hb' hn => hk b' (fun e => hn (e ▸ ⟨i, B, (o, n), hi, hm, hρ⟩)), fun b' hb' => ?_, fun j b' hb' => ?_⟩⟩
  · rcases here j C h1 with ⟨rfl, rfl⟩ | ⟨hne, h1⟩
    · rw [hρ] at h2
      cases h2
      exact hB
    · refine (r.blk j C b' o' n' h1 h2).same (Ext.refl _) fun hl' => hk b' fun e => ?_
      subst e
      exact r.sep i j _ _ _ _ B C (fun e => hne e.symm) hi h1 hρ h2 hm hl' rfl
  · rcases here j Bi h1 with ⟨rfl, rfl⟩ | ⟨hj, h1'⟩
    · rcases here k Bj h2 with ⟨rfl, rfl⟩ | ⟨hk', h2'⟩
      · exact absurd rfl hne
      · exact r.sep j k bi oi bj oj B Bj hne hi h2' h3 h4 hm hl'
    · rcases here k Bj h2 with ⟨rfl, rfl⟩ | ⟨hk', h2'⟩
      · exact r.sep j k bi oi bj oj Bi B hne h1' hi h3 h4 hm' (hl hl')
      · exact r.sep j k bi oi bj oj Bi Bj hne h1' h2' h3 h4 hm' hl'
  · obtain ⟨j, C, o', h1, hm', h2⟩ := hb'
    rcases here j C h1 with ⟨rfl, rfl⟩ | ⟨hne, h1⟩
    · exact .inl ⟨j, B, o', hi, hm, h2⟩
    · exact .inl ⟨j, C, o', h1, hm', h2⟩
  · obtain ⟨C, o', h1, hm', h2⟩ := hb'
    rcases here j C h1 with ⟨rfl, rfl⟩ | ⟨hne, h1⟩
    · exact .inl ⟨B, o', hi, liveB, h2⟩
    · exact .inl ⟨C, o', h1, hm', h2⟩
end Go.Proofs.Ytbcpcjofkfgjoaa
