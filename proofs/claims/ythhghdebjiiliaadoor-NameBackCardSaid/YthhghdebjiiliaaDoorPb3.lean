/- Part 3 of what the laws' proofs rest on. No condition. -/
import Derived.Lib.AppendZeros
import Derived.Laws.BytesString
import Derived.Laws.IdiomStrings
import Derived.Lib.OthersKept
import Derived.Test.YthhghdebjiiliaaDoorPb2
set_option linter.all false
section
namespace Go.Proofs.YthhghdebjiiliaaDoor
open Go.RowKit
section
variable {P : Program} {K : Code → CC → Prop}
theorem YYt {x : AV} : x.isStr = true ↔ ∃ l, x = .s l := by
 cases x <;> simp [AV.isStr]
theorem XBI {x : AV} (h : x.isStr = false) : ∀ l, x ≠ .s l := fun l e => by
 subst e
 cases h
theorem YJA : ∀ (cs : List AV) (l : List UInt8), bytesOf cs = some l → ∃ ns : List Int, cs = ns.map (AV.i .u8) ∧ l = ns.map fun n => UInt8.ofNat n.toNat
 | [], l, e => by cases e; exact ⟨[], rfl, rfl⟩
 | x :: cs, l, e => by
  unfold bytesOf at e
  split at e
  ·cases ‹x :: cs = []›
  ·rename_i n rest heq
   cases heq
   obtain ⟨l', hl', rfl⟩ := Option.map_eq_some_iff.1 e
   obtain ⟨ns, h1, h2⟩ := YJA cs l' hl'
   exact ⟨n :: ns, by rw [h1]; rfl, by rw [h2]; rfl⟩
  ·cases e
theorem Xxg (ns : List Int) : ∀ (s : ByteArray), (ns.foldl (fun r n => r.push (UInt8.ofNat n.toNat)) s).data.toList = s.data.toList ++ ns.map fun n => UInt8.ofNat n.toNat := by
 induction ns with
 | nil => intro s; simp
 | cons n ns ih =>
  intro s
  rw [List.foldl_cons, ih]
  simp [ByteArray.push]
theorem quP {ρ : Mp} {h : List AB} {w : World} (hr : Rel K ρ h w) (src dst e : TypeId) (hs : P.underlying src = some (.slice e)) (he : P.underlying e = some (.int .u8)) (hd : P.underlying dst = some .string) {x : AV} (hx0 : ∀ l, x ≠ .s l) {vx : Value} (hx : VR ρ x vx) {m : Nat} {cs : List AV} (hsrc : srcV h 1 x = some (m, cs)) {l : List UInt8} (hl : bytesOf cs = some l) :
  Good K P ρ h w (convert src dst vx) (.s l, h) := by
 obtain ⟨ns, rfl, rfl⟩ := YJA cs l hl
 obtain ⟨news, hS, hvn⟩ := QET (P := P) hr hsrc hx src hs (.inr ⟨hx0, e, rfl⟩) (by rw [List.all_map]; exact List.all_eq_true.2 fun _ _ => rfl)
 have hnews : news = ns.map (Value.int .u8) := by
  apply List.ext_getElem?
  intro j
  have hlen := hvn.1
  simp only [List.length_map, List.size_toArray] at hlen
  rcases Nat.lt_or_ge j news.length with q | q
  ·have h1 : (ns.map (AV.i .u8))[j]? = some (AV.i .u8 (ns[j]'(by omega))) := by
    rw [List.getElem?_map, List.getElem?_eq_getElem (by omega : j < ns.length)]
    rfl
   have h2 := hvn.2 j _ _ h1 (by rw [List.getElem?_toArray]; exact List.getElem?_eq_getElem q)
   rw [List.getElem?_eq_getElem q, List.getElem?_map, List.getElem?_eq_getElem (by omega : j < ns.length)]
   generalize news[j] = u at h2 ⊢
   cases h2
   rfl
  ·rw [List.getElem?_eq_none q, List.getElem?_eq_none (by simp; omega)]
 subst hnews
 have hm : ns.length = m := by
  have := hS.newsLen
  simpa using this
 have fin : ∀ (a : Addr) (len c : Nat), len = m → vx = .slice (some a) len c → Good K P ρ h w (convert src dst vx) (.s (ns.map fun n => UInt8.ofNat n.toNat), h) := by
  rintro a len c rfl rfl
  have hc := hS.cells
  simp only [Builtin.firstCells, Nat.mul_one] at hc
  refine ⟨.string (ns.foldl (fun r n => r.push (UInt8.ofNat n.toNat)) ByteArray.empty), w, ρ, ?_, Ext.refl _, hr, .s _ _ ?_, Eff.refl _ _ _⟩
  ·rw [run_convert_bytes_string w src dst e _ _ _ hs he hd]
   exact run_bytesToString w a len c ns hc
  ·rw [Xxg]
   rfl
 cases hx with
 | ns =>
  simp only [srcV, Option.some.injEq, Prod.mk.injEq] at hsrc
  have : ns = [] := by simpa using hsrc.2.symm
  subst this
  refine ⟨.string .empty, w, ρ, ?_, Ext.refl _, hr, .s _ _ rfl, Eff.refl _ _ _⟩
  rw [run_convert_bytes_string w src dst e _ _ _ hs he hd]
  rfl
 | se a c hc =>
  simp only [srcV, Option.some.injEq, Prod.mk.injEq] at hsrc
  exact fin a 0 c hsrc.1 rfl
 | sz id off a c hc hn =>
  simp only [srcV, if_true, Option.some.injEq, Prod.mk.injEq] at hsrc
  cases a with
  | none =>
   have : ns = [] := by simpa using hsrc.2.symm
   subst this
   refine ⟨.string .empty, w, ρ, ?_, Ext.refl _, hr, .s _ _ rfl, Eff.refl _ _ _⟩
   rw [run_convert_bytes_string w src dst e _ _ _ hs he hd]
   rfl
  | some a => exact fin a 0 c hsrc.1 rfl
 | sl id off len cap k b o n cap' hρ h1 h2 h3 h4 h5 =>
  simp only [srcV] at hsrc
  split at hsrc
  ·rename_i h0
   subst h0
   simp only [Option.some.injEq, Prod.mk.injEq] at hsrc
   exact fin _ 0 cap' hsrc.1 rfl
  obtain ⟨xs, hxs, hsrc⟩ := Option.bind_eq_some_iff.1 hsrc
  split at hsrc
  ·simp only [Option.some.injEq, Prod.mk.injEq] at hsrc
   exact fin _ len cap' hsrc.1 rfl
  ·cases hsrc
 | s l bs hl => exact absurd rfl (hx0 l)
 | _ => simp [srcV] at hsrc
theorem Kui {ρ : Mp} {h : List AB} {w : World} (hr : Rel K ρ h w) (t tx ty e : TypeId) {d : TypeDesc} {i : TypeInfo} (ht : P.underlying t = some (.slice e)) (hi : P.info? e = some i) (hd : P.underlying tx = some d)
  {s x : AV} {vs vx : Value} (hs : VR ρ s vs) (hx : VR ρ x vx) (hty : (∃ l, x = .s l) ∧ d = .string ∨ (∀ l, x ≠ .s l) ∧ ∃ e', d = .slice e') {r : AV × List AB} (er : cpyV h i.size s x = some r) :
  Good K P ρ h w (Builtin.copy_ #[t, tx] ty #[vs, vx]) r := by
 unfold cpyV at er
 obtain ⟨⟨m, ys⟩, hsrc, er⟩ := Option.bind_eq_some_iff.1 er
 simp only at er
 split at er
 case h_2 => cases er
 rename_i id off len cap k _
 split at er
 case isFalse => cases er
 rename_i hml
 obtain ⟨h', hst, rfl⟩ := Option.map_eq_some_iff.1 er
 obtain ⟨fl, xs, hb, hle, hok, _⟩ := zCD hst
 obtain ⟨news, hS, hvn⟩ := QET (P := P) hr hsrc hx tx hd hty (Yiu hok)
 have hmin : Nat.min m len = m := Nat.min_eq_left hml
 cases hs with
 | sl id off len cap k b o n cap' hρ h1 h2 h3 h4 h5 =>
  obtain ⟨w', g1, g2, g3⟩ := ZHO (P := P) hr hst hρ hvn
  refine ⟨.int .i64 m, w', ρ, ?_, Ext.refl _, g2, .i _ _, g3⟩
  simp [Builtin.copy_, run_underlying ht, sizeOf, typeInfo, hi, hS.len, hmin, hS.cells, g1, goInt]
 | sz id off a c hc hn =>
  have hm0 : m = 0 := by omega
  subst hm0
  have hn0 : news = [] := List.eq_nil_of_length_eq_zero (by have := hS.newsLen; simpa using this)
  subst hn0
  have hy0 : ys = [] := List.eq_nil_of_length_eq_zero (by have := hvn.1; simpa using this)
  subst hy0
  obtain ⟨bo, o', n', hρ, _⟩ := hr.at hb
  obtain ⟨w', g1, g2, g3⟩ := ZHO (P := P) hr hst hρ hvn
  have hw : w' = w := by
   have : (storeCells ⟨bo, o' + off, none⟩ [] 0).run P w = .ok () w := rfl
   rw [this] at g1
   cases g1
   rfl
  subst hw
  refine ⟨.int .i64 (0 : Nat), w', ρ, ?_, Ext.refl _, g2, .i _ _, g3⟩
  cases a with
  | none => simp [Builtin.copy_, run_underlying ht, sizeOf, typeInfo, hi, hS.len, hS.cells, goInt]
  | some a =>
   have e0 : (storeCells a [] 0).run P w' = .ok () w' := rfl
   simp [Builtin.copy_, run_underlying ht, sizeOf, typeInfo, hi, hS.len, hS.cells, goInt, e0]
theorem J6z {ρ : Mp} {h : List AB} {w : World} (hr : Rel K ρ h w) (t tn ty e : TypeId) {kn : IntKind} {ie : TypeInfo} {z : Value} (ht : P.underlying t = some (.slice e)) (htn : P.underlying tn = some (.int kn)) (hie : P.info? e = some ie) (hz : ie.zero = some z) (hzs : z.cells.size = ie.size) (hs0 : ie.size ≠ 0) (fl : Bool) {zl : List AV} (hzl : VL ρ zl z.cells)
  {k : IntKind} {m : Int} (hm : 0 < m) (hby : m.toNat * ie.bytes ≤ 140737488355328) (hmx : m.toNat ≤ maxLen) {r : AV × List AB} (en : newB h fl ((List.replicate m.toNat zl).flatten) (fun q => .sl q 0 m.toNat m.toNat (some zl.length)) = some r) :
  Good K P ρ h w (Builtin.append_ #[t, tn] ty #[.slice none 0 0, .int k m]) r := by
 obtain ⟨hok, rfl⟩ := K2I en
 have hrun := Lib.run_append_nil_zeros (P := P) w t tn ty e ie z k kn ht htn hie hz m.toNat (by omega) (by omega) (by unfold maxLen at hmx; omega) (by omega)
 have hme : ((m.toNat : Nat) : Int) = m := by omega
 rw [hme] at hrun
 have hge := grownCap_ge w m.toNat 0 e
 have hle := grownCap_le_maxLen w m.toNat 0 e hmx
 have hl : zl.length = ie.size := by rw [hzl.1, hzs]
 have hY : VL ρ ((List.replicate m.toNat zl).flatten) (Builtin.zeroCells z.cells m.toNat) := by
  have := ZLX (ρ := ρ) hzs hs0 hzl m.toNat
  rw [← hzs] at this
  exact this
 have hnew := Zau hr.drew e fl (rest := Builtin.zeroCells z.cells (grownCap w m.toNat 0 e - m.toNat)) (hY.wr hok)
 refine ⟨_, _, _, hrun, Ext.push _ _, hnew.1, ?_, (Eff.drew ρ h w).trans hnew.2⟩
 have := VR.sl (ρ := ρ ++ [(w.drew.heap.size, 0, (Builtin.zeroCells z.cells m.toNat ++ Builtin.zeroCells z.cells (grownCap w m.toNat 0 e - m.toNat)).size)]) h.length 0 m.toNat m.toNat (some zl.length) w.heap.size 0 _ (grownCap w m.toNat 0 e) (Q00 ρ h _ hr.len) (Nat.le_refl _) hge hle (fun hk => by cases hk) (fun z' hz' _ => by
  cases hz'
  simp only [Array.size_append, size_zeroCells, hzs, hl]
  have hq : m.toNat * ie.size + (grownCap w m.toNat 0 e - m.toNat) * ie.size = grownCap w m.toNat 0 e * ie.size := by rw [← Nat.add_mul, Nat.add_sub_cancel' hge]
  omega)
 simpa using this
theorem Kmp (w : World) (b : Nat) : ∀ (ns : List Int) (i : Nat) (acc : ByteArray), (∀ (j : Nat) u, ns[j]? = some u → w.cell? ⟨b, i + j, none⟩ = some (.int .u8 u)) →
  (Extern.Bytes.loadBytes ⟨b, i, none⟩ ns.length acc).run P w = .ok (ns.foldl (fun r n => r.push (UInt8.ofNat n.toNat)) acc) w
 | [], _, _, _ => rfl
 | n :: ns, i, acc, h => by
  have h0 := h 0 n rfl
  rw [Nat.add_zero] at h0
  have ih := Kmp w b ns (i + 1) (acc.push (UInt8.ofNat n.toNat)) (fun j u hu => by
   rw [show i + 1 + j = i + (j + 1) by omega]
   exact h (j + 1) u (by simpa using hu))
  have hadd : (⟨b, i, none⟩ : Addr).add 1 = ⟨b, i + 1, none⟩ := by unfold Addr.add; split <;> simp_all
  simp only [List.length_cons, Extern.Bytes.loadBytes, List.foldl_cons]
  have hl : (load (⟨b, i, none⟩ : Addr)).run P w = .ok (.int .u8 n) w := by rw [run_load, h0]
  rw [hadd, Sem.run_bind, hl]
  exact ih
theorem qzl {ρ : Mp} {h : List AB} {w : World} (hr : Rel K ρ h w) {x : AV} {vx : Value} (hx : VR ρ x vx) {m : Nat} {cs : List AV} (hsrc : srcV h 1 x = some (m, cs)) {l : List UInt8} (hl : bytesOf cs = some l) :
  ∃ bs : ByteArray, (Extern.Bytes.bytesOf vx).run P w = .ok bs w ∧ bs = ⟨l.toArray⟩ := by
 obtain ⟨ns, rfl, rfl⟩ := YJA cs l hl
 have nil : ns.map (AV.i .u8) = [] → ns = [] := fun e => by simpa using e
 cases hx with
 | ns =>
  simp only [srcV, Option.some.injEq, Prod.mk.injEq] at hsrc
  obtain rfl := nil hsrc.2.symm
  exact ⟨.empty, rfl, rfl⟩
 | se a c hc =>
  simp only [srcV, Option.some.injEq, Prod.mk.injEq] at hsrc
  obtain rfl := nil hsrc.2.symm
  exact ⟨.empty, rfl, rfl⟩
 | s l bs h =>
  subst h
  simp only [srcV, if_true, Option.some.injEq, Prod.mk.injEq] at hsrc
  refine ⟨bs, rfl, ?_⟩
  have h2 := hsrc.2
  have key : ∀ (us : List UInt8) (zs : List Int), us.map (fun b => AV.i .u8 (b.toNat : Int)) = zs.map (AV.i .u8) → zs.map (fun n => UInt8.ofNat n.toNat) = us := by
   intro us
   induction us with
   | nil => intro zs e; cases zs with
    | nil => rfl
    | cons z zs => simp at e
   | cons u us ih =>
    intro zs e
    cases zs with
    | nil => simp at e
    | cons z zs =>
     simp only [List.map_cons, List.cons.injEq, AV.i.injEq, true_and] at e
     rw [List.map_cons, ih zs e.2, ← e.1]
     simp
  rw [key _ _ h2]
 | sz id off a c hc hn =>
  simp only [srcV, if_true, Option.some.injEq, Prod.mk.injEq] at hsrc
  obtain rfl := nil hsrc.2.symm
  cases a <;> exact ⟨.empty, rfl, rfl⟩
 | sl id off len cap k b o n cap' hρ h1 h2 h3 h4 h5 =>
  simp only [srcV] at hsrc
  split at hsrc
  ·rename_i h0
   subst h0
   simp only [Option.some.injEq, Prod.mk.injEq] at hsrc
   obtain rfl := nil hsrc.2.symm
   exact ⟨.empty, rfl, rfl⟩
  obtain ⟨xs, hxs, hsrc⟩ := Option.bind_eq_some_iff.1 hsrc
  split at hsrc
  ·rename_i hle
   simp only [Option.some.injEq, Prod.mk.injEq, Nat.mul_one] at hsrc hle
   obtain ⟨vs, g1, g2, g3⟩ := hr.win hxs hρ off len hle
   rw [hsrc.2] at g3
   have hlen := g3.1
   simp only [List.length_map, List.size_toArray] at hlen
   have hload := Kmp (P := P) w b ns (o + off) .empty (fun j u hu => by
    have hj : j < ns.length := (List.getElem?_eq_some_iff.1 hu).1
    have h1 : (ns.map (AV.i .u8))[j]? = some (AV.i .u8 u) := by rw [List.getElem?_map, hu]; rfl
    have h2 := g3.2 j _ vs[j] h1 (by rw [List.getElem?_toArray]; exact List.getElem?_eq_getElem (by omega))
    have h3 := g2 j vs[j] (List.getElem?_eq_getElem (by omega))
    have hadd : (⟨b, o + off, none⟩ : Addr).add j = ⟨b, o + off + j, none⟩ := by unfold Addr.add; split <;> simp_all
    rw [hadd] at h3
    generalize vs[j] = z at h2 h3
    cases h2
    exact h3)
   have hn : ns.length = len := by omega
   rw [hn] at hload
   refine ⟨_, hload, ?_⟩
   apply ByteArray.ext
   apply Array.ext'
   rw [Xxg]
   rfl
  ·cases hsrc
 | _ => cases hsrc
theorem QGd (fn : Func) (h : fn.name = "internal/bytealg.Compare" ∨ fn.name = "internal/bytealg.abigen_runtime_cmpstring") (ho : fn.origin = "") : Extern.findNext fn = none ∧ Extern.find fn = some Extern.BytealgCompare.compare := by
 have n0 : List.lookup "" Extern.allNextRows = none := by kernel_rfl
 have n1 : List.lookup "internal/bytealg.Compare" Extern.allNextRows = none := by kernel_rfl
 have n2 : List.lookup "internal/bytealg.abigen_runtime_cmpstring" Extern.allNextRows = none := by kernel_rfl
 have g1 : List.lookup "internal/bytealg.Compare" Extern.allGenericRows = none := by kernel_rfl
 have g2 : List.lookup "internal/bytealg.abigen_runtime_cmpstring" Extern.allGenericRows = none := by kernel_rfl
 have t1 : List.lookup "internal/bytealg.Compare" Extern.allTypedRows = none := by kernel_rfl
 have t2 : List.lookup "internal/bytealg.abigen_runtime_cmpstring" Extern.allTypedRows = none := by kernel_rfl
 have r1 : List.lookup "internal/bytealg.Compare" Extern.allRows = some Extern.BytealgCompare.compare := by kernel_rfl
 have r2 : List.lookup "internal/bytealg.abigen_runtime_cmpstring" Extern.allRows = some Extern.BytealgCompare.compare := by kernel_rfl
 unfold Extern.findNext Extern.find
 rcases h with h | h
 ·simp only [h, ho, n0, n1, g1, t1, r1]
  exact ⟨rfl, rfl⟩
 ·simp only [h, ho, n0, n2, g2, t2, r2]
  exact ⟨rfl, rfl⟩
theorem Xoy {ρ : Mp} {h : List AB} {w : World} (hr : Rel K ρ h w) (src dst e : TypeId) (hs : P.underlying src = some .string) (hd : P.underlying dst = some (.slice e)) (he : P.underlying e = some (.int .u8)) {l : List UInt8} {vx : Value} (hx : VR ρ (.s l) vx) (hl : l.length ≤ maxLen) :
  Good K P ρ h w (convert src dst vx) (.sl h.length 0 l.length l.length (some 1), h ++ [.blk true true (l.map fun b => .i .u8 (b.toNat : Int))]) := by
 cases hx with
 | s _ bs hb =>
  have hrun := run_bytes_of_string (P := P) w src dst e bs hs hd he
  have hz : bs.size = l.length := by rw [← hb, Array.length_toList]; rfl
  have hge := grownCap_ge w bs.size 0 e
  have hle := grownCap_le_maxLen w bs.size 0 e (by rw [hz]; exact hl)
  have hsz : (bytesRow bs (grownCap w bs.size 0 e)).size = grownCap w bs.size 0 e := by
   unfold bytesRow
   simp only [Array.size_append, Array.size_map, Array.size_replicate]
   have : bs.data.size = bs.size := rfl
   omega
  obtain ⟨row, hrow⟩ : ∃ row, row = bytesRow bs (grownCap w bs.size 0 e) := ⟨_, rfl⟩
  rw [← hrow] at hrun hsz
  have hB : BR K (ρ ++ [(w.drew.heap.size, 0, row.size)]) (w.drew.alloc (.cells row e (row.size, row.size + 1))) w.drew.heap.size 0 row.size (.blk true true (l.map fun b => .i .u8 (b.toNat : Int))) := by
   refine ⟨row, e, (row.size, row.size + 1), heap_alloc_new w.drew _, fun _ => ⟨.inr (Nat.le_refl _), Nat.le_refl _⟩, by rw [hsz]; simp; omega, fun k a c ha hc => ?_⟩
   rw [Nat.zero_add] at hc
   have hk : k < l.length := by
    have := (List.getElem?_eq_some_iff.1 ha).1
    simpa using this
   rw [hrow] at hc
   unfold bytesRow at hc
   rw [Array.getElem?_append_left (by simp; have : bs.data.size = bs.size := rfl; omega)] at hc
   rw [List.getElem?_map] at ha
   rw [Array.getElem?_map] at hc
   obtain ⟨x, hx, rfl⟩ := Option.map_eq_some_iff.1 ha
   obtain ⟨y, hy, rfl⟩ := Option.map_eq_some_iff.1 hc
   have : x = y := by
    rw [← hb, Array.getElem?_toList] at hx
    rw [hy] at hx
    cases hx
    rfl
   subst this
   exact .i _ _
  have hnew := hr.drew.new _ _ _ hB
  refine ⟨_, _, _, hrun, Ext.push _ _, hnew.1, ?_, (Eff.drew ρ h w).trans hnew.2⟩
  rw [hz] at hge hle hsz ⊢
  have := VR.sl (ρ := ρ ++ [(w.drew.heap.size, 0, row.size)]) h.length 0 l.length l.length (some 1) w.heap.size 0 _ (grownCap w l.length 0 e) (Q00 ρ h _ hr.len) (Nat.le_refl _) hge hle (fun hk => by cases hk) (fun z' hz' _ => by
   cases hz'
   omega)
  simpa using this
theorem XWY {ρ : Mp} {h : List AB} {w : World} (hr : Rel K ρ h w) (t : TypeId) (ht : P.underlying t = some .string) {l : List UInt8} {vx : Value} (hx : VR ρ (.s l) vx) : Good K P ρ h w (Instr.range t vx) (.p h.length 0, h ++ [.iter ⟨l.toArray⟩ 0]) := by
 cases hx with
 | s _ bs hb =>
  obtain rfl : bs = ⟨l.toArray⟩ := by
   obtain ⟨d⟩ := bs
   rw [← hb, Array.toArray_toList]
  have hnew := hr.new (.stringIter ⟨l.toArray⟩ 0) (.iter ⟨l.toArray⟩ 0) 0 ⟨rfl, heap_alloc_new w _⟩
  refine ⟨_, _, _, run_range_string w t _ ht, Ext.push _ _, hnew.1, ?_, hnew.2⟩
  have := VR.p (ρ := ρ ++ [(w.heap.size, 0, 0)]) h.length 0 w.heap.size 0 0 (Q00 ρ h _ hr.len)
  simpa using this
theorem Z8l {ρ : Mp} {h : List AB} {w : World} (hr : Rel K ρ h w) (ty : TypeId) {id : Nat} {s : ByteArray} {pos : Nat} {vx : Value} (hx : VR ρ (.p id 0) vx) (hi : h[id]? = some (.iter s pos)) {r : AV × List AB}
  (er : (if pos < s.size then some (AV.tu [.b true, .i .i64 (pos : Int), .i .i32 ((Utf8.decode s pos).1 : Int)], h.set id (.iter s (pos + (Utf8.decode s pos).2))) else some (.tu [.b false], h)) = some r) : Good K P ρ h w (Instr.next vx true ty) r := by
 cases hx with
 | p _ _ b o n hρ =>
  obtain ⟨ho, hb⟩ := hr.blk id _ b o n hi hρ
  subst ho
  by_cases g : pos < s.size
  ·rw [if_pos g] at er
   cases er
   have hrun := Lib.run_next_any_at (P := P) w b s pos ty hb g
   have hput := hr.put (w' := w.iterAt b s (pos + (Utf8.decode s pos).2)) (B' := .iter s (pos + (Utf8.decode s pos).2)) hi rfl hρ ⟨rfl, Lib.iterAt_heap w b s pos _ hb⟩ rfl rfl ⟨rfl, Nat.le_refl _⟩ (by simp [World.iterAt]) (fun k hk => by
    simp only [World.iterAt]
    rw [Array.getElem?_setIfInBounds_ne (Ne.symm hk)]) (fun _ => rfl)
   refine ⟨_, _, ρ, hrun, Ext.refl _, hput.1, .tu _ _ rfl fun j a c h1 h2 => ?_, hput.2⟩
   match j with
   | 0 => cases h1; cases h2; exact .b _
   | 1 => cases h1; cases h2; exact .i _ _
   | 2 => cases h1; cases h2; exact .i _ _
   | j + 3 => simp at h1
  ·rw [if_neg g] at er
   cases er
   have hrun := Lib.run_next_end_at (P := P) w b s pos ty hb g
   refine ⟨_, _, ρ, hrun, Ext.refl _, hr, .tu _ _ rfl fun j a c h1 h2 => ?_, Eff.refl _ _ _⟩
   match j with
   | 0 => cases h1; cases h2; exact .b _
   | j + 1 => simp at h1
theorem qmA {ρ : Mp} {h : List AB} {w : World} (hr : Rel K ρ h w) (t e : TypeId) (ht : P.underlying t = some (.slice e)) (he : P.underlying e = some (.int .u8)) {id off n c : Nat} {k : Option Nat} (hn : ¬ n = 0) {vx : Value} (hx : VR ρ (.sl id off n c k) vx) {fl : Bool} {xs : List AV} (hi : h[id]? = some (.blk fl true xs)) : Good K P ρ h w (convert t t vx) (.sl id off n c k, h.set id (.blk fl false xs)) := by
 cases hx with
 | sz _ _ a c' hc hna => exact absurd rfl hn
 | sl _ _ _ _ _ b o m cap' hρ h1 h2 h3 h4 h5 =>
  obtain ⟨cs, ty, fz, hb, hm, hle, hv⟩ := hr.blk id _ b o m hi hρ
  obtain ⟨_, hmc⟩ := hm rfl
  have hlt : b < w.heap.size := (Array.getElem?_eq_some_iff.1 hb).1
  have hsh : w.shape? b = some (ty, cs.size) := by
   unfold World.shape?
   rw [hb]
  have hrun : (convert t t (.slice (some ⟨b, o + off, none⟩) n cap')).run P w = .ok (.slice (some ⟨b, o + off, none⟩) n cap') (w.freeze ⟨b, cs.size, none⟩ 1) := by
   simp [convert, run_underlying ht, run_underlying he, markStringish, hsh]
  obtain ⟨fz', hfz⟩ : ∃ fz', (w.freeze ⟨b, cs.size, none⟩ 1).heap[b]? = some (.cells cs ty fz') := by
   obtain ⟨lo, up⟩ := fz
   refine ⟨if lo == up then (cs.size, cs.size + 1) else (min lo cs.size, max up (cs.size + 1)), ?_⟩
   unfold World.freeze
   rw [if_neg (by decide)]
   simp only [Array.getElem?_modify, if_true]
   rw [hb]
   rfl
  have hput := hr.put (w' := w.freeze ⟨b, cs.size, none⟩ 1) (B' := .blk fl false xs) hi rfl hρ ⟨cs, ty, _, hfz, fun q => absurd q (by decide), hle, hv⟩ (by unfold World.freeze; rw [if_neg (by decide)]) (by unfold World.freeze; rw [if_neg (by decide)]) (by unfold World.freeze; rw [if_neg (by decide)]; exact ⟨rfl, Nat.le_refl _⟩) (by unfold World.freeze; rw [if_neg (by decide)]; simp) (fun q hq => by
   unfold World.freeze
   rw [if_neg (by decide)]
   simp only [Array.getElem?_modify]
   rw [if_neg (Ne.symm hq)]) (fun _ => rfl)
  exact ⟨_, _, ρ, hrun, Ext.refl _, hput.1, .sl _ _ _ _ _ b o m cap' hρ h1 h2 h3 h4 h5, hput.2⟩
theorem Yu0 (fn : Func) (h : fn.name = "internal/bytealg.IndexByteString") (ho : fn.origin = "") : Extern.findNext fn = none ∧ Extern.find fn = some Extern.BytealgIndexByte.indexByte := by
 have n0 : List.lookup "" Extern.allNextRows = none := by kernel_rfl
 have n1 : List.lookup "internal/bytealg.IndexByteString" Extern.allNextRows = none := by kernel_rfl
 have g1 : List.lookup "internal/bytealg.IndexByteString" Extern.allGenericRows = none := by kernel_rfl
 have t1 : List.lookup "internal/bytealg.IndexByteString" Extern.allTypedRows = none := by kernel_rfl
 have r1 : List.lookup "internal/bytealg.IndexByteString" Extern.allRows = some Extern.BytealgIndexByte.indexByte := by kernel_rfl
 unfold Extern.findNext Extern.find
 simp only [h, ho, n0, n1, g1, t1, r1]
 exact ⟨rfl, rfl⟩
theorem qzQ {ρ : Mp} {w : World} {g : FuncId} {fn : Func} (hf : P.funcs[g]? = some fn) (hname : fn.name = "internal/bytealg.IndexByteString") (ho : fn.origin = "") (hb : fn.body.isNone = true) {l : List UInt8} {n : Int} {vx vy : Value} (hx : VR ρ (.s l) vx) (hy : VR ρ (.i .u8 n) vy) :
  (callFunc g #[vx, vy]).run P w = .ok (.value (.int .i64 (match (List.range l.length).find? fun i => (⟨l.toArray⟩ : ByteArray)[i]! == UInt8.ofNat n.toNat with | some i => (i : Int) | none => -1))) w := by
 cases hx with
 | s _ bs hbs =>
  cases hy with
  | i _ _ =>
   obtain rfl : bs = ⟨l.toArray⟩ := by
    obtain ⟨d⟩ := bs
    rw [← hbs, Array.toArray_toList]
   obtain ⟨f1, f2⟩ := Yu0 fn hname ho
   rw [run_callFunc_extern hf (by rw [hname]; decide) hb f1 f2]
   have hsz : (⟨l.toArray⟩ : ByteArray).size = l.length := by simp [ByteArray.size]
   have : (Extern.BytealgIndexByte.indexByte #[.string ⟨l.toArray⟩, .int .u8 n]).run P w = .ok (.int .i64 (match (List.range l.length).find? fun i => (⟨l.toArray⟩ : ByteArray)[i]! == UInt8.ofNat n.toNat with | some i => (i : Int) | none => -1)) w := by
    change Sem.run P (do
     let b ← Extern.Bytes.bytesOf (.string ⟨l.toArray⟩)
     let c ← Extern.Bytes.asByte (.int .u8 n)
     match (List.range b.size).find? fun i => b[i]! == c with
     | some i => pure (goInt i)
     | none => pure (goInt (-1))) w = _
    have b1 : (Extern.Bytes.bytesOf (.string ⟨l.toArray⟩)).run P w = .ok (⟨l.toArray⟩ : ByteArray) w := rfl
    have b2 : (Extern.Bytes.asByte (.int .u8 n)).run P w = .ok (UInt8.ofNat n.toNat) w := rfl
    rw [Sem.run_bind, b1, Result.andThen_ok, Sem.run_bind, b2, Result.andThen_ok, hsz]
    cases (List.range l.length).find? fun i => (⟨l.toArray⟩ : ByteArray)[i]! == UInt8.ofNat n.toNat with
    | none => rfl
    | some i => rfl
   rw [this]
   rfl
theorem zcA {ρ : Mp} {h : List AB} {w : World} (hr : Rel K ρ h w) {g : FuncId} {fn : Func} (hf : P.funcs[g]? = some fn) (hname : fn.name = "internal/bytealg.Compare" ∨ fn.name = "internal/bytealg.abigen_runtime_cmpstring") (ho : fn.origin = "") (hb : fn.body.isNone = true)
  {x y : AV} {vx vy : Value} (hx : VR ρ x vx) (hy : VR ρ y vy) {r : AV × List AB}
  (er : ((srcV h 1 x).bind fun (_, xs) => (srcV h 1 y).bind fun (_, ys) => (bytesOf xs).bind fun l => (bytesOf ys).map fun m => (AV.i .i64 (Extern.BytealgCompare.cmp ⟨l.toArray⟩ ⟨m.toArray⟩), h)) = some r) :
  ∃ v', (callFunc g #[vx, vy]).run P w = .ok (.value v') w ∧ VR ρ r.1 v' ∧ r.2 = h := by
 obtain ⟨⟨m1, xs⟩, s1, er⟩ := Option.bind_eq_some_iff.1 er
 obtain ⟨⟨m2, ys⟩, s2, er⟩ := Option.bind_eq_some_iff.1 er
 obtain ⟨l, b1, er⟩ := Option.bind_eq_some_iff.1 er
 obtain ⟨m, b2, rfl⟩ := Option.map_eq_some_iff.1 er
 obtain ⟨B1, e1, rfl⟩ := qzl (P := P) hr hx s1 b1
 obtain ⟨B2, e2, rfl⟩ := qzl (P := P) hr hy s2 b2
 obtain ⟨f1, f2⟩ := QGd fn hname ho
 refine ⟨.int .i64 (Extern.BytealgCompare.cmp ⟨l.toArray⟩ ⟨m.toArray⟩), ?_, .i _ _, rfl⟩
 rw [run_callFunc_extern hf (by rcases hname with h | h <;> rw [h] <;> decide) hb f1 f2]
 have : (Extern.BytealgCompare.compare #[vx, vy]).run P w = .ok (.int .i64 (Extern.BytealgCompare.cmp ⟨l.toArray⟩ ⟨m.toArray⟩)) w := by
  change Sem.run P (do pure (goInt (Extern.BytealgCompare.cmp (← Extern.Bytes.bytesOf vx) (← Extern.Bytes.bytesOf vy)))) w = _
  simp [e1, e2, goInt]
 rw [this]
 rfl
theorem QrA {ρ : Mp} {h : List AB} {w : World} (hr : Rel K ρ h w) (t ty e : TypeId) (ht : P.underlying t = some (.slice e)) {ie : TypeInfo} (hie : P.info? e = some ie) {z : Value} (hz : ie.zero = some z) (hzs : z.cells.size = ie.size) (hs0 : ie.size ≠ 0) {zl : List AV} (hzl : VL ρ zl z.cells)
  {x : AV} {r : AV × List AB} (er : (match x with
   | .ns => some (AV.tu [], h)
   | .se => some (.tu [], h)
   | .sl id off len _ _ => if len = 0 then some (.tu [], h) else (stB h id off ((List.replicate len zl).flatten)).map (.tu [], ·)
   | _ => none) = some r) {vx : Value} (hx : VR ρ x vx) : Good K P ρ h w (Builtin.clear_ #[t] ty #[vx]) r := by
 have u : VR ρ (.tu []) (.tuple #[]) := .tu [] #[] rfl (fun j a c h => by simp at h)
 cases hx with
 | ns =>
  cases er
  exact ⟨.tuple #[], w, ρ, by simp [Builtin.clear_, run_underlying ht], Ext.refl _, hr, u, Eff.refl _ _ _⟩
 | se a c hc =>
  cases er
  exact ⟨.tuple #[], w, ρ, by simp [Builtin.clear_, run_underlying ht], Ext.refl _, hr, u, Eff.refl _ _ _⟩
 | sz id off a c hc hn =>
  simp only [if_true] at er
  cases er
  exact ⟨.tuple #[], w, ρ, by cases a <;> simp [Builtin.clear_, run_underlying ht], Ext.refl _, hr, u, Eff.refl _ _ _⟩
 | sl id off len cap k b o n cap' hρ h1 h2 h3 h4 h5 =>
  simp only at er
  split at er
  ·rename_i hl
   subst hl
   cases er
   exact ⟨.tuple #[], w, ρ, by simp [Builtin.clear_, run_underlying ht], Ext.refl _, hr, u, Eff.refl _ _ _⟩
  ·rename_i hl
   obtain ⟨h', hst, rfl⟩ := Option.map_eq_some_iff.1 er
   have hY := ZLX (ρ := ρ) hzs hs0 hzl len
   obtain ⟨w', g1, g2, g3⟩ := ZHO (P := P) hr hst hρ (vs := ((Array.range (len * ie.size)).map (z.cells[· % z.cells.size]!)).toList) (by rw [Array.toArray_toList]; exact hY)
   refine ⟨.tuple #[], w', ρ, ?_, Ext.refl _, g2, u, g3⟩
   obtain ⟨q, rfl⟩ : ∃ q, len = q + 1 := ⟨len - 1, by omega⟩
   have hzc : Builtin.zeroCells z.cells (q + 1) = (Array.range ((q + 1) * ie.size)).map (z.cells[· % z.cells.size]!) := by
    rw [← hzs]
    rfl
   rw [← hzc] at g1
   simp [Builtin.clear_, run_underlying ht, zeroValue, typeInfo, hie, hz, g1]
 | _ => cases er
end
end Go.Proofs.YthhghdebjiiliaaDoor
end
section
namespace Go.Proofs.YthhghdebjiiliaaDoor
open Go.RowKit
def absS : Value → Option AV
 | .bool b => some (.b b)
 | .int k n => some (.i k n)
 | .string s => some (.s s.data.toList)
 | .pointer none => some .np
 | .slice none 0 0 => some .ns
 | .nilFunc => some .nf
 | .nilIface => some .ni
 | _ => none
def absL : List Value → Option (List AV)
 | [] => some []
 | v :: vs => (absS v).bind fun a => (absL vs).map (a :: ·)
def absV : Value → Option AV
 | .agg cs => (absL cs.toList).map .ag
 | .tuple cs => (absL cs.toList).map .tu
 | v => absS v
theorem ZAx (ρ : Mp) {v : Value} {a : AV} (h : absS v = some a) : VR ρ a v := by
 cases v with
 | bool b => cases h; exact .b b
 | int k n => cases h; exact .i k n
 | string s => cases h; exact .s _ _ rfl
 | pointer p => cases p <;> cases h; exact .np
 | slice a n c =>
  cases a with
  | none =>
   cases n <;> cases c <;> simp [absS] at h
   subst h
   exact .ns
  | some _ => cases h
 | nilFunc => cases h; exact .nf
 | nilIface => cases h; exact .ni
 | _ => cases h
theorem Y5m (ρ : Mp) : ∀ {l : List Value} {az : List AV}, absL l = some az → VL ρ az l.toArray
 | [], az, h => by cases h; exact VL.nil ρ
 | v :: vs, az, h => by
  simp only [absL] at h
  obtain ⟨a, ha, h⟩ := Option.bind_eq_some_iff.1 h
  obtain ⟨bs, hb, rfl⟩ := Option.map_eq_some_iff.1 h
  exact VL.cons (ZAx ρ ha) (Y5m ρ hb)
theorem YJF (ρ : Mp) {cs : Array Value} {az : List AV} (h : absL cs.toList = some az) : VL ρ az cs := by
 have := Y5m ρ h
 simpa using this
theorem XmU (ρ : Mp) {v : Value} {a : AV} (h : absV v = some a) : VR ρ a v := by
 cases v with
 | agg cs =>
  obtain ⟨az, h2, rfl⟩ := Option.map_eq_some_iff.1 h
  exact zJF (YJF ρ h2)
 | tuple cs =>
  obtain ⟨az, h2, rfl⟩ := Option.map_eq_some_iff.1 h
  have := YJF ρ h2
  exact .tu _ _ this.1 this.2
 | _ => exact ZAx ρ h
def cOpd : Operand → Option Opd
 | .tmp t => some (.t t)
 | .const v => (absV v).map .c
 | .func f => some (.c (.f (.func f) [] []))
 | .global _ => none
def KvK : Option Operand → Option (Option Opd)
 | none => some none
 | some x => (cOpd x).map some
def Z3a : List Operand → Option (List Opd)
 | [] => some []
 | x :: xs => (cOpd x).bind fun y => (Z3a xs).map (y :: ·)
def szOf (P : Program) (t : TypeId) : Option Nat := (P.info? t).map (·.size)
def scal : AV → Bool
 | .b _ | .i _ _ | .s _ => true
 | _ => false
def qoT (P : Program) (t : TypeId) : Option (List AV) := (P.info? t).bind fun i => i.zero.bind fun z => absL z.cells.toList
def agN (P : Program) (t : TypeId) : Option (Option Nat) := (P.underlying t).bind fun d => (P.info? t).map fun i => if isAg d then some i.size else none
def K4T : Operand → Bool
 | .const _ => true
 | _ => false
def JNc : Operand → Option TypeDesc → Bool
 | .const (.slice none 0 0), some (.slice _) => true
 | .const (.pointer none), some (.pointer _) => true
 | .const .nilFunc, some (.func ..) => true
 | .const .nilIface, some (.interface _) => true
 | _, _ => false
def cBin (P : Program) (op : BinOp) (t : TypeId) (x y : Operand) : Option CO :=
 (cOpd x).bind fun a => (cOpd y).bind fun b =>
 if op = .eql ∨ op = .neq then
  match P.underlying t with
  | some (.int _) | some .string => some (.bin op a b)
  | some .bool => some (.eqb (op == .neq) a b)
  | some (.struct _) | some (.array _ _) => if P.eqGuardType P.depth t = false then (ckOf P 20 t).map fun ks => .eqc ks (op == .neq) a b else none
  | d => if JNc x d || JNc y d then some (.eqn (op == .neq) a b) else none
 else some (.bin op a b)
def Q02 (P : Program) (src dst : TypeId) (x : Operand) : Option CO :=
 (cOpd x).bind fun a =>
 match P.underlying src, P.underlying dst with
 | some (.int _), some (.int k) => some (.cvi k a)
 | some .string, some .string => some (.cvs a)
 | some (.slice e), some .string => match P.underlying e with
  | some (.int .u8) => some (.b2s a)
  | _ => none
 | some .string, some (.slice e) => match P.underlying e with
  | some (.int .u8) => some (.s2b a)
  | _ => none
 | some (.slice _), some (.slice e) => if src = dst then match P.underlying e with
  | some (.int .u8) => some (.s2s a)
  | _ => none
  else none
 | _, _ => none
def Ykx (P : Program) (s : TypeId) (f : Nat) : Option (Nat × Option Nat × Nat) :=
 match P.underlying s with
 | some (.struct fs) => (fs[f]?).bind fun fd => (agN P fd.type).bind fun n => (szOf P fd.type).map fun k => (fd.offset, n, k)
 | _ => none
def JGF (P : Program) (fs : List Field) : Option (List (Nat × Nat)) :=
 match fs with
 | [] => some []
 | f :: fs => (szOf P f.type).bind fun n => (JGF P fs).map ((f.offset, n) :: ·)
def KZ0 (place : Nat → Option (Nat × Nat)) : List (Nat × Operand) → Option (List (Nat × Nat × Opd))
 | [] => some []
 | (i, x) :: ps => (place i).bind fun q => (cOpd x).bind fun a => (KZ0 place ps).map ((q.1, q.2, a) :: ·)
def YNv (P : Program) : Builtin → List Operand → List TypeId → Option CO
 | .len, [x], [t] => (cOpd x).bind fun a => match P.underlying t with
  | some .string => some (.len true a)
  | some (.slice _) => some (.len false a)
  | some (.array n _) => some (.lnc n)
  | _ => none
 | .max, [x, y], _ => (cOpd x).bind fun a => (cOpd y).map fun b => .mm true a b
 | .min, [x, y], _ => (cOpd x).bind fun a => (cOpd y).map fun b => .mm false a b
 | .append, [x, y], [t, tx] => (cOpd x).bind fun a => (cOpd y).bind fun b => match P.underlying t, P.underlying tx with
  | some (.slice e), some (.slice _) => (P.info? e).bind fun ie => (qoT P e).bind fun zs => if zs.length = ie.size then some (.app false (zs.all scal) ie.size ie.bytes a b) else none
  | some (.slice e), some .string => (P.info? e).bind fun ie => (qoT P e).bind fun zs => if zs.length = ie.size then some (.app true (zs.all scal) ie.size ie.bytes a b) else none
  | some (.slice e), some (.int _) => (P.info? e).bind fun ie => (qoT P e).bind fun zs => if zs.length = ie.size ∧ ie.size ≠ 0 then some (.apz (zs.all scal) zs ie.bytes a b) else none
  | _, _ => none
 | .copy, [x, y], [t, tx] => (cOpd x).bind fun a => (cOpd y).bind fun b => match P.underlying t, P.underlying tx with
  | some (.slice e), some (.slice _) => (szOf P e).map fun n => .cpy false n a b
  | some (.slice e), some .string => (szOf P e).map fun n => .cpy true n a b
  | _, _ => none
 | .cap, [x], [t] => (cOpd x).bind fun a => match P.underlying t with
  | some (.slice _) => some (.capo a)
  | _ => none
 | .clear, [x], [t] => (cOpd x).bind fun a => match P.underlying t with
  | some (.slice e) => (P.info? e).bind fun ie => (qoT P e).bind fun zs => if zs.length = ie.size ∧ ie.size ≠ 0 then some (.clr zs a) else none
  | _ => none
 | _, _, _ => none
def Y98 (P : Program) : Operand → Bool
 | .func g => match P.funcs[g]? with
  | some fn => (fn.name == "internal/bytealg.Compare" || fn.name == "internal/bytealg.abigen_runtime_cmpstring") && fn.origin == "" && fn.body.isNone
  | none => false
 | _ => false
def J11 (P : Program) : Operand → Bool
 | .func g => match P.funcs[g]? with
  | some fn => fn.name == "internal/bytealg.IndexByteString" && fn.origin == "" && fn.body.isNone
  | none => false
 | _ => false
def ZbD : List Operand → Option CO
 | [x, y] => (cOpd x).bind fun a => (cOpd y).map fun b => .bix a b
 | _ => none
def ZQs (P : Program) (c : Call) : Option CO :=
 match c.callee with
 | .builtin b => YNv P b c.args.toList c.argTypes.toList
 | .value f => match Y98 P f, c.args.toList with
  | true, [x, y] => (cOpd x).bind fun a => (cOpd y).map fun b => .bcmp a b
  | _, l => if J11 P f = true then ZbD l else (cOpd f).bind fun a => (Z3a l).map fun l => .call a l
 | .invoke _ _ => none
def XtX (P : Program) : Op → Option CO
 | .move x | .assign x => (cOpd x).map .mv
 | .pick c a b => (cOpd c).bind fun c => (cOpd a).bind fun a => (cOpd b).map fun b => .pick c a b
 | .alloc e => (qoT P e).map fun zs => .new (zs.all scal) zs
 | .box e x => (cOpd x).bind fun a => (qoT P e).map fun zs => .box (zs.all scal) zs.length a
 | .build t ps => (qoT P t).bind fun zs => match P.underlying t with
  | some (.struct fs) => (JGF P fs.toList).bind fun pl => (KZ0 (pl[·]?) ps.toList).map fun q => .bld zs q
  | some (.array _ e) => (szOf P e).bind fun n => (KZ0 (fun k => some (k * n, n)) ps.toList).map fun q => .bld zs q
  | _ => none
 | .buildSlice t len ps => match P.underlying t with
  | some (.slice e) => (P.info? e).bind fun ie => ie.zero.bind fun z =>
    (absL (((Array.range (len * ie.size)).map (z.cells[· % z.cells.size]!)).toList)).bind fun zs => (qoT P e).bind fun ze =>
    if len * ie.size ≤ 2 ^ 24 ∧ len ≤ maxLen then (KZ0 (fun k => some (k * ie.size, ie.size)) ps.toList).map fun q => .bls (ze.all scal) len zs q else none
  | _ => none
 | .load t x => (cOpd x).bind fun a => (agN P t).map fun n => .ld n a
 | .store t x y => (cOpd x).bind fun a => (cOpd y).bind fun b => (agN P t).bind fun n => if n = none → szOf P t = some 1 then some (.st n a b) else none
 | .nilCheck x => (cOpd x).map .nck
 | .binOp op t x y _ => cBin P op t x y
 | .unOp op _ x => (cOpd x).map (.un op)
 | .convert src dst x => Q02 P src dst x
 | .makeInterface t x => (cOpd x).bind fun a => match P.underlying t with
  | none | some (.interface _) => none
  | _ => some (.ifc t a)
 | .makeFunc fn first cap => (Z3a first.toList).bind fun a => (Z3a cap.toList).map fun b => .mkf fn a b
 | .makeSlice t l c => (cOpd l).bind fun a => (cOpd c).bind fun b => match P.underlying t with
  | some (.slice e) => (P.info? e).bind fun ie => (qoT P e).bind fun zs => if zs.length = ie.size ∧ ie.size ≠ 0 then some (.mks (zs.all scal) zs ie.bytes a b) else none
  | _ => none
 | .slice t x lo hi mx => (cOpd x).bind fun a => (KvK lo).bind fun lo => (KvK hi).bind fun hi => (KvK mx).bind fun mx => match P.underlying t with
  | some .string => if mx.isNone then some (.sls a lo hi) else none
  | some (.slice e) => (szOf P e).map fun n => .sll n a lo hi mx
  | some (.array k e) => if k ≤ maxLen then (szOf P e).map fun n => .sla k n a lo hi mx else none
  | _ => none
 | .fieldAddr s x f => (cOpd x).bind fun a => (Ykx P s f).bind fun (off, _, k) => if k ≠ 0 then some (.fad off a) else none
 | .field s x f => (cOpd x).bind fun a => (Ykx P s f).map fun (off, n, _) => .fld off n a
 | .indexAddr t x i => (cOpd x).bind fun a => (cOpd i).bind fun b => match P.underlying t with
  | some (.slice e) => (szOf P e).map fun n => .iad n a b
  | some (.array k e) => (szOf P e).map fun n => .iaa k n a b
  | _ => none
 | .index t x i => (cOpd x).bind fun a => (cOpd i).bind fun b => match P.underlying t with
  | some .string => some (.ixs a b)
  | some (.array k e) => (szOf P e).bind fun n => (agN P e).map fun g => .ixa k n g.isSome a b
  | _ => none
 | .typeAssert x _ t ok => (cOpd x).bind fun a => ((P.info? t).bind (·.zero)).bind fun z => (absV z).bind fun zv => match P.underlying t with
  | none | some (.interface _) => none
  | _ => some (.tas a t ok zv)
 | .extract x i => (cOpd x).map fun a => .ext a i
 | .call c => ZQs P c
 | .range t x => (cOpd x).bind fun a => match P.underlying t with
  | some .string => some (.rng a)
  | _ => none
 | .next x b => (cOpd x).bind fun a => if b = true then some (.nxt a) else none
 | _ => none
def qzT (P : Program) (o : Op) : Option CO :=
 match o with
 | .defer _ => none
 | _ => some ((XtX P o).getD .stop)
def XyB (P : Program) (ops : Array Oper) (o : Oper) : Option COper :=
 (qzT P o.op).bind fun op =>
 match o.guard with
 | none => some ⟨o.dst, none, op⟩
 | some (j, want) => ((ops[j]?).bind (·.dst)).map fun t => ⟨o.dst, some (t, want), op⟩
end Go.Proofs.YthhghdebjiiliaaDoor
end
section
namespace Go.Proofs.YthhghdebjiiliaaDoor
open Go.RowKit
section
variable {P : Program} {K : Code → CC → Prop}
def ZsK (K : Code → CC → Prop) (P : Program) (ρ : Mp) (h : List AB) (w : World) (s : Sem Next) (r : AV × List AB) : Prop :=
 ∃ v' w' ρ', (s.run P w = .ok (.value v') w' ∨ s.run P w = .ok .skip w' ∧ v' = undef) ∧ Ext ρ ρ' ∧ Rel K ρ' r.2 w' ∧ VR ρ' r.1 v' ∧ Eff ρ h w ρ' r.2 w'
theorem Good.next {ρ : Mp} {h : List AB} {w : World} {s : Sem Value} {r : AV × List AB} (g : Good K P ρ h w s r) : ZsK K P ρ h w (do let v ← s; pure (.value v)) r :=
 let ⟨v, w', ρ', e, rest⟩ := g
 ⟨v, w', ρ', .inl (by simp [e]), rest⟩
theorem Ans.next {ρ : Mp} {h : List AB} {w : World} {s : Sem Value} {a : AV} (ha : Ans P ρ s a) (hr : Rel K ρ h w) : ZsK K P ρ h w (do let v ← s; pure (.value v)) (a, h) := (ha.good hr).next
def EV (ρ : Mp) (f : Operand → Value) (ev : Opd → AV) : Prop := ∀ x y, cOpd x = some y → VR ρ (ev y) (f x)
theorem EV.of {ρ : Mp} {fr : List AV} {a : Act} (h : VL ρ fr a.tmps) : EV ρ a.eval (Opd.ev fr) := fun x y e => by
 cases x with
 | tmp t =>
  cases e
  by_cases ht : t < fr.length
  ·have h1 : fr[t]? = some fr[t] := List.getElem?_eq_getElem ht
   obtain ⟨c, hc, hv⟩ := h.get h1
   simpa [Opd.ev, Act.eval, h1, List.getD, Array.getD_eq_getD_getElem?, hc] using hv
  ·have h1 : fr[t]? = none := List.getElem?_eq_none (Nat.le_of_not_lt ht)
   have h2 : a.tmps[t]? = none := Array.getElem?_eq_none (by rw [← h.1]; exact Nat.le_of_not_lt ht)
   simpa [Opd.ev, Act.eval, h1, List.getD, Array.getD_eq_getD_getElem?, h2, undef] using VR.tu (ρ := ρ) [] #[] rfl (fun j a c h => by simp at h)
 | const v =>
  obtain ⟨av, h1, rfl⟩ := Option.map_eq_some_iff.1 e
  exact XmU ρ h1
 | func f =>
  cases e
  exact .f _ [] [] #[] #[] rfl rfl (fun j a c h => by simp at h) (fun j a c h => by simp at h)
 | global g => cases e
theorem EV.vo {ρ : Mp} {f : Operand → Value} {ev : Opd → AV} (h : EV ρ f ev) {x : Option Operand} {y : Option Opd} (e : KvK x = some y) : VO ρ (y.map ev) (x.map f) := by
 cases x with
 | none => cases e; trivial
 | some x =>
  obtain ⟨z, hz, rfl⟩ := Option.map_eq_some_iff.1 e
  exact h x z hz
theorem EV.vl {ρ : Mp} {f : Operand → Value} {ev : Opd → AV} (h : EV ρ f ev) : ∀ {xs : List Operand} {ys : List Opd}, Z3a xs = some ys → VL ρ (ys.map ev) (xs.map f).toArray
 | [], ys, e => by cases e; exact VL.nil ρ
 | x :: xs, ys, e => by
  simp only [Z3a] at e
  obtain ⟨y, hy, e⟩ := Option.bind_eq_some_iff.1 e
  obtain ⟨zs, hz, rfl⟩ := Option.map_eq_some_iff.1 e
  exact VL.cons (h x y hy) (h.vl hz)
theorem EV.parts {ρ : Mp} {f : Operand → Value} {ev : Opd → AV} (h : EV ρ f ev) {place : Nat → Option (Nat × Nat)} : ∀ {ps : List (Nat × Operand)} {q : List (Nat × Nat × Opd)}, KZ0 place ps = some q → zAX ρ place ev q (ps.map fun x => (x.1, f x.2))
 | [], q, e => by cases e; trivial
 | (i, x) :: ps, q, e => by
  simp only [KZ0] at e
  obtain ⟨pl, hp, e⟩ := Option.bind_eq_some_iff.1 e
  obtain ⟨a, ha, e⟩ := Option.bind_eq_some_iff.1 e
  obtain ⟨rest, hr, rfl⟩ := Option.map_eq_some_iff.1 e
  exact ⟨hp, h x a ha, h.parts hr⟩
theorem qoB {t : TypeId} {n : Nat} (h : szOf P t = some n) : ∃ i, P.info? t = some i ∧ i.size = n := Option.map_eq_some_iff.1 h
theorem zEV {t : TypeId} {n : Option Nat} (h : agN P t = some n) : ∃ d i, P.underlying t = some d ∧ P.info? t = some i ∧ n = (if isAg d then some i.size else none) := by
 obtain ⟨d, hd, h⟩ := Option.bind_eq_some_iff.1 h
 obtain ⟨i, hi, h⟩ := Option.map_eq_some_iff.1 h
 exact ⟨d, i, hd, hi, h.symm⟩
theorem KPh {t : TypeId} {zs : List AV} (h : qoT P t = some zs) : ∃ i z, P.info? t = some i ∧ i.zero = some z ∧ absL z.cells.toList = some zs := by
 obtain ⟨i, hi, h⟩ := Option.bind_eq_some_iff.1 h
 obtain ⟨z, hz, h⟩ := Option.bind_eq_some_iff.1 h
 exact ⟨i, z, hi, hz, h⟩
theorem JNK : ∀ (fs : List Field) (pl : List (Nat × Nat)), JGF P fs = some pl → ∀ w, (fs.mapM fun f => do pure (f.offset, ← sizeOf f.type) : Sem (List (Nat × Nat))).run P w = .ok pl w
 | [], pl, h, w => by
  cases h
  rfl
 | f :: fs, pl, h, w => by
  simp only [JGF] at h
  obtain ⟨n, hn, h⟩ := Option.bind_eq_some_iff.1 h
  obtain ⟨rest, hr, rfl⟩ := Option.map_eq_some_iff.1 h
  obtain ⟨i, hi, rfl⟩ := qoB hn
  have ih := JNK fs rest hr w
  simp only [List.mapM_cons, Sem.run_bind, sizeOf, typeInfo, run_program, Result.andThen_ok, hi, Sem.run_pure]
  simp only [sizeOf, typeInfo, bind_pure_comp] at ih
  simp only [bind_pure_comp, ih, Result.andThen_ok]
theorem qhO (fs : Array Field) (g : Field → Sem (Nat × Nat)) (l : List (Nat × Nat)) (w : World) (h : (fs.toList.mapM g).run P w = .ok l w) : (fs.mapM g).run P w = .ok l.toArray w := by
 rw [Array.mapM_eq_mapM_toList]
 simp [h]
theorem z7r {ρ : Mp} {h : List AB} {w : World} (hr : Rel K ρ h w) {f : Operand → Value} {fr : List AV} (hev : EV ρ f (Opd.ev fr)) {op : BinOp} {t : TypeId} {x y : Operand} {co : CO} (hc : cBin P op t x y = some co) {r : AV × List AB} (er : co.run (Opd.ev fr) h = some r) :
  ZsK K P ρ h w (do let v ← (do eqGuard op t x y (f x) (f y); binOp op t (f x) (f y)); pure (.value v)) r := by
 unfold cBin at hc
 obtain ⟨a, ha, hc⟩ := Option.bind_eq_some_iff.1 hc
 obtain ⟨b, hb, hc⟩ := Option.bind_eq_some_iff.1 hc
 have va := hev x a ha
 have vb := hev y b hb
 generalize f x = vx at va ⊢
 generalize f y = vy at vb ⊢
 have plain : (.bin op a b : CO).run (Opd.ev fr) h = some r → ZsK K P ρ h w (do let v ← (do eqGuard op t x y vx vy; binOp op t vx vy); pure (.value v)) r := fun er => by
  obtain ⟨v, hv, rfl⟩ := Option.map_eq_some_iff.1 er
  exact (QQS op t x y va vb hv).next hr
 split at hc
 ·rename_i hop
  have hopn : op = (if (op == .neq) then .neq else .eql) := by rcases hop with rfl | rfl <;> rfl
  split at hc
  ·cases hc; exact plain er
  ·cases hc; exact plain er
  ·rename_i hu
   cases hc
   simp only [CO.run] at er
   split at er
   ·rename_i p q hp hq
    cases er
    rw [hp] at va
    rw [hq] at vb
    cases va
    cases vb
    have := (ZYN (P := P) (ρ := ρ) (op == .neq) t hu x y p q).next hr
    rcases hop with rfl | rfl <;> exact this
   ·cases er
  ·rename_i fs hu
   split at hc
   ·rename_i hg
    obtain ⟨ks, hk, rfl⟩ := Option.map_eq_some_iff.1 hc
    simp only [CO.run] at er
    split at er
    ·rename_i l l' hl hl'
     obtain ⟨q, hq, rfl⟩ := Option.map_eq_some_iff.1 er
     rw [hl] at va
     rw [hl'] at vb
     have := (Qr4 (P := P) (op == .neq) 20 t hk (by omega) (by rw [hu]; rfl) hg x y va vb hq).next hr
     rcases hop with rfl | rfl <;> exact this
    ·cases er
   ·cases hc
  ·rename_i n e hu
   split at hc
   ·rename_i hg
    obtain ⟨ks, hk, rfl⟩ := Option.map_eq_some_iff.1 hc
    simp only [CO.run] at er
    split at er
    ·rename_i l l' hl hl'
     obtain ⟨q, hq, rfl⟩ := Option.map_eq_some_iff.1 er
     rw [hl] at va
     rw [hl'] at vb
     have := (Qr4 (P := P) (op == .neq) 20 t hk (by omega) (by rw [hu]; rfl) hg x y va vb hq).next hr
     rcases hop with rfl | rfl <;> exact this
    ·cases er
   ·cases hc
  ·split at hc
   ·rename_i hn
    cases hc
    simp only [CO.run] at er
    obtain ⟨q, hq, rfl⟩ := Option.map_eq_some_iff.1 er
    cases hu : P.underlying t with
    | none =>
     rw [hu] at hn
     cases x <;> cases y <;> simp [JNc] at hn
    | some d =>
     rw [hu] at hn
     have side : ∀ {X : Operand} {A : Opd}, cOpd X = some A → JNc X (some d) = true → (∃ v, X = .const v) ∧ zE6 d (Opd.ev fr A) := by
      intro X A hX hN
      unfold JNc at hN
      split at hN <;> first
       | (rename_i he; cases he; simp [cOpd, absV, absS] at hX; subst hX; exact ⟨⟨_, rfl⟩, rfl⟩)
       | cases hN
     have hcon : (∃ v, x = .const v) ∨ ∃ v, y = .const v := by
      rcases Bool.or_eq_true_iff.1 hn with q | q
      ·exact .inl (side ha q).1
      ·exact .inr (side hb q).1
     have hside : zE6 d (Opd.ev fr a) ∨ zE6 d (Opd.ev fr b) := by
      rcases Bool.or_eq_true_iff.1 hn with q | q
      ·exact .inl (side ha q).2
      ·exact .inr (side hb q).2
     have := (QYv (P := P) (op == .neq) t hu x y hcon va vb hq hside).next hr
     rcases hop with rfl | rfl <;> exact this
   ·cases hc
 ·cases hc; exact plain er
end
end Go.Proofs.YthhghdebjiiliaaDoor
end
section
namespace Go.Proofs.YthhghdebjiiliaaDoor
open Go.RowKit
section
variable {P : Program} {K : Code → CC → Prop}
theorem Kzb {ρ : Mp} {h : List AB} {w : World} (hr : Rel K ρ h w) (str : Bool) {t ty : TypeId} {d : TypeDesc} (hu : P.underlying t = some d) (hd : if str then d = .string else ∃ e, d = .slice e) {x : AV} {vx : Value} (hx : VR ρ x vx) {r : AV × List AB} (er : (if x.isStr = str then (lenV x).map fun n => (AV.i .i64 n, h) else none) = some r) : Good K P ρ h w (Builtin.len_ #[t] ty #[vx]) r := by
 split at er
 ·rename_i hs
  obtain ⟨n, hn, rfl⟩ := Option.map_eq_some_iff.1 er
  cases str with
  | true =>
   simp only [if_true] at hd
   subst hd
   exact (Q1V (P := P) t ty hu (.inl rfl) hx hn (propext (Iff.intro (fun _ => YYt.1 hs) (fun _ => rfl)))).good hr
  | false =>
   simp only [Bool.false_eq_true, if_false] at hd
   obtain ⟨e, rfl⟩ := hd
   exact (Q1V (P := P) t ty hu (.inr ⟨e, rfl⟩) hx hn (propext (Iff.intro (fun q => by cases q) (fun ⟨l, q⟩ => absurd q (XBI hs l))))).good hr
 ·cases er
theorem Ynk {ρ : Mp} {h : List AB} {w : World} (hr : Rel K ρ h w) {f : Operand → Value} {fr : List AV} (hev : EV ρ f (Opd.ev fr)) {b : Builtin} {args : List Operand} {ts : List TypeId} {ty : TypeId} {consts : Array Bool} {co : CO} (hc : YNv P b args ts = some co) {r : AV × List AB} (er : co.run (Opd.ev fr) h = some r) : ZsK K P ρ h w (builtin b ts.toArray ty consts (args.map f).toArray) r := by
 unfold YNv at hc
 split at hc
 ·rename_i x t
  obtain ⟨a, ha, hc⟩ := Option.bind_eq_some_iff.1 hc
  have va := hev x a ha
  split at hc
  ·rename_i hu
   cases hc
   exact (Kzb (P := P) hr true hu (by simp) va er).next
  ·rename_i e hu
   cases hc
   exact (Kzb (P := P) hr false hu (by simp) va er).next
  ·rename_i n e hu
   cases hc
   cases er
   exact ((Ans.mk (P := P) (v := .int .i64 n) (fun w => by simp [Builtin.len_, run_underlying hu, goInt]) (.i _ _)).good hr).next
  ·cases hc
 ·rename_i ts x y
  obtain ⟨a, ha, hc⟩ := Option.bind_eq_some_iff.1 hc
  obtain ⟨b, hb, rfl⟩ := Option.map_eq_some_iff.1 hc
  obtain ⟨v, hv, rfl⟩ := Option.map_eq_some_iff.1 er
  exact ((ZA7 (P := P) true ts.toArray ty (hev x a ha) (hev y b hb) hv).good hr).next
 ·rename_i ts x y
  obtain ⟨a, ha, hc⟩ := Option.bind_eq_some_iff.1 hc
  obtain ⟨b, hb, rfl⟩ := Option.map_eq_some_iff.1 hc
  obtain ⟨v, hv, rfl⟩ := Option.map_eq_some_iff.1 er
  exact ((ZA7 (P := P) false ts.toArray ty (hev x a ha) (hev y b hb) hv).good hr).next
 ·rename_i x y t tx
  obtain ⟨a, ha, hc⟩ := Option.bind_eq_some_iff.1 hc
  obtain ⟨b, hb, hc⟩ := Option.bind_eq_some_iff.1 hc
  have gen : ∀ {e : TypeId} {d : TypeDesc} {str : Bool}, P.underlying t = some (.slice e) → P.underlying tx = some d → ((P.info? e).bind fun ie => (qoT P e).bind fun zs => if zs.length = ie.size then some (CO.app str (zs.all scal) ie.size ie.bytes a b) else none) = some co →
    (if str then d = .string else ∃ e, d = .slice e) → ZsK K P ρ h w (builtin .append #[t, tx] ty consts #[f x, f y]) r := fun {e d str} hu hd hc hk => by
   obtain ⟨ie, hie, hc⟩ := Option.bind_eq_some_iff.1 hc
   obtain ⟨zs, hz, hc⟩ := Option.bind_eq_some_iff.1 hc
   split at hc
   ·rename_i hq
    cases hc
    simp only [CO.run] at er
    split at er
    ·rename_i hs
     obtain ⟨i, z, hi, hzz, hl⟩ := KPh hz
     rw [hie] at hi
     cases hi
     have hvz := YJF ρ hl
     refine (K98 (P := P) hr t tx ty e hu hie hzz (by rw [← hvz.1]; exact hq) _ hd (hev x a ha) (hev y b hb) ?_ er).next
     cases str with
     | true => exact .inl ⟨YYt.1 hs, by simpa using hk⟩
     | false => exact .inr ⟨XBI hs, by simpa using hk⟩
    ·cases er
   ·cases hc
  split at hc
  ·rename_i e e' hu hd
   exact gen hu hd hc (by simp)
  ·rename_i e hu hd
   exact gen hu hd hc (by simp)
  ·rename_i e k hu hd
   obtain ⟨ie, hie, hc⟩ := Option.bind_eq_some_iff.1 hc
   obtain ⟨zs, hz, hc⟩ := Option.bind_eq_some_iff.1 hc
   split at hc
   ·rename_i hq
    cases hc
    obtain ⟨i, z, hi, hzz, hl⟩ := KPh hz
    rw [hie] at hi
    cases hi
    have hvz := YJF ρ hl
    have v1 := hev x a ha
    have v2 := hev y b hb
    simp only [CO.run] at er
    split at er
    ·rename_i ik m hx hy
     rw [hx] at v1
     rw [hy] at v2
     show ZsK K P ρ h w (builtin .append #[t, tx] ty consts #[f x, f y]) r
     generalize f x = vx at v1 ⊢
     generalize f y = vy at v2 ⊢
     cases v1
     cases v2
     split at er
     ·rename_i hm0
      subst hm0
      cases er
      have hw0 : IntKind.i64.wrap 0 = 0 := by decide
      refine ((Ans.mk (P := P) (v := .slice none 0 0) (fun w => ?_) .ns).good hr).next
      simp [Builtin.append_, run_underlying hu, run_underlying hd, sizeOf, typeInfo, hie, asInt, asIntOf, hw0]
     ·split at er
      ·rename_i hm
       exact (J6z (P := P) hr t tx ty e hu hd hie hzz (by rw [← hvz.1]; exact hq.1) hq.2 _ hvz hm.1 hm.2.1 hm.2.2 er).next
      ·cases er
    ·cases er
   ·cases hc
  ·cases hc
 ·rename_i x y t tx
  obtain ⟨a, ha, hc⟩ := Option.bind_eq_some_iff.1 hc
  obtain ⟨b, hb, hc⟩ := Option.bind_eq_some_iff.1 hc
  have gen : ∀ {e : TypeId} {d : TypeDesc} {str : Bool}, P.underlying t = some (.slice e) → P.underlying tx = some d → ((szOf P e).map fun n => CO.cpy str n a b) = some co →
    (if str then d = .string else ∃ e, d = .slice e) → ZsK K P ρ h w (builtin .copy #[t, tx] ty consts #[f x, f y]) r := fun {e d str} hu hd hc hk => by
   obtain ⟨n, hn, rfl⟩ := Option.map_eq_some_iff.1 hc
   obtain ⟨ie, hie, rfl⟩ := qoB hn
   simp only [CO.run] at er
   split at er
   ·rename_i hs
    refine (Kui (P := P) hr t tx ty e hu hie hd (hev x a ha) (hev y b hb) ?_ er).next
    cases str with
    | true => exact .inl ⟨YYt.1 hs, by simpa using hk⟩
    | false => exact .inr ⟨XBI hs, by simpa using hk⟩
   ·cases er
  split at hc
  ·rename_i e e' hu hd
   exact gen hu hd hc (by simp)
  ·rename_i e hu hd
   exact gen hu hd hc (by simp)
  ·cases hc
 ·rename_i x t
  obtain ⟨a, ha, hc⟩ := Option.bind_eq_some_iff.1 hc
  have v1 := hev x a ha
  split at hc
  ·rename_i e hu
   cases hc
   simp only [CO.run] at er
   split at er
   ·rename_i hx
    cases er
    rw [hx] at v1
    generalize hfx : f x = vx at v1
    cases v1
    refine ((Ans.mk (P := P) (v := .int .i64 0) (fun w => ?_) (.i _ _)).good hr).next
    simp [Builtin.cap_, run_underlying hu, goInt, hfx]
   ·rename_i c hx
    cases er
    rw [hx] at v1
    generalize hfx : f x = vx at v1
    cases v1 with
    | sl _ _ _ _ _ b o n cap' hρ h1 h2 h3 h4 h5 =>
     have := h4 rfl
     subst this
     refine ((Ans.mk (P := P) (v := .int .i64 cap') (fun w => ?_) (.i _ _)).good hr).next
     simp [Builtin.cap_, run_underlying hu, goInt, hfx]
   ·cases er
  ·cases hc
 ·rename_i x t
  obtain ⟨a, ha, hc⟩ := Option.bind_eq_some_iff.1 hc
  have v1 := hev x a ha
  split at hc
  ·rename_i e hu
   obtain ⟨ie, hie, hc⟩ := Option.bind_eq_some_iff.1 hc
   obtain ⟨zs, hzs, hc⟩ := Option.bind_eq_some_iff.1 hc
   split at hc
   ·rename_i hq
    cases hc
    obtain ⟨ie', z, hie', hzz, hl⟩ := KPh hzs
    rw [hie] at hie'
    cases hie'
    have hvz := YJF ρ hl
    exact (QrA (P := P) hr t ty e hu hie hzz (by rw [← hvz.1]; exact hq.1) hq.2 hvz er v1).next
   ·cases hc
  ·cases hc
 ·cases hc
theorem zaY {ρ : Mp} {h : List AB} {w : World} (hr : Rel K ρ h w) {f : Operand → Value} {fr : List AV} (hev : EV ρ f (Opd.ev fr)) {c : Call} {ty : TypeId} {co : CO} (hc : XtX P (.call c) = some co) {r : AV × List AB} (er : co.run (Opd.ev fr) h = some r) : ZsK K P ρ h w (do let d ← resolve f c ty; invoke d.target d.args) r := by
 obtain ⟨callee, args, ts⟩ := c
 simp only [XtX, ZQs] at hc
 cases callee with
 | builtin b =>
  simp only at hc
  have hb := fun consts => Ynk (P := P) hr hev (ty := ty) (consts := consts) hc er
  have ea : (args.toList.map f).toArray = args.map f := by rw [← Array.toList_map, Array.toArray_toList]
  rw [ea] at hb
  simp only [Array.toArray_toList] at hb
  obtain ⟨cs, e⟩ : ∃ cs, (do let d ← resolve f { callee := .builtin b, args := args, argTypes := ts } ty; invoke d.target d.args) = builtin b ts ty cs (args.map f) := ⟨_, rfl⟩
  rw [e]
  exact hb cs
 | value g =>
  simp only at hc
  split at hc
  ·rename_i x y hcmp hxy
   obtain ⟨a, ha, hc⟩ := Option.bind_eq_some_iff.1 hc
   obtain ⟨b, hb, rfl⟩ := Option.map_eq_some_iff.1 hc
   unfold Y98 at hcmp
   split at hcmp
   ·rename_i gid
    split at hcmp
    ·rename_i fn hfn
     simp only [Bool.and_eq_true, Bool.or_eq_true, beq_iff_eq] at hcmp
     obtain ⟨v', e1, e2, e3⟩ := zcA (P := P) hr hfn hcmp.1.1 hcmp.1.2 hcmp.2 (hev x a ha) (hev y b hb) er
     have hargs : args = #[x, y] := by
      apply Array.ext'
      simpa using hxy
     subst hargs
     have hg : f (.func gid) = .func (.func gid) #[] #[] := by
      have h1 := hev (.func gid) _ rfl
      simp only [Opd.ev] at h1
      generalize f (.func gid) = u at h1
      cases h1 with
      | f _ _ _ fst' cap' q1 q2 =>
       rw [Array.eq_empty_of_size_eq_zero q1.symm, Array.eq_empty_of_size_eq_zero q2.symm]
     refine ⟨v', w, ρ, .inl ?_, Ext.refl _, e3 ▸ hr, e2, e3 ▸ Eff.refl _ _ _⟩
     rw [← e1]
     simp [resolve, hg, Deferred.ofValue, invoke]
    ·cases hcmp
   ·cases hcmp
  ·rename_i ll hll
   split at hc
   ·rename_i hbix
    unfold ZbD at hc
    split at hc
    ·rename_i x y hxy
     obtain ⟨a, ha, hc⟩ := Option.bind_eq_some_iff.1 hc
     obtain ⟨b, hb, rfl⟩ := Option.map_eq_some_iff.1 hc
     simp only [CO.run] at er
     split at er
     ·rename_i l n hla hnb
      cases er
      unfold J11 at hbix
      split at hbix
      ·rename_i gid
       split at hbix
       ·rename_i fn hfn
        simp only [Bool.and_eq_true, beq_iff_eq] at hbix
        have va := hev x a ha
        have vb := hev y b hb
        rw [hla] at va
        rw [hnb] at vb
        have e1 := qzQ (P := P) (w := w) hfn hbix.1.1 hbix.1.2 hbix.2 va vb
        have hargs : args = #[x, y] := by
         apply Array.ext'
         simpa using hxy
        subst hargs
        have hg : f (.func gid) = .func (.func gid) #[] #[] := by
         have h1 := hev (.func gid) _ rfl
         simp only [Opd.ev] at h1
         generalize f (.func gid) = u at h1
         cases h1 with
         | f _ _ _ fst' cap' q1 q2 =>
          rw [Array.eq_empty_of_size_eq_zero q1.symm, Array.eq_empty_of_size_eq_zero q2.symm]
        refine ⟨_, w, ρ, .inl ?_, Ext.refl _, hr, .i _ _, Eff.refl _ _ _⟩
        refine Eq.trans (b := (callFunc gid #[f x, f y]).run P w) ?_ e1
        simp [resolve, hg, Deferred.ofValue, invoke]
       ·cases hbix
      ·cases hbix
     ·cases er
    ·cases hc
   ·obtain ⟨a, ha, hc⟩ := Option.bind_eq_some_iff.1 hc
    obtain ⟨l, hl, rfl⟩ := Option.map_eq_some_iff.1 hc
    cases er
 | invoke _ _ => cases hc
end
end Go.Proofs.YthhghdebjiiliaaDoor
end
