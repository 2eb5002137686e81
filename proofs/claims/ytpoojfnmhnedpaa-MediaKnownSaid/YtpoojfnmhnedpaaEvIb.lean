/- copy, bytes made a string, append of zeros. -/
import Derived.Test.YtpoojfnmhnedpaaEvI
import Derived.Lib.AppendZeros
import Derived.Laws.BytesString
namespace Go.Proofs.Ytpoojfnmhnedpaa
open Go.RowKit

section
variable {P : Program}
theorem isStr_iff {x : AV} : x.isStr = true ↔ ∃ l, x = .s l := by
  cases x <;> simp [AV.isStr]
theorem isStr_not {x : AV} (h : x.isStr = false) : ∀ l, x ≠ .s l := fun l e => by
  subst e
  cases h
theorem bytesOf_int : ∀ (cs : List AV) (l : List UInt8), bytesOf cs = some l → ∃ ns : List Int, cs = ns.map (AV.i .u8) ∧ l = ns.map fun n => UInt8.ofNat n.toNat
  | [], l, e => by cases e; exact ⟨[], rfl, rfl⟩
  | x :: cs, l, e => by
    unfold bytesOf at e
    split at e
    · cases ‹x :: cs = []›
    · rename_i n rest heq
      cases heq
      obtain ⟨l', hl', rfl⟩ := Option.map_eq_some_iff.1 e
      obtain ⟨ns, h1, h2⟩ := bytesOf_int cs l' hl'
      exact ⟨n :: ns, by rw [h1]; rfl, by rw [h2]; rfl⟩
    · cases e
theorem foldl_push (ns : List Int) : ∀ (s : ByteArray), (ns.foldl (fun r n => r.push (UInt8.ofNat n.toNat)) s).data.toList = s.data.toList ++ ns.map fun n => UInt8.ofNat n.toNat := by
  induction ns with
  | nil => intro s; simp
  | cons n ns ih =>
    intro s
    rw [List.foldl_cons, ih]
    simp [ByteArray.push]
theorem good_b2s {ρ : Mp} {h : List AB} {w : World} (hr : Rel ρ h w) (src dst e : TypeId) (hs : P.underlying src = some (.slice e)) (he : P.underlying e = some (.int .u8)) (hd : P.underlying dst = some .string) {x : AV} (hx0 : ∀ l, x ≠ .s l) {vx : Value} (hx : VR ρ x vx) {m : Nat} {cs : List AV} (hsrc : srcV h 1 x = some (m, cs)) {l : List UInt8} (hl : bytesOf cs = some l) :
    Good P ρ h w (convert src dst vx) (.s l, h) := by
  obtain ⟨ns, rfl, rfl⟩ := bytesOf_int cs l hl
  obtain ⟨news, hS, hvn⟩ := src_of (P := P) hr hsrc hx src hs (.inr ⟨hx0, e, rfl⟩) (by rw [List.all_map]; exact List.all_eq_true.2 fun _ _ => rfl)
  have hnews : news = ns.map (Value.int .u8) := by
    apply List.ext_getElem?
    intro j
    have hlen := hvn.1
    simp only [List.length_map, List.size_toArray] at hlen
    rcases Nat.lt_or_ge j news.length with q | q
    · have h1 : (ns.map (AV.i .u8))[j]? = some (AV.i .u8 (ns[j]'(by omega))) := by
        rw [List.getElem?_map, List.getElem?_eq_getElem (by omega : j < ns.length)]
        rfl
      have h2 := hvn.2 j _ _ h1 (by rw [List.getElem?_toArray]; exact List.getElem?_eq_getElem q)
      rw [List.getElem?_eq_getElem q, List.getElem?_map, List.getElem?_eq_getElem (by omega : j < ns.length)]
      generalize news[j] = u at h2 ⊢
      cases h2
      rfl
    · rw [List.getElem?_eq_none q, List.getElem?_eq_none (by simp; omega)]
  subst hnews
  have hm : ns.length = m := by
    have := hS.newsLen
    simpa using this
  have fin : ∀ (a : Addr) (len c : Nat), len = m → vx = .slice (some a) len c → Good P ρ h w (convert src dst vx) (.s (ns.map fun n => UInt8.ofNat n.toNat), h) := by
    rintro a len c rfl rfl
    have hc := hS.cells
    simp only [Builtin.firstCells, Nat.mul_one] at hc
    refine ⟨.string (ns.foldl (fun r n => r.push (UInt8.ofNat n.toNat)) ByteArray.empty), w, ρ, ?_, Ext.refl _, hr, .s _ _ ?_, Eff.refl _ _ _⟩
    · rw [run_convert_bytes_string w src dst e _ _ _ hs he hd]
      exact run_bytesToString w a len c ns hc
    · rw [foldl_push]
      rfl
  cases hx with
  | ns =>
    simp only [srcV, Option.some.injEq, Prod.mk.injEq] at hsrc
    have : ns = [] := by simpa using hsrc.2.symm
    subst this
    refine ⟨.string .empty, w, ρ, ?_, Ext.refl _, hr, .s _ _ rfl, Eff.refl _ _ _⟩
    rw [run_convert_bytes_string w src dst e _ _ _ hs he hd]
    rfl
  | se a c hc =>
    simp only [srcV, Option.some.injEq, Prod.mk.injEq] at hsrc
    exact fin a 0 c hsrc.1 rfl
  | sz id off a c hc hn =>
    simp only [srcV] at hsrc
    obtain ⟨xs, hxs, hsrc⟩ := Option.bind_eq_some_iff.1 hsrc
    split at hsrc
    · simp only [Option.some.injEq, Prod.mk.injEq] at hsrc
      cases a with
      | none =>
        have : ns = [] := by simpa using hsrc.2.symm
        subst this
        refine ⟨.string .empty, w, ρ, ?_, Ext.refl _, hr, .s _ _ rfl, Eff.refl _ _ _⟩
        rw [run_convert_bytes_string w src dst e _ _ _ hs he hd]
        rfl
      | some a => exact fin a 0 c hsrc.1 rfl
    · cases hsrc
  | sl id off len cap k b o n cap' hρ h1 h2 h3 h4 h5 =>
    simp only [srcV] at hsrc
    obtain ⟨xs, hxs, hsrc⟩ := Option.bind_eq_some_iff.1 hsrc
    split at hsrc
    · simp only [Option.some.injEq, Prod.mk.injEq] at hsrc
      exact fin _ len cap' hsrc.1 rfl
    · cases hsrc
  | s l bs hl => exact absurd rfl (hx0 l)
  | _ => simp [srcV] at hsrc
theorem good_cpy {ρ : Mp} {h : List AB} {w : World} (hr : Rel ρ h w) (t tx ty e : TypeId) {d : TypeDesc} {i : TypeInfo} (ht : P.underlying t = some (.slice e)) (hi : P.info? e = some i) (hd : P.underlying tx = some d)
    {s x : AV} {vs vx : Value} (hs : VR ρ s vs) (hx : VR ρ x vx) (hty : (∃ l, x = .s l) ∧ d = .string ∨ (∀ l, x ≠ .s l) ∧ ∃ e', d = .slice e') {r : AV × List AB} (er : cpyV h i.size s x = some r) :
    Good P ρ h w (Builtin.copy_ #[t, tx] ty #[vs, vx]) r := by
  unfold cpyV at er
  obtain ⟨⟨m, ys⟩, hsrc, er⟩ := Option.bind_eq_some_iff.1 er
  simp only at er
  split at er
  case h_2 => cases er
  rename_i id off len cap k _
  split at er
  case isFalse => cases er
  rename_i hml
  obtain ⟨h', hst, rfl⟩ := Option.map_eq_some_iff.1 er
  obtain ⟨fl, xs, hb, hle, hok, _⟩ := stB_some hst
  obtain ⟨news, hS, hvn⟩ := src_of (P := P) hr hsrc hx tx hd hty (one_all hok)
  have hmin : Nat.min m len = m := Nat.min_eq_left hml
  cases hs with
  | sl id off len cap k b o n cap' hρ h1 h2 h3 h4 h5 =>
    obtain ⟨w', g1, g2, g3⟩ := good_stB (P := P) hr hst hρ hvn
    refine ⟨.int .i64 m, w', ρ, ?_, Ext.refl _, g2, .i _ _, g3⟩
    simp [Builtin.copy_, run_underlying ht, sizeOf, typeInfo, hi, hS.len, hmin, hS.cells, g1, goInt]
  | sz id off a c hc hn =>
    have hm0 : m = 0 := by omega
    subst hm0
    have hn0 : news = [] := List.eq_nil_of_length_eq_zero (by have := hS.newsLen; simpa using this)
    subst hn0
    have hy0 : ys = [] := List.eq_nil_of_length_eq_zero (by have := hvn.1; simpa using this)
    subst hy0
    obtain ⟨bo, o', n', hρ, _⟩ := hr.at hb
    obtain ⟨w', g1, g2, g3⟩ := good_stB (P := P) hr hst hρ hvn
    have hw : w' = w := by
      have : (storeCells ⟨bo, o' + off, none⟩ [] 0).run P w = .ok () w := rfl
      rw [this] at g1
      cases g1
      rfl
    subst hw
    refine ⟨.int .i64 (0 : Nat), w', ρ, ?_, Ext.refl _, g2, .i _ _, g3⟩
    cases a with
    | none => simp [Builtin.copy_, run_underlying ht, sizeOf, typeInfo, hi, hS.len, hS.cells, goInt]
    | some a =>
      have e0 : (storeCells a [] 0).run P w' = .ok () w' := rfl
      simp [Builtin.copy_, run_underlying ht, sizeOf, typeInfo, hi, hS.len, hS.cells, goInt, e0]
theorem good_apz {ρ : Mp} {h : List AB} {w : World} (hr : Rel ρ h w) (t tn ty e : TypeId) {kn : IntKind} {ie : TypeInfo} {z : Value} (ht : P.underlying t = some (.slice e)) (htn : P.underlying tn = some (.int kn)) (hie : P.info? e = some ie) (hz : ie.zero = some z) (hzs : z.cells.size = ie.size) (hs0 : ie.size ≠ 0) (fl : Bool) {zl : List AV} (hzl : VL ρ zl z.cells)
    {k : IntKind} {m : Int} (hm : 0 < m) (hby : m.toNat * ie.bytes ≤ 140737488355328) (hmx : m.toNat ≤ maxLen) {r : AV × List AB} (en : newB h fl ((List.replicate m.toNat zl).flatten) (fun q => .sl q 0 m.toNat m.toNat (some zl.length)) = some r) :
    Good P ρ h w (Builtin.append_ #[t, tn] ty #[.slice none 0 0, .int k m]) r := by
  obtain ⟨hok, rfl⟩ := newB_some en
  have hrun := Lib.run_append_nil_zeros (P := P) w t tn ty e ie z k kn ht htn hie hz m.toNat (by omega) (by omega) (by unfold maxLen at hmx; omega) (by omega)
  have hme : ((m.toNat : Nat) : Int) = m := by omega
  rw [hme] at hrun
  have hge := grownCap_ge w m.toNat 0 e
  have hle := grownCap_le_maxLen w m.toNat 0 e hmx
  have hl : zl.length = ie.size := by rw [hzl.1, hzs]
  have hY : VL ρ ((List.replicate m.toNat zl).flatten) (Builtin.zeroCells z.cells m.toNat) := by
    have := zeros_vl (ρ := ρ) hzs hs0 hzl m.toNat
    rw [← hzs] at this
    exact this
  have hnew := new_rel hr.drew e fl (rest := Builtin.zeroCells z.cells (grownCap w m.toNat 0 e - m.toNat)) (hY.wr hok)
  refine ⟨_, _, _, hrun, Ext.push _ _, hnew.1, ?_, (Eff.drew ρ h w).trans hnew.2⟩
  have := VR.sl (ρ := ρ ++ [(w.drew.heap.size, 0, (Builtin.zeroCells z.cells m.toNat ++ Builtin.zeroCells z.cells (grownCap w m.toNat 0 e - m.toNat)).size)]) h.length 0 m.toNat m.toNat (some zl.length) w.heap.size 0 _ (grownCap w m.toNat 0 e) (ext_last ρ h _ hr.len) (Nat.le_refl _) hge hle (fun hk => by cases hk) (fun z' hz' _ => by
    cases hz'
    simp only [Array.size_append, size_zeroCells, hzs, hl]
    have hq : m.toNat * ie.size + (grownCap w m.toNat 0 e - m.toNat) * ie.size = grownCap w m.toNat 0 e * ie.size := by rw [← Nat.add_mul, Nat.add_sub_cancel' hge]
    omega)
  simpa using this
end
end Go.Proofs.Ytpoojfnmhnedpaa
