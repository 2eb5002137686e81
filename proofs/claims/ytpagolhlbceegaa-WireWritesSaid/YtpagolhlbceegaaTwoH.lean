/- Both writers, side by side: what each kind of thing does. -/
import Derived.Test.YtpagolhlbceegaaTwo
import Derived.Deep.RegionHeld3
namespace Go.Proofs.Ytpagolhlbceegaa
open Go.RowKit

set_option maxRecDepth 100000 in
set_option maxHeartbeats 2000000 in
theorem writes_bad (lim : Int) (l : Value) (w : World) (h0 : lim < 0 ∨ 67108864 < lim) : Calls Try.prog 4 #[.int .i64 lim, l] w (RetTrue w) := by
  have H0 := Lib.hid h0
  clear h0
  go_enter Try.func4, Try.ntmps4
  go_wp2_with fail
  refine (newWriter_bad lim w H0.out).mono ?_
  rintro e w' ⟨rfl, rfl⟩
  go_wp2_with fail
  refine (refNew_bad lim w H0.out).mono ?_
  rintro e w' ⟨rfl, rfl⟩
  go_wp2_with fail
  go_loopw [9] (fun i wr => i = .int .i64 0 ∧ w = wr) (fun _ _ => 0)
  case atStart => exact ⟨rfl, rfl⟩
  case round =>
    obtain ⟨rfl, rfl⟩ := hrel
    go_wp2_with fail
    refine (awake_any _).mono ?_
    rintro e w1 ⟨rfl, hk1⟩
    go_wp2_with fail
    go_ret
    exact ⟨rfl, hk1⟩

theorem thC_one {t : Th} {w : World} {vB vV : Value} (hB : RdB w vB t.b) (hV : RdI w vV t.v) : (thC t vB vV).toArray.all (·.oneCell') = true := by
  refine all_oneCell_toArray fun u hu => ?_
  obtain ⟨ao, cap, rfl⟩ := hB.form
  obtain ⟨bo, bcap, rfl, _, _⟩ := hV.form
  unfold thC at hu
  simp only [List.mem_append, List.mem_cons, List.not_mem_nil, or_false] at hu
  rcases hu with (rfl | rfl | rfl) | hu | (rfl | rfl | rfl | rfl)
  all_goals first | rfl | exact bytesV_one _ u hu
/-- A whole array or struct into the block that was made last; the world behind it keeps a name. -/
theorem wpList_store_newA {w : World} {ops : Array Oper} {rest : List Oper} {o : Oper} {a : Act} {Q : Exit → Act → World → Prop} (hgd : o.guard = none) (ty : TypeId) (x y : Operand) (ho : o.op = .store ty x y)
    (c c' : Array Value) (t : TypeId) (hx : a.eval x = .pointer (some ⟨w.heap.size, 0, none⟩)) (hy : a.eval y = .agg c') (htt : t = ty)
    (hi : (Try.prog.info? t).map (·.size) = some c'.size) (hoc : c.size = c'.size) (h1 : c'.all (·.oneCell') = true)
    (h : ∀ w', w' = w.alloc (.cells c' t) → wpList Try.prog ops Q rest (a.put o.dst undef) w') : wpList Try.prog ops Q (o :: rest) a (w.alloc (.cells c t)) :=
  wpList_store_new w hgd ty x y ho c c' t hx hy htt hi hoc h1 (h _ rfl)
/-- What the switch must know. -/
structure TwoH (w0 wb : World) (p q x : Nat) (lim : Int) (v vx : Value) (r : List UInt8 × Int) (t : Th) (vB vV : Value) (g : Nat) : Prop where
  two : Two w0 wb p q x lim v vx r r
  hb : r.1.length ≤ 100000
  blk : Blk wb g (thC t vB vV).toArray 45
  gw : ¬ WrB p q v g
  gx : ¬ RfB x vx g
  hB : RdB wb vB t.b
  hV : RdI wb vV t.v
  ht : ThOk t
  hbl : t.b.length ≤ 60
  hvl : t.v.length ≤ 60

def PutA (w0 W : World) (p q x : Nat) (lim : Int) (v vx : Value) (R r : List UInt8 × Int) (g : Nat) (D : List Value) (e : Ending) (w1 : World) : Prop :=
  ∃ v', e = .returned (.int .i64 R.2) ∧ Two w0 w1 p q x lim v' vx R r ∧ Blk w1 g D.toArray 45 ∧ Kept (WrB p q v) W w1
def PutB (w0 W : World) (p q x : Nat) (lim : Int) (v vx : Value) (R : List UInt8 × Int) (g : Nat) (D : List Value) (e : Ending) (w2 : World) : Prop :=
  ∃ vx', e = .returned (.int .i64 R.2) ∧ Two w0 w2 p q x lim v vx' R R ∧ Blk w2 g D.toArray 45 ∧ Kept (RfB x vx) W w2
theorem TwoH.a {w0 wb W : World} {p q x g : Nat} {lim : Int} {v vx vB vV : Value} {r R : List UInt8 × Int} {t : Th} {K : FuncId} {args : Array Value} (H : TwoH w0 wb p q x lim v vx r t vB vV g) (hk : Kept NoS wb W) (hc : Calls Try.prog K args W (PutPost W p q lim v R)) :
    Calls Try.prog K args W (PutA w0 W p q x lim v vx R r g (thC t vB vV)) := hc.mono fun e w1 hp => by
  obtain ⟨v', h1, h2, h3⟩ := (H.two.keptN hk).put1 hp
  exact ⟨v', h1, h2, (H.blk.kept hk fun e => e).kept h3 H.gw, h3⟩
theorem TwoH.b {w0 wb W : World} {p q x g : Nat} {lim : Int} {v v1 vx vB vV : Value} {r R : List UInt8 × Int} {t : Th} {K : FuncId} {args : Array Value} (H : TwoH w0 wb p q x lim v vx r t vB vV g) (h2 : Two w0 W p q x lim v1 vx R r) (hb : Blk W g (thC t vB vV).toArray 45)
    (hc : Calls Try.prog K args W (RfPost W x lim vx R)) : Calls Try.prog K args W (PutB w0 W p q x lim v1 vx R g (thC t vB vV)) := hc.mono fun e w1 hp => by
  obtain ⟨v', h1, h2, h3⟩ := h2.put2 hp
  exact ⟨v', h1, h2, hb.kept h3 H.gx, h3⟩
theorem Two.over {w0 wa w w' : World} {S : Nat → Prop} {p q x : Nat} {lim : Int} {v vx : Value} {r s : List UInt8 × Int} (ha : Two w0 wa p q x lim v vx r s) (h : Two w0 w p q x lim v vx r s) (hk : Kept S w w') (hs : ∀ k, S k → wa.heap.size ≤ k) : Two w0 w' p q x lim v vx r s := by
  have h0 := ha.hk.size
  refine ⟨h.hw.kept hk fun k hk e => ?_, h.hx.kept hk fun k hk e => ?_, kept_fresh h.hk hk fun k e => Nat.le_trans h0 (hs k e), h.fw, h.fx, h.ap⟩
  · have := ha.hw.lt k hk
    have := hs k e
    omega
  · have := ha.hx.lt k hk
    have := hs k e
    omega
theorem thPut_0 {lim : Int} {r : List UInt8 × Int} {t : Th} (hk : t.kind = 0) : thPut lim r t = wput lim r.1 r.2 (encNum t.n) (decide (0 ≤ t.n)) := by
  unfold thPut thKnown thEnc
  simp [hk]
theorem thPut_1 {lim : Int} {r : List UInt8 × Int} {t : Th} (hk : t.kind = 1) : thPut lim r t = wput lim r.1 r.2 (encNum t.b.length ++ t.b) true := by
  unfold thPut thKnown thEnc
  simp [hk]
theorem thPut_2 {lim : Int} {r : List UInt8 × Int} {t : Th} (hk : t.kind = 2) : thPut lim r t = wput lim r.1 r.2 (encNum t.b.length ++ t.b) true := by
  unfold thPut thKnown thEnc
  simp [hk]
theorem thPut_3 {lim : Int} {r : List UInt8 × Int} {t : Th} (hk : t.kind = 3) : thPut lim r t = wput lim r.1 r.2 t.d true := by
  unfold thPut thKnown thEnc
  simp [hk]
theorem thPut_4 {lim : Int} {r : List UInt8 × Int} {t : Th} (hk : t.kind = 4) : thPut lim r t = wput lim r.1 r.2 (encNum t.r ++ encNum t.s) (decide (0 ≤ t.r) && decide (0 ≤ t.s)) := by
  unfold thPut thKnown thEnc
  simp [hk]
theorem thPut_5 {lim : Int} {r : List UInt8 × Int} {t : Th} (hk : t.kind = 5) : thPut lim r t = wput lim r.1 r.2 (encNum t.v.length ++ encNums t.v) (!t.v.any (fun n => decide (n < 0))) := by
  unfold thPut thKnown thEnc
  simp [hk]
theorem thPut_6 {lim : Int} {r : List UInt8 × Int} {t : Th} (hk : t.kind = 6) : thPut lim r t = wput lim r.1 r.2 [boolB t.is] true := by
  unfold thPut thKnown thEnc
  simp [hk]
theorem thPut_x {lim : Int} {r : List UInt8 × Int} {t : Th} (hk : thKnown t = false) : thPut lim r t = r := by
  unfold thPut
  rw [hk]
  rfl
theorem baSize (l : List UInt8) : (⟨l.toArray⟩ : ByteArray).size = l.length := by simp [ByteArray.size]
section
variable {w0 wb : World} {p q x g : Nat} {lim : Int} {v vx vB vV : Value} {r : List UInt8 × Int} {t : Th} (H : TwoH w0 wb p q x lim v vx r t vB vV g)
include H
theorem TwoH.hw {W : World} (hk : Kept NoS wb W) : WrAt W p q lim v r.1 r.2 := H.two.hw.keptN hk
theorem TwoH.len : r.1.length ≤ 4294967296 := by
  have := H.hb
  omega
theorem TwoH.num1 (hk : t.kind = 0) (W : World) (hw : Kept NoS wb W) : Calls Try.prog 10 #[.pointer (some ⟨p, 0, none⟩), .int .i64 t.n] W (PutA w0 W p q x lim v vx (thPut lim r t) r g (thC t vB vV)) := by
  rw [thPut_0 hk]
  exact H.a hw (wNum_any p q lim v _ _ W (H.hw hw) H.len t.n H.ht.n)
theorem TwoH.num2 (hk : t.kind = 0) (W : World) (v1 : Value) (h2 : Two w0 W p q x lim v1 vx (thPut lim r t) r) (hb : Blk W g (thC t vB vV).toArray 45) : Calls Try.prog 17 #[.pointer (some ⟨x, 0, none⟩), .int .i64 t.n] W (PutB w0 W p q x lim v1 vx (thPut lim r t) g (thC t vB vV)) := by
  rw [thPut_0 hk] at h2 ⊢
  exact H.b h2 hb (refWNum_any x lim vx _ _ W h2.hx H.len t.n H.ht.n)
theorem TwoH.text1 (hk : t.kind = 1) (W : World) (hw : Kept NoS wb W) : Calls Try.prog 9 #[.pointer (some ⟨p, 0, none⟩), .string ⟨t.b.toArray⟩] W (PutA w0 W p q x lim v vx (thPut lim r t) r g (thC t vB vV)) := by
  rw [thPut_1 hk]
  have hb := H.hbl
  have := wText_any p q lim v _ _ W (H.hw hw) H.len ⟨t.b.toArray⟩ (by rw [baSize]; omega)
  rw [baSize] at this
  exact H.a hw this
theorem TwoH.text2 (hk : t.kind = 1) (W : World) (v1 : Value) (h2 : Two w0 W p q x lim v1 vx (thPut lim r t) r) (hb : Blk W g (thC t vB vV).toArray 45) : Calls Try.prog 18 #[.pointer (some ⟨x, 0, none⟩), .string ⟨t.b.toArray⟩] W (PutB w0 W p q x lim v1 vx (thPut lim r t) g (thC t vB vV)) := by
  rw [thPut_1 hk] at h2 ⊢
  have hbl := H.hbl
  exact H.b h2 hb (refWText_any x lim vx _ _ W h2.hx H.len t.b (by omega))
theorem TwoH.bytes1 (hk : t.kind = 2) (W : World) (hw : Kept NoS wb W) (y : Value) (hy : RdB W y t.b) : Calls Try.prog 20 #[.pointer (some ⟨p, 0, none⟩), y] W (PutA w0 W p q x lim v vx (thPut lim r t) r g (thC t vB vV)) := by
  rw [thPut_2 hk]
  have hb := H.hbl
  exact H.a hw (wBytes_any p q lim v _ _ W (H.hw hw) H.len y t.b hy (by omega))
theorem TwoH.bytes2 (hk : t.kind = 2) (W : World) (v1 : Value) (h2 : Two w0 W p q x lim v1 vx (thPut lim r t) r) (hb : Blk W g (thC t vB vV).toArray 45) (y : Value) (hy : RdB W y (encNum t.b.length ++ t.b)) : Calls Try.prog 21 #[.pointer (some ⟨x, 0, none⟩), y, .slice none 0 0] W (PutB w0 W p q x lim v1 vx (thPut lim r t) g (thC t vB vV)) := by
  rw [thPut_2 hk] at h2 ⊢
  have hbl := H.hbl
  have hl := encNum_len t.b.length
  exact H.b h2 hb (refPut_any x lim vx _ _ W h2.hx H.len y _ hy (by rw [List.length_append]; omega) (.slice none 0 0) [] (Sl.nil _))
theorem TwoH.id1 (hk : t.kind = 3) (W : World) (hw : Kept NoS wb W) : Calls Try.prog 24 #[.pointer (some ⟨p, 0, none⟩), .agg (bytesV t.d).toArray] W (PutA w0 W p q x lim v vx (thPut lim r t) r g (thC t vB vV)) := by
  rw [thPut_3 hk]
  exact H.a hw (wID_any p q lim v _ _ W (H.hw hw) H.len t.d H.ht.d)
theorem TwoH.id2 (hk : t.kind = 3) (W : World) (v1 : Value) (h2 : Two w0 W p q x lim v1 vx (thPut lim r t) r) (hb : Blk W g (thC t vB vV).toArray 45) : Calls Try.prog 25 #[.pointer (some ⟨x, 0, none⟩), .agg (bytesV t.d).toArray] W (PutB w0 W p q x lim v1 vx (thPut lim r t) g (thC t vB vV)) := by
  rw [thPut_3 hk] at h2 ⊢
  exact H.b h2 hb (refWID_any x lim vx _ _ W h2.hx H.len t.d H.ht.d)
theorem TwoH.dot1 (hk : t.kind = 4) (W : World) (hw : Kept NoS wb W) : Calls Try.prog 26 #[.pointer (some ⟨p, 0, none⟩), .agg #[.int .i64 t.r, .int .i64 t.s]] W (PutA w0 W p q x lim v vx (thPut lim r t) r g (thC t vB vV)) := by
  rw [thPut_4 hk]
  exact H.a hw (wDot_any p q lim v _ _ W (H.hw hw) H.len t.r t.s H.ht.r H.ht.s)
theorem TwoH.dot2 (hk : t.kind = 4) (W : World) (v1 : Value) (h2 : Two w0 W p q x lim v1 vx (thPut lim r t) r) (hb : Blk W g (thC t vB vV).toArray 45) : Calls Try.prog 27 #[.pointer (some ⟨x, 0, none⟩), .agg #[.int .i64 t.r, .int .i64 t.s]] W (PutB w0 W p q x lim v1 vx (thPut lim r t) g (thC t vB vV)) := by
  rw [thPut_4 hk] at h2 ⊢
  exact H.b h2 hb (refWDot_any x lim vx _ _ W h2.hx H.len t.r t.s H.ht.r H.ht.s)
theorem TwoH.vec1 (hk : t.kind = 5) (W : World) (hw : Kept NoS wb W) : Calls Try.prog 28 #[.pointer (some ⟨p, 0, none⟩), vV] W (PutA w0 W p q x lim v vx (thPut lim r t) r g (thC t vB vV)) := by
  rw [thPut_5 hk]
  have hb := H.hvl
  exact H.a hw (wVector_any p q lim v _ _ W (H.hw hw) H.len vV t.v (H.hV.keptN hw) (by omega) H.ht.v)
theorem TwoH.vec2 (hk : t.kind = 5) (W : World) (v1 : Value) (h2 : Two w0 W p q x lim v1 vx (thPut lim r t) r) (hb : Blk W g (thC t vB vV).toArray 45) (hV : RdI W vV t.v) : Calls Try.prog 29 #[.pointer (some ⟨x, 0, none⟩), vV] W (PutB w0 W p q x lim v1 vx (thPut lim r t) g (thC t vB vV)) := by
  rw [thPut_5 hk] at h2 ⊢
  have hbl := H.hvl
  exact H.b h2 hb (refWVector_any x lim vx _ _ W h2.hx H.len vV t.v hV (by omega) H.ht.v)
theorem TwoH.bool1 (hk : t.kind = 6) (W : World) (hw : Kept NoS wb W) : Calls Try.prog 30 #[.pointer (some ⟨p, 0, none⟩), .bool t.is] W (PutA w0 W p q x lim v vx (thPut lim r t) r g (thC t vB vV)) := by
  rw [thPut_6 hk]
  exact H.a hw (wBool_any p q lim v _ _ W (H.hw hw) H.len t.is)
theorem TwoH.bool2 (hk : t.kind = 6) (W : World) (v1 : Value) (h2 : Two w0 W p q x lim v1 vx (thPut lim r t) r) (hb : Blk W g (thC t vB vV).toArray 45) : Calls Try.prog 31 #[.pointer (some ⟨x, 0, none⟩), .bool t.is] W (PutB w0 W p q x lim v1 vx (thPut lim r t) g (thC t vB vV)) := by
  rw [thPut_6 hk] at h2 ⊢
  exact H.b h2 hb (refWBool_any x lim vx _ _ W h2.hx H.len t.is)
end
end Go.Proofs.Ytpagolhlbceegaa
