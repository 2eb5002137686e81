/- The things of the law, as data: what a list of things that came in reads as. -/
import Derived.Test.YtpagolhlbceegaaOpen
import Derived.Test.YtpagolhlbceegaaWireG
namespace Go.Proofs.Ytpagolhlbceegaa
open Go.ChangeShapes Go.WideShapes Go.ChangeAt Go.RowKit

structure Th where
  kind : Int
  n : Int
  b : List UInt8
  d : List UInt8
  r : Int
  s : Int
  v : List Int
  is : Bool
/-- The cells of a thing. -/
def thC (t : Th) (vB vV : Value) : List Value := [.int .i64 t.kind, .int .i64 t.n, vB] ++ (bytesV t.d ++ [.int .i64 t.r, .int .i64 t.s, vV, .bool t.is])
structure ThOk (t : Th) : Prop where
  kind : I64 t.kind
  n : I64 t.n
  d : t.d.length = 32
  r : I64 t.r
  s : I64 t.s
  v : ∀ x ∈ t.v, I64 x
def ThR (w : World) (cs : List Value) (t : Th) : Prop := ∃ vB vV, cs = thC t vB vV ∧ RdB w vB t.b ∧ RdI w vV t.v ∧ ThOk t
theorem ThR.stays : Stays ThR := fun w w' cs t h hk => by
  obtain ⟨vB, vV, h1, h2, h3, h4⟩ := h
  exact ⟨vB, vV, h1, h2.keptN hk, h3.keptN hk, h4⟩

section
variable {H : Type} {enc : TypeId × Value → H} {w : World} {base : Nat} {held : Bool}
theorem bytes_open {fuel : Nat} {cs : List Value} {x : DataW H × List MemPlace} (h : DataW.trod enc Try.prog w base (fun _ => true) held fuel 28 cs = some x) : ∃ v, cs = [v] ∧ ∃ bs, RdB w v bs := by
  obtain ⟨v, h1, ts, h2⟩ := leaf_slice (fun _ cs (c : UInt8) => cs = [byteV c]) Try.underlying28 (size := 1) (by kernel_rfl) (by decide) (fun fuel cs x hx => by
    obtain ⟨n, rfl, hw⟩ := leaf_int Try.underlying5 hx
    exact ⟨UInt8.ofInt n, by rw [wf_u8 hw]; rfl⟩) h
  exact ⟨v, h1, ts, RdL.one h2⟩
theorem ints_open {fuel : Nat} {cs : List Value} {x : DataW H × List MemPlace} (h : DataW.trod enc Try.prog w base (fun _ => true) held fuel 43 cs = some x) : ∃ v, cs = [v] ∧ ∃ xs, RdI w v xs ∧ ∀ n ∈ xs, I64 n := by
  obtain ⟨v, h1, ts, h2⟩ := leaf_slice (fun _ cs (c : { n : Int // I64 n }) => cs = [Value.int .i64 c.1]) Try.underlying43 (size := 1) (by kernel_rfl) (by decide) (fun fuel cs x hx => by
    obtain ⟨n, rfl, hw⟩ := leaf_int Try.underlying3 hx
    exact ⟨⟨n, wf_i64 hw⟩, rfl⟩) h
  have := RdL.one (f := fun c : { n : Int // I64 n } => Value.int .i64 c.1) h2
  refine ⟨v, h1, ts.map (·.1), ?_, fun n hn => ?_⟩
  · unfold RdI
    rw [List.length_map, List.map_map]
    exact this
  · obtain ⟨c, _, rfl⟩ := List.mem_map.1 hn
    exact c.2
theorem id_open {fuel : Nat} {cs : List Value} {x : DataW H × List MemPlace} (h : DataW.trod enc Try.prog w base (fun _ => true) held fuel 40 cs = some x) : ∃ d : List UInt8, cs = bytesV d ∧ d.length = 32 := by
  cases fuel with
  | zero => cases h
  | succ fuel =>
    obtain ⟨hl, he⟩ := array_open Try.underlying40 h
    have hl2 : cs.length = 32 := hl.trans (by kernel_rfl)
    have h1 : Try.prog.cellsOf 5 = 1 := by kernel_rfl
    obtain ⟨d, hd, hdt⟩ := choose_list (fun i (c : UInt8) => cs[i]? = some (byteV c)) 32 fun i hi => by
      obtain ⟨y, hy⟩ := he i hi
      rw [h1] at hy
      obtain ⟨n, hn, hw⟩ := leaf_int Try.underlying5 hy
      refine ⟨UInt8.ofInt n, ?_⟩
      have e : ((cs.drop (i * 1)).take 1)[0]? = some (.int .u8 n) := by rw [hn]; rfl
      rw [List.getElem?_take_of_lt (by omega), List.getElem?_drop, wf_u8 hw] at e
      simpa [byteV] using e
    refine ⟨d, ?_, hd⟩
    apply List.ext_getElem?
    intro i
    unfold bytesV
    by_cases hi : i < 32
    · obtain ⟨c, hc⟩ := some_at d (by omega : i < d.length)
      rw [List.getElem?_map, hc, Option.map_some, hdt i c hc]
    · rw [List.getElem?_eq_none (by omega), List.getElem?_eq_none (by rw [List.length_map]; omega)]
theorem dot_open {fuel : Nat} {cs : List Value} {x : DataW H × List MemPlace} (h : DataW.trod enc Try.prog w base (fun _ => true) held fuel 42 cs = some x) : ∃ r n, cs = [.int .i64 r, .int .i64 n] ∧ I64 r ∧ I64 n := by
  cases fuel with
  | zero => cases h
  | succ fuel =>
    obtain ⟨hl, he⟩ := struct_open Try.underlying42 h
    have hl2 : cs.length = 2 := hl.trans (by kernel_rfl)
    simp only [List.forall_mem_cons] at he
    obtain ⟨⟨y0, h0⟩, ⟨y1, h1⟩, _⟩ := he
    rw [(by kernel_rfl : Try.prog.cellsOf 3 = 1)] at h0 h1
    obtain ⟨r, e0, w0⟩ := leaf_int Try.underlying3 h0
    obtain ⟨n, e1, w1⟩ := leaf_int Try.underlying3 h1
    match cs, hl2 with
    | [a, b], _ =>
      simp at e0 e1
      subst e0 e1
      exact ⟨r, n, rfl, wf_i64 w0, wf_i64 w1⟩
theorem cut (cs : List Value) (o n : Nat) : cs.drop o = (cs.drop o).take n ++ cs.drop (o + n) := by
  rw [← List.drop_drop, List.take_append_drop]
theorem th_open {fuel : Nat} {cs : List Value} {x : DataW H × List MemPlace} (h : DataW.trod enc Try.prog w base (fun _ => true) held fuel 45 cs = some x) : ∃ t, ThR w cs t := by
  cases fuel with
  | zero => cases h
  | succ fuel =>
    obtain ⟨hl, he⟩ := struct_open Try.underlying45 h
    have hl2 : cs.length = 39 := hl.trans (by kernel_rfl)
    simp only [List.forall_mem_cons] at he
    obtain ⟨⟨y0, h0⟩, ⟨y1, h1⟩, ⟨y2, h2⟩, ⟨y3, h3⟩, ⟨y4, h4⟩, ⟨y5, h5⟩, ⟨y6, h6⟩, _⟩ := he
    rw [(by kernel_rfl : Try.prog.cellsOf 3 = 1)] at h0 h1
    rw [(by kernel_rfl : Try.prog.cellsOf 28 = 1)] at h2
    rw [(by kernel_rfl : Try.prog.cellsOf 40 = 32)] at h3
    rw [(by kernel_rfl : Try.prog.cellsOf 42 = 2)] at h4
    rw [(by kernel_rfl : Try.prog.cellsOf 43 = 1)] at h5
    rw [(by kernel_rfl : Try.prog.cellsOf 4 = 1)] at h6
    obtain ⟨kind, e0, w0⟩ := leaf_int Try.underlying3 h0
    obtain ⟨n, e1, w1⟩ := leaf_int Try.underlying3 h1
    obtain ⟨vB, e2, b, hb⟩ := bytes_open h2
    obtain ⟨d, e3, hd⟩ := id_open h3
    obtain ⟨r, s, e4, w4, w5⟩ := dot_open h4
    obtain ⟨vV, e5, v, hv, hvi⟩ := ints_open h5
    obtain ⟨is, e6⟩ := leaf_bool Try.underlying4 h6
    refine ⟨⟨kind, n, b, d, r, s, v, is⟩, vB, vV, ?_, hb, hv, ⟨wf_i64 w0, wf_i64 w1, hd, w4, w5, hvi⟩⟩
    have hcut : cs = (cs.drop 0).take 1 ++ ((cs.drop 1).take 1 ++ ((cs.drop 2).take 1 ++ ((cs.drop 3).take 32 ++ ((cs.drop 35).take 2 ++ ((cs.drop 37).take 1 ++ (cs.drop 38).take 1))))) := by
      have t6 : cs.drop 38 = (cs.drop 38).take 1 := by
        have := cut cs 38 1
        rw [List.drop_eq_nil_of_le (by omega : cs.length ≤ 38 + 1), List.append_nil] at this
        exact this
      rw [← t6, ← cut cs 37 1, ← cut cs 35 2, ← cut cs 3 32, ← cut cs 2 1, ← cut cs 1 1, ← cut cs 0 1]
      rfl
    rw [hcut, e0, e1, e2, e3, e4, e5, e6]
    rfl
theorem things_open {fuel : Nat} {cs : List Value} {x : DataW H × List MemPlace} (h : DataW.trod enc Try.prog w base (fun _ => true) held fuel 34 cs = some x) : ∃ v, cs = [v] ∧ ∃ ts, RdL ThR 39 w v ts :=
  leaf_slice ThR Try.underlying34 (by kernel_rfl) (by decide) (fun _ _ _ hx => th_open hx) h
end
end Go.Proofs.Ytpagolhlbceegaa
