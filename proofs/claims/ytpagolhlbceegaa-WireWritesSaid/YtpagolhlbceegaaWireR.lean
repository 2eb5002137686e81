/- The reader, walked. -/
import Derived.Test.YtpagolhlbceegaaWireC
import Derived.StillTailTactics
namespace Go.Proofs.Ytpagolhlbceegaa
open Go.RowKit

/-- Where a reader is: how many bytes were read, its first fault, the place of that. -/
structure RSt where
  pos : Nat
  err : Int
  ea : Int
/-- A reader that somebody made. -/
structure RdAt (w : World) (r q : Nat) (v : Value) (bs : List UInt8) (s : RSt) : Prop where
  hr : Blk w r #[.pointer (some ⟨q, 0, none⟩), v, .int .i64 s.pos] 77
  hq : Blk w q #[.int .i64 s.err, .int .i64 s.ea] 82
  own : OwnB w v bs
  le : s.pos ≤ bs.length
def RdS (r q : Nat) : Nat → Prop := fun k => k = r ∨ k = q
theorem RdAt.rq {w : World} {r q : Nat} {v : Value} {bs : List UInt8} {s : RSt} (h : RdAt w r q v bs s) : r ≠ q := h.hr.ne h.hq (by decide)
theorem RdAt.vr {w : World} {r q : Nat} {v : Value} {bs : List UInt8} {s : RSt} (h : RdAt w r q v bs s) : v.ownBlock ≠ some r := owns_ne h.own h.hr (by decide)
theorem RdAt.vq {w : World} {r q : Nat} {v : Value} {bs : List UInt8} {s : RSt} (h : RdAt w r q v bs s) : v.ownBlock ≠ some q := owns_ne h.own h.hq (by decide)
def RdB' (r q : Nat) (v : Value) : Nat → Prop := fun k => k = r ∨ k = q ∨ v.ownBlock = some k
theorem RdAt.kept {S : Nat → Prop} {w w' : World} {r q : Nat} {v : Value} {bs : List UInt8} {s : RSt} (h : RdAt w r q v bs s) (hk : Kept S w w') (hn : ∀ k, RdB' r q v k → ¬ S k) : RdAt w' r q v bs s :=
  ⟨h.hr.kept hk (hn r (.inl rfl)), h.hq.kept hk (hn q (.inr (.inl rfl))), h.own.kept hk fun k e => hn k (.inr (.inr e)), h.le⟩
theorem RdAt.keptN {w w' : World} {r q : Nat} {v : Value} {bs : List UInt8} {s : RSt} (h : RdAt w r q v bs s) (hk : Kept NoS w w') : RdAt w' r q v bs s := h.kept hk fun _ _ e => e
theorem RdAt.lt {w : World} {r q : Nat} {v : Value} {bs : List UInt8} {s : RSt} (h : RdAt w r q v bs s) : ∀ k, RdB' r q v k → k < w.heap.size := by
  rintro k (rfl | rfl | e)
  · exact h.hr.lt
  · exact h.hq.lt
  · exact owns_lt h.own e

def RSt.fail (s : RSt) (e a : Int) : RSt := if s.err = 0 then { s with err := e, ea := a } else s
def beVal (l : List UInt8) : Nat := l.foldl (fun n x => n * 256 + x.toNat) 0
theorem beVal_snoc (l : List UInt8) (x : UInt8) : beVal (l ++ [x]) = beVal l * 256 + x.toNat := by simp [beVal, List.foldl_append]
theorem beVal_from : ∀ (l : List UInt8) (a : Nat), l.foldl (fun n x => n * 256 + x.toNat) a < (a + 1) * 256 ^ l.length
  | [], a => by simp
  | x :: l, a => by
    have h := beVal_from l (a * 256 + x.toNat)
    have hx := x.toNat_lt
    have h2 : (a * 256 + x.toNat + 1) * 256 ^ l.length ≤ ((a + 1) * 256) * 256 ^ l.length := Nat.mul_le_mul_right _ (by omega)
    rw [List.foldl_cons, List.length_cons, Nat.pow_succ, Nat.mul_comm (256 ^ l.length) 256, ← Nat.mul_assoc]
    omega
theorem beVal_lt (l : List UInt8) : beVal l < 256 ^ l.length := by
  have := beVal_from l 0
  simpa [beVal] using this
/-- The next number, its first byte known. -/
def rdNumC (bs : List UInt8) (s : RSt) (c : Nat) : Int × RSt :=
  if 199 < c then (0, { s with err := 5, ea := s.pos })
  else if bs.length < s.pos + 1 + (c - 191) then (0, { s with err := 6, ea := s.pos })
  else if c < 192 then (c, { s with pos := s.pos + 1 })
  else
    let n := beVal ((bs.drop (s.pos + 1)).take (c - 191))
    if 9223372036854775808 ≤ n ∨ sizeOfNum n ≠ c - 191 then (0, { s with err := 5, ea := s.pos })
    else (n, { s with pos := s.pos + 1 + (c - 191) })
/-- The next number. -/
def rdNum (bs : List UInt8) (s : RSt) : Int × RSt :=
  if s.err = 0 then
    match bs[s.pos]? with
    | none => (0, { s with err := 6, ea := s.pos })
    | some c => rdNumC bs s c.toNat
  else (0, s)

theorem region_tail {P : Program} {id : Nat} {Q : Exit → Act → World → Prop} {a : Act} {w : World} {l : List Oper} (n : Nat) (hm : P.follows .mixedOrders = true) (hB : Region.lexTailB .any l.toArray n = true)
    (h : wpStill P l.toArray w.drew (fun a' => wpList P l.toArray Q (l.drop n) a' w.drew) (l.take n) a) : (Code.region id l.toArray true).wp P Q a w :=
  wp_region_still_tail n hm hB h
set_option maxHeartbeats 400000 in
theorem rnone_any (r q : Nat) (e : Int) (w : World) (c0 : w.cell? ⟨r, 0, none⟩ = some (.pointer (some ⟨q, 0, none⟩))) (d0 : w.cell? ⟨q, 0, none⟩ = some (.int .i64 e)) :
    Calls Try.prog 54 #[.pointer (some ⟨r, 0, none⟩)] w fun x w' => x = .returned (.bool (e != 0)) ∧ w = w' := by
  go_enter Try.func54, Try.ntmps54
  go_wp2_with (go_at_call 51; refine (failed_any q e _ d0).mono ?_; rintro e w' ⟨rfl, rfl⟩)
  go_ret
  exact ⟨rfl, rfl⟩

def NumPost (w : World) (r q : Nat) (v : Value) (bs : List UInt8) (x : Int × RSt) (e : Ending) (w' : World) : Prop :=
  e = .returned (.int .i64 x.1) ∧ RdAt w' r q v bs x.2 ∧ Kept (RdS r q) w w'

/-- A first fault is kept. -/
theorem rfail {w w' : World} {r q : Nat} {v : Value} {bs : List UInt8} {s : RSt} {e a : Int} (h : RdAt w r q v bs s) (hq : Blk w' q #[.int .i64 e, .int .i64 a] 82) (hk : Kept (AtB q) w w') : RdAt w' r q v bs { s with err := e, ea := a } ∧ Kept (RdS r q) w w' :=
  ⟨⟨h.hr.kept hk h.rq, hq, h.own.kept hk fun _ e e' => h.vq (by rw [e, e']), h.le⟩, hk.mono fun _ _ e => .inr e⟩

/-- More was read. -/
theorem radv {w : World} {r q : Nat} {v : Value} {bs : List UInt8} {s : RSt} (h : RdAt w r q v bs s) (p' : Nat) (x : Int) (hx : x = p') (hp : p' ≤ bs.length) : RdAt (w.setCell ⟨r, 2, none⟩ (.int .i64 x)) r q v bs { s with pos := p' } ∧ Kept (RdS r q) w (w.setCell ⟨r, 2, none⟩ (.int .i64 x)) := by
  subst hx
  have hk := Kept.setOne w r 2 (.int .i64 p')
  exact ⟨⟨h.hr.set 2 _, h.hq.setOther (a := ⟨r, 2, none⟩) (Ne.symm h.rq) _, h.own.kept hk fun _ e e' => h.vr (by rw [e, e']), hp⟩, hk.mono fun _ _ e => .inl e⟩
end Go.Proofs.Ytpagolhlbceegaa
