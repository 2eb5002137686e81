/- Both writers, side by side. -/
import Derived.Test.YtpagolhlbceegaaRefF
import Derived.Test.YtpagolhlbceegaaRefD
import Derived.Test.YtpagolhlbceegaaRefO
namespace Go.Proofs.Ytpagolhlbceegaa
open Go.RowKit

structure Two (w0 w : World) (p q x : Nat) (lim : Int) (v vx : Value) (r s : List UInt8 × Int) : Prop where
  hw : WrAt w p q lim v r.1 r.2
  hx : RfAt w x lim vx s.1 s.2
  hk : Kept NoS w0 w
  fw : ∀ k, WrB p q v k → w0.heap.size ≤ k
  fx : ∀ k, RfB x vx k → w0.heap.size ≤ k
  ap : ∀ k, RfB x vx k → ¬ WrB p q v k
theorem Two.keptN {w0 w w' : World} {p q x : Nat} {lim : Int} {v vx : Value} {r s : List UInt8 × Int} (h : Two w0 w p q x lim v vx r s) (hk : Kept NoS w w') : Two w0 w' p q x lim v vx r s :=
  ⟨h.hw.keptN hk, h.hx.keptN hk, h.hk.trans hk, h.fw, h.fx, h.ap⟩
/-- The first one has written. -/
def Put1 (w0 W : World) (p q x : Nat) (lim : Int) (v vx : Value) (r s : List UInt8 × Int) (e : Ending) (w' : World) : Prop :=
  ∃ v', e = .returned (.int .i64 r.2) ∧ Two w0 w' p q x lim v' vx r s ∧ Kept (WrB p q v) W w'
def Put2 (w0 W : World) (p q x : Nat) (lim : Int) (v vx : Value) (r : List UInt8 × Int) (e : Ending) (w' : World) : Prop :=
  ∃ vx', e = .returned (.int .i64 r.2) ∧ Two w0 w' p q x lim v vx' r r ∧ Kept (RfB x vx) W w'
theorem Two.put1 {w0 w w' : World} {p q x : Nat} {lim : Int} {v vx : Value} {r r' s : List UInt8 × Int} {e : Ending} (h : Two w0 w p q x lim v vx r s) (hp : PutPost w p q lim v r' e w') : Put1 w0 w p q x lim v vx r' s e w' := by
  obtain ⟨v', rfl, h1, h2, h3⟩ := hp
  have hsz := h.hk.size
  have hxl := h.hx.lt
  have hap : ∀ k, RfB x vx k → ¬ WrB p q v' k := put_apart h.ap hxl h3
  exact ⟨v', rfl, ⟨h1, h.hx.kept h2 h.ap, kept_fresh h.hk h2 h.fw, put_fresh hsz h.fw h3, h.fx, hap⟩, h2⟩
theorem Two.put2 {w0 w w' : World} {p q x : Nat} {lim : Int} {v vx : Value} {r s : List UInt8 × Int} {e : Ending} (h : Two w0 w p q x lim v vx r s) (hp : RfPost w x lim vx r e w') : Put2 w0 w p q x lim v vx r e w' := by
  obtain ⟨vx', rfl, h1, h2, h3⟩ := hp
  have hsz := h.hk.size
  have hwl := h.hw.lt
  refine ⟨vx', rfl, ⟨h.hw.kept h2 fun k hk e => h.ap k e hk, h1, kept_fresh h.hk h2 h.fx, h.fw, ?_, ?_⟩, h2⟩
  · rintro k (e | e)
    · exact h.fx k (.inl e)
    · rcases h3 with h3 | ⟨m, h3, hm⟩
      · exact h.fx k (.inr (h3 ▸ e))
      · rw [h3] at e; cases e; omega
  · rintro k (e | e) hk
    · exact h.ap k (.inl e) hk
    · rcases h3 with h3 | ⟨m, h3, hm⟩
      · exact h.ap k (.inr (h3 ▸ e)) hk
      · rw [h3] at e; cases e; have := hwl _ hk; omega
/-- What both are behind a thing. -/
def thPut (lim : Int) (r : List UInt8 × Int) (t : Th) : List UInt8 × Int := if thKnown t then wput lim r.1 r.2 (thEnc t).1 (thEnc t).2 else r
theorem wput_len (lim : Int) (bs : List UInt8) (err : Int) (enc : List UInt8) (ok : Bool) : (wput lim bs err enc ok).1.length ≤ bs.length + enc.length := by
  unfold wput
  repeat' split
  all_goals simp
theorem thPut_len (lim : Int) (r : List UInt8 × Int) {t : Th} (hd : t.d.length = 32) (hb : t.b.length ≤ 60) (hv : t.v.length ≤ 60) : (thPut lim r t).1.length ≤ r.1.length + 600 := by
  have h1 := thAll_len hd hb hv
  unfold thPut
  split
  · rename_i hk
    have h2 := wput_len lim r.1 r.2 (thEnc t).1 (thEnc t).2
    unfold thAll at h1
    rw [if_pos hk] at h1
    omega
  · omega
/-- What a round's switch leaves. -/
def TwoR (w0 : World) (p q x : Nat) (lim : Int) (r : List UInt8 × Int) (W : World) : Prop := ∃ v vx, Two w0 W p q x lim v vx r r
end Go.Proofs.Ytpagolhlbceegaa
