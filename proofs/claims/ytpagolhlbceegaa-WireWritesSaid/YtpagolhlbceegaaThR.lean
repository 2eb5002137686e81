/- 'reads', walked: what is read of a thing is held against it. -/
import Derived.Test.YtpagolhlbceegaaThS
namespace Go.Proofs.Ytpagolhlbceegaa
open Go.RowKit

/-- What a reader answers of a thing, and where it is then. -/
def rdThing (bs : List UInt8) (s : RSt) (t : Th) : Bool × RSt :=
  if t.kind = 0 then ((rdNum bs s).1 == t.n, (rdNum bs s).2)
  else if t.kind = 1 ∨ t.kind = 2 then (decide ((rdBytes bs s t.b.length).1 = t.b), (rdBytes bs s t.b.length).2)
  else if t.kind = 3 then ((rdID bs s).1 == t.d, (rdID bs s).2)
  else if t.kind = 4 then ((rdDot bs s).1.1 == t.r && (rdDot bs s).1.2 == t.s, (rdDot bs s).2)
  else if t.kind = 5 then (decide ((rdVec bs s t.v.length).1 = t.v), (rdVec bs s t.v.length).2)
  else if t.kind = 6 then ((rdBool bs s).1 == t.is, (rdBool bs s).2)
  else (true, s)
/-- What a reader and a thing must be. -/
structure RH (W : World) (r q : Nat) (v vB vV : Value) (bs : List UInt8) (s : RSt) (t : Th) (w : World) : Prop where
  h : RdAt w r q v bs s
  hb : bs.length ≤ 4294967296
  hW : Kept NoS W w
  hr : W.heap.size ≤ r
  hq : W.heap.size ≤ q
  hB : RdB W vB t.b
  hV : RdI W vV t.v
  ht : ThOk t
  hbl : t.b.length ≤ 1048576
  hvl : t.v.length ≤ 1048576
end Go.Proofs.Ytpagolhlbceegaa
