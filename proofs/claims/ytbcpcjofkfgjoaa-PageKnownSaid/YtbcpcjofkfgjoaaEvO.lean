/- The abstract machine as a whole: calls, loops, regions that draw their order. -/
import Derived.Test.YtbcpcjofkfgjoaaEvN
namespace Go.Proofs.Ytbcpcjofkfgjoaa
open Go.RowKit

mutual
/-- The numbers of the blocks that a value names. -/
def AV.ids : AV → List Nat
  | .p id _ => [id]
  | .sl id _ _ _ _ => [id]
  | .f _ fst cap => idsL fst ++ idsL cap
  | .ifc _ v => v.ids
  | .ag l => idsL l
  | .tu l => idsL l
  | .y id => [id]
  | _ => []
def idsL : List AV → List Nat
  | [] => []
  | a :: l => a.ids ++ idsL l
end
def blkIds (h : List AB) (id : Nat) : List Nat :=
  match h[id]? with
  | some (.blk false _ xs) => idsL xs
  | some (.lp _ _ fr _ _ _) => idsL fr
  | _ => []
/-- All blocks that are reached from these. -/
def reach (h : List AB) : Nat → List Nat → List Nat → List Nat
  | 0, _, seen => seen
  | _, [], seen => seen
  | n + 1, id :: todo, seen => if memN id seen then reach h n todo seen else reach h n (blkIds h id ++ todo) (id :: seen)

end Go.Proofs.Ytbcpcjofkfgjoaa
