/-
  No cell of these rows narrows 'for every input' (looked for: loops, veiled, ifaces, maps, wideKeys, modest, calm, conditions, laid).
  DERIVED. THE GIVEN ROWS OF THIS SEAT. 7 by the template 'for every input the law returns true; each argument reads behind the call as it read before'; 0 by the template 'total and deterministic' (their statements: YtfaccliekejngaaGreatTotals.lean).
  GIVEN WITH THE SEED: the statements are not yours to turn. If you find one false, say at which input.
  Laid BY PROGRAM, IN A SANDBOX (cutbox-rows.mjs): the forced cells as the released guide's own fill.sh prints them over the translation b589340a0aaf88f5… (all of the seat's roots in one cut). By AI agents, Wed Nov 11 2026. No macro, syntax, notation, axiom, sorry.
-/
import Derived.Test.YtfaccliekejngaaGreatChecked
import GoSem.Claim
import GoSem.ClaimJoined
import GoSem.ClaimMapViews
import Derived.JoinedTies
import Derived.KernelRfl
namespace Go.Proofs.YtfaccliekejngaaGreat
/- THE CELL 'sum', in the pinned program and in every row, IS THE sha256 OF THE DUMP (.gsa) THAT YtfaccliekejngaaGreatProg.lean LOADS. Nothing in Lean hashes anything: it is a label: what it is worth is what the hold of that sum in a sandbox is worth. -/
noncomputable def Tryz.pinned : Pinned := { name := "ytfaccliekejngaagreat", sum := "b589340a0aaf88f53c4a2e34c204804bd0995e6bf9032a1beba5e71c95c50639", checked := Tryz.checked }
namespace Rows
def none {H : Type} : Left H := { results := [], args := [] }

/-- 'entrepotlaw17.OrsetJoins': WHATEVER THE INPUT: true; the input reads as it did. -/
def orsetJoinsSpec : ChangeSpec := { name := "orsetJoins", fn := fun _ => fun
  | [d1, d2, d3] => { results := [.lit (.bool true)], args := [d1, d2, d3] }
  | _ => none }
def orsetJoinsRow : OpenClaim := { program := "ytfaccliekejngaagreat", sum := "b589340a0aaf88f53c4a2e34c204804bd0995e6bf9032a1beba5e71c95c50639", func := "entrepot/entrepotlaw17.OrsetJoins", spec := "orsetJoins", inPlace := ["internal/bytealg.Compare"], unfollowed := true, recurses := true, apart := false }
def OrsetJoinsSaid : Prop := orsetJoinsRow.holds Tryz.pinned (OpenSpec.ofChange orsetJoinsSpec)

/-- ITS FALSE NEIGHBOUR: 'it returns false'. Refute it at one input. -/
def orsetJoinsWrong : ChangeSpec := { name := "orsetJoins", fn := fun _ => fun
  | [d1, d2, d3] => { results := [.lit (.bool false)], args := [d1, d2, d3] }
  | _ => none }
def OrsetJoinsWrongFalsely : Prop := orsetJoinsRow.holds Tryz.pinned (OpenSpec.ofChange orsetJoinsWrong)

/-- 'entrepotlaw17.OrsetTurns': WHATEVER THE INPUT: true; the input reads as it did. -/
def orsetTurnsSpec : ChangeSpec := { name := "orsetTurns", fn := fun _ => fun
  | [d1, d2, d3] => { results := [.lit (.bool true)], args := [d1, d2, d3] }
  | _ => none }
def orsetTurnsRow : OpenClaim := { program := "ytfaccliekejngaagreat", sum := "b589340a0aaf88f53c4a2e34c204804bd0995e6bf9032a1beba5e71c95c50639", func := "entrepot/entrepotlaw17.OrsetTurns", spec := "orsetTurns", inPlace := ["internal/bytealg.Compare"], unfollowed := true, recurses := true, apart := false }
def OrsetTurnsSaid : Prop := orsetTurnsRow.holds Tryz.pinned (OpenSpec.ofChange orsetTurnsSpec)

/-- ITS FALSE NEIGHBOUR: 'it returns false'. Refute it at one input. -/
def orsetTurnsWrong : ChangeSpec := { name := "orsetTurns", fn := fun _ => fun
  | [d1, d2, d3] => { results := [.lit (.bool false)], args := [d1, d2, d3] }
  | _ => none }
def OrsetTurnsWrongFalsely : Prop := orsetTurnsRow.holds Tryz.pinned (OpenSpec.ofChange orsetTurnsWrong)

/-- 'entrepotlaw17.OrsetApplies': WHATEVER THE INPUT: true; the input reads as it did. -/
def orsetAppliesSpec : ChangeSpec := { name := "orsetApplies", fn := fun _ => fun
  | [d1, d2] => { results := [.lit (.bool true)], args := [d1, d2] }
  | _ => none }
def orsetAppliesRow : OpenClaim := { program := "ytfaccliekejngaagreat", sum := "b589340a0aaf88f53c4a2e34c204804bd0995e6bf9032a1beba5e71c95c50639", func := "entrepot/entrepotlaw17.OrsetApplies", spec := "orsetApplies", inPlace := ["internal/bytealg.Compare"], unfollowed := true, recurses := true, apart := false }
def OrsetAppliesSaid : Prop := orsetAppliesRow.holds Tryz.pinned (OpenSpec.ofChange orsetAppliesSpec)

/-- ITS FALSE NEIGHBOUR: 'it returns false'. Refute it at one input. -/
def orsetAppliesWrong : ChangeSpec := { name := "orsetApplies", fn := fun _ => fun
  | [d1, d2] => { results := [.lit (.bool false)], args := [d1, d2] }
  | _ => none }
def OrsetAppliesWrongFalsely : Prop := orsetAppliesRow.holds Tryz.pinned (OpenSpec.ofChange orsetAppliesWrong)

/-- 'entrepotlaw17.OrsetKnown': WHATEVER THE INPUT: true; the input reads as it did. -/
def orsetKnownSpec : ChangeSpec := { name := "orsetKnown", fn := fun _ => fun
  | [] => { results := [.lit (.bool true)], args := [] }
  | _ => none }
def orsetKnownRow : OpenClaim := { program := "ytfaccliekejngaagreat", sum := "b589340a0aaf88f53c4a2e34c204804bd0995e6bf9032a1beba5e71c95c50639", func := "entrepot/entrepotlaw17.OrsetKnown", spec := "orsetKnown", inPlace := ["internal/bytealg.Compare"], unfollowed := true, recurses := true, apart := false }
def OrsetKnownSaid : Prop := orsetKnownRow.holds Tryz.pinned (OpenSpec.ofChange orsetKnownSpec)

/-- ITS FALSE NEIGHBOUR: 'it returns false'. Refute it at one input. -/
def orsetKnownWrong : ChangeSpec := { name := "orsetKnown", fn := fun _ => fun
  | [] => { results := [.lit (.bool false)], args := [] }
  | _ => none }
def OrsetKnownWrongFalsely : Prop := orsetKnownRow.holds Tryz.pinned (OpenSpec.ofChange orsetKnownWrong)

/-- 'entrepotlaw17.OrsetLattice': WHATEVER THE INPUT: true; the input reads as it did. -/
def orsetLatticeSpec : ChangeSpec := { name := "orsetLattice", fn := fun _ => fun
  | [d1, d2, d3] => { results := [.lit (.bool true)], args := [d1, d2, d3] }
  | _ => none }
def orsetLatticeRow : OpenClaim := { program := "ytfaccliekejngaagreat", sum := "b589340a0aaf88f53c4a2e34c204804bd0995e6bf9032a1beba5e71c95c50639", func := "entrepot/entrepotlaw17.OrsetLattice", spec := "orsetLattice", inPlace := ["internal/bytealg.Compare"], unfollowed := true, recurses := true, apart := false }
def OrsetLatticeSaid : Prop := orsetLatticeRow.holds Tryz.pinned (OpenSpec.ofChange orsetLatticeSpec)

/-- ITS FALSE NEIGHBOUR: 'it returns false'. Refute it at one input. -/
def orsetLatticeWrong : ChangeSpec := { name := "orsetLattice", fn := fun _ => fun
  | [d1, d2, d3] => { results := [.lit (.bool false)], args := [d1, d2, d3] }
  | _ => none }
def OrsetLatticeWrongFalsely : Prop := orsetLatticeRow.holds Tryz.pinned (OpenSpec.ofChange orsetLatticeWrong)

/-- 'entrepotlaw17.OrsetDelta': WHATEVER THE INPUT: true; the input reads as it did. -/
def orsetDeltaSpec : ChangeSpec := { name := "orsetDelta", fn := fun _ => fun
  | [d1, d2, d3] => { results := [.lit (.bool true)], args := [d1, d2, d3] }
  | _ => none }
def orsetDeltaRow : OpenClaim := { program := "ytfaccliekejngaagreat", sum := "b589340a0aaf88f53c4a2e34c204804bd0995e6bf9032a1beba5e71c95c50639", func := "entrepot/entrepotlaw17.OrsetDelta", spec := "orsetDelta", inPlace := ["internal/bytealg.Compare"], unfollowed := true, recurses := true, apart := false }
def OrsetDeltaSaid : Prop := orsetDeltaRow.holds Tryz.pinned (OpenSpec.ofChange orsetDeltaSpec)

/-- ITS FALSE NEIGHBOUR: 'it returns false'. Refute it at one input. -/
def orsetDeltaWrong : ChangeSpec := { name := "orsetDelta", fn := fun _ => fun
  | [d1, d2, d3] => { results := [.lit (.bool false)], args := [d1, d2, d3] }
  | _ => none }
def OrsetDeltaWrongFalsely : Prop := orsetDeltaRow.holds Tryz.pinned (OpenSpec.ofChange orsetDeltaWrong)

/-- 'entrepotlaw17.OrsetObserved': WHATEVER THE INPUT: true; the input reads as it did. -/
def orsetObservedSpec : ChangeSpec := { name := "orsetObserved", fn := fun _ => fun
  | [d1, d2, d3] => { results := [.lit (.bool true)], args := [d1, d2, d3] }
  | _ => none }
def orsetObservedRow : OpenClaim := { program := "ytfaccliekejngaagreat", sum := "b589340a0aaf88f53c4a2e34c204804bd0995e6bf9032a1beba5e71c95c50639", func := "entrepot/entrepotlaw17.OrsetObserved", spec := "orsetObserved", inPlace := ["internal/bytealg.Compare"], unfollowed := true, recurses := true, apart := false }
def OrsetObservedSaid : Prop := orsetObservedRow.holds Tryz.pinned (OpenSpec.ofChange orsetObservedSpec)

/-- ITS FALSE NEIGHBOUR: 'it returns false'. Refute it at one input. -/
def orsetObservedWrong : ChangeSpec := { name := "orsetObserved", fn := fun _ => fun
  | [d1, d2, d3] => { results := [.lit (.bool false)], args := [d1, d2, d3] }
  | _ => none }
def OrsetObservedWrongFalsely : Prop := orsetObservedRow.holds Tryz.pinned (OpenSpec.ofChange orsetObservedWrong)

/- THE SECOND FORM. 'bulk': how many values and letters a reading holds, each counted each time it is reached (what is shared counts as often as it is met; a slice's spare places count too). A statement '..UptoSaid' is the law's where the arguments, and the package variables that the reading takes, are together of bulk at most 1048576: NARROWER than '..Said'. Prove '..Said' where nothing that the law and all that it calls make is longer than what came in: it says more and counts as full. Else prove '..UptoSaid'. A law counts once. -/
mutual
def uptoBulk {H : Type} : DataW H → Nat
  | .lit (.string bytes) => bytes.length + 1
  | .lit _ => 1
  | .nil => 1
  | .ptr d => uptoBulk d + 1
  | .slice elems spare => uptoBulkAll elems + uptoBulkAll spare + 1
  | .agg parts => uptoBulkAll parts + 1
  | .iface _ d => uptoBulk d + 1
  | .map entries => uptoBulkEntries entries + 1
  | .held _ => 1
def uptoBulkAll {H : Type} : List (DataW H) → Nat
  | [] => 0
  | d :: r => uptoBulk d + uptoBulkAll r
def uptoBulkEntries {H : Type} : List (Lit × DataW H) → Nat
  | [] => 0
  | x :: r => uptoBulkEntry x + uptoBulkEntries r
def uptoBulkEntry {H : Type} : Lit × DataW H → Nat
  | (.string bytes, d) => bytes.length + uptoBulk d + 1
  | (_, d) => uptoBulk d + 1
 end
def uptoSmall : (H : Type) → List (DataW H) → Bool := fun _ ds => decide (uptoBulkAll ds ≤ 1048576)
def OpenSpec.upto (s : _root_.Go.ChangeSpec) : _root_.Go.OpenSpec := { _root_.Go.OpenSpec.ofChange s with cond := some uptoSmall }

/-- 'entrepotlaw17.OrsetJoins', WHERE WHAT IT READS IS OF BULK AT MOST 1048576: true; the input reads as it did. -/
def orsetJoinsUptoRow : OpenClaim := { program := "ytfaccliekejngaagreat", sum := "b589340a0aaf88f53c4a2e34c204804bd0995e6bf9032a1beba5e71c95c50639", func := "entrepot/entrepotlaw17.OrsetJoins", spec := "orsetJoins", inPlace := ["internal/bytealg.Compare"], unfollowed := true, recurses := true, apart := false, narrowed := true }
def OrsetJoinsUptoSaid : Prop := orsetJoinsUptoRow.holds Tryz.pinned (OpenSpec.upto orsetJoinsSpec)

/-- 'entrepotlaw17.OrsetTurns', WHERE WHAT IT READS IS OF BULK AT MOST 1048576: true; the input reads as it did. -/
def orsetTurnsUptoRow : OpenClaim := { program := "ytfaccliekejngaagreat", sum := "b589340a0aaf88f53c4a2e34c204804bd0995e6bf9032a1beba5e71c95c50639", func := "entrepot/entrepotlaw17.OrsetTurns", spec := "orsetTurns", inPlace := ["internal/bytealg.Compare"], unfollowed := true, recurses := true, apart := false, narrowed := true }
def OrsetTurnsUptoSaid : Prop := orsetTurnsUptoRow.holds Tryz.pinned (OpenSpec.upto orsetTurnsSpec)

/-- 'entrepotlaw17.OrsetApplies', WHERE WHAT IT READS IS OF BULK AT MOST 1048576: true; the input reads as it did. -/
def orsetAppliesUptoRow : OpenClaim := { program := "ytfaccliekejngaagreat", sum := "b589340a0aaf88f53c4a2e34c204804bd0995e6bf9032a1beba5e71c95c50639", func := "entrepot/entrepotlaw17.OrsetApplies", spec := "orsetApplies", inPlace := ["internal/bytealg.Compare"], unfollowed := true, recurses := true, apart := false, narrowed := true }
def OrsetAppliesUptoSaid : Prop := orsetAppliesUptoRow.holds Tryz.pinned (OpenSpec.upto orsetAppliesSpec)

/-- 'entrepotlaw17.OrsetKnown', WHERE WHAT IT READS IS OF BULK AT MOST 1048576: true; the input reads as it did. -/
def orsetKnownUptoRow : OpenClaim := { program := "ytfaccliekejngaagreat", sum := "b589340a0aaf88f53c4a2e34c204804bd0995e6bf9032a1beba5e71c95c50639", func := "entrepot/entrepotlaw17.OrsetKnown", spec := "orsetKnown", inPlace := ["internal/bytealg.Compare"], unfollowed := true, recurses := true, apart := false, narrowed := true }
def OrsetKnownUptoSaid : Prop := orsetKnownUptoRow.holds Tryz.pinned (OpenSpec.upto orsetKnownSpec)

/-- 'entrepotlaw17.OrsetLattice', WHERE WHAT IT READS IS OF BULK AT MOST 1048576: true; the input reads as it did. -/
def orsetLatticeUptoRow : OpenClaim := { program := "ytfaccliekejngaagreat", sum := "b589340a0aaf88f53c4a2e34c204804bd0995e6bf9032a1beba5e71c95c50639", func := "entrepot/entrepotlaw17.OrsetLattice", spec := "orsetLattice", inPlace := ["internal/bytealg.Compare"], unfollowed := true, recurses := true, apart := false, narrowed := true }
def OrsetLatticeUptoSaid : Prop := orsetLatticeUptoRow.holds Tryz.pinned (OpenSpec.upto orsetLatticeSpec)

/-- 'entrepotlaw17.OrsetDelta', WHERE WHAT IT READS IS OF BULK AT MOST 1048576: true; the input reads as it did. -/
def orsetDeltaUptoRow : OpenClaim := { program := "ytfaccliekejngaagreat", sum := "b589340a0aaf88f53c4a2e34c204804bd0995e6bf9032a1beba5e71c95c50639", func := "entrepot/entrepotlaw17.OrsetDelta", spec := "orsetDelta", inPlace := ["internal/bytealg.Compare"], unfollowed := true, recurses := true, apart := false, narrowed := true }
def OrsetDeltaUptoSaid : Prop := orsetDeltaUptoRow.holds Tryz.pinned (OpenSpec.upto orsetDeltaSpec)

/-- 'entrepotlaw17.OrsetObserved', WHERE WHAT IT READS IS OF BULK AT MOST 1048576: true; the input reads as it did. -/
def orsetObservedUptoRow : OpenClaim := { program := "ytfaccliekejngaagreat", sum := "b589340a0aaf88f53c4a2e34c204804bd0995e6bf9032a1beba5e71c95c50639", func := "entrepot/entrepotlaw17.OrsetObserved", spec := "orsetObserved", inPlace := ["internal/bytealg.Compare"], unfollowed := true, recurses := true, apart := false, narrowed := true }
def OrsetObservedUptoSaid : Prop := orsetObservedUptoRow.holds Tryz.pinned (OpenSpec.upto orsetObservedSpec)

end Rows
end Go.Proofs.YtfaccliekejngaaGreat
