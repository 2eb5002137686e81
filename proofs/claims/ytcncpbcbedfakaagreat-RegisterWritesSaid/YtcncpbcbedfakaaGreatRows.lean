/-
  No cell of these rows narrows 'for every input' (looked for: loops, veiled, ifaces, maps, wideKeys, modest, calm, conditions, laid).
  DERIVED. THE GIVEN ROWS OF THIS SEAT. 6 by the template 'for every input the law returns true; each argument reads behind the call as it read before'; 0 by the template 'total and deterministic' (their statements: YtcncpbcbedfakaaGreatTotals.lean).
  GIVEN WITH THE SEED: the statements are not yours to turn. If you find one false, say at which input.
  Laid BY PROGRAM, IN A SANDBOX (cutbox-rows.mjs): the forced cells as the released guide's own fill.sh prints them over the translation 97f6938b842a9341… (all of the seat's roots in one cut). By AI agents, Wed Nov 11 2026. No macro, syntax, notation, axiom, sorry.
-/
import Derived.Test.YtcncpbcbedfakaaGreatChecked
import GoSem.Claim
import GoSem.ClaimJoined
import GoSem.ClaimMapViews
import Derived.JoinedTies
import Derived.KernelRfl
namespace Go.Proofs.YtcncpbcbedfakaaGreat
/- THE CELL 'sum', in the pinned program and in every row, IS THE sha256 OF THE DUMP (.gsa) THAT YtcncpbcbedfakaaGreatProg.lean LOADS. Nothing in Lean hashes anything: it is a label: what it is worth is what the hold of that sum in a sandbox is worth. -/
noncomputable def Tryz.pinned : Pinned := { name := "ytcncpbcbedfakaagreat", sum := "97f6938b842a93411efa77f69d7062a4197563d190ee413bdd5dd68cadbb7df0", checked := Tryz.checked }
namespace Rows
def none {H : Type} : Left H := { results := [], args := [] }

/-- 'entrepotlaw16.RegisterJoins': WHATEVER THE INPUT: true; the input reads as it did. -/
def registerJoinsSpec : ChangeSpec := { name := "registerJoins", fn := fun _ => fun
  | [d1, d2] => { results := [.lit (.bool true)], args := [d1, d2] }
  | _ => none }
def registerJoinsRow : OpenClaim := { program := "ytcncpbcbedfakaagreat", sum := "97f6938b842a93411efa77f69d7062a4197563d190ee413bdd5dd68cadbb7df0", func := "entrepot/entrepotlaw16.RegisterJoins", spec := "registerJoins", unfollowed := true, recurses := true, apart := false }
def RegisterJoinsSaid : Prop := registerJoinsRow.holds Tryz.pinned (OpenSpec.ofChange registerJoinsSpec)

/-- ITS FALSE NEIGHBOUR: 'it returns false'. Refute it at one input. -/
def registerJoinsWrong : ChangeSpec := { name := "registerJoins", fn := fun _ => fun
  | [d1, d2] => { results := [.lit (.bool false)], args := [d1, d2] }
  | _ => none }
def RegisterJoinsWrongFalsely : Prop := registerJoinsRow.holds Tryz.pinned (OpenSpec.ofChange registerJoinsWrong)

/-- 'entrepotlaw16.RegisterWrites': WHATEVER THE INPUT: true; the input reads as it did. -/
def registerWritesSpec : ChangeSpec := { name := "registerWrites", fn := fun _ => fun
  | [d1, d2, d3, d4] => { results := [.lit (.bool true)], args := [d1, d2, d3, d4] }
  | _ => none }
def registerWritesRow : OpenClaim := { program := "ytcncpbcbedfakaagreat", sum := "97f6938b842a93411efa77f69d7062a4197563d190ee413bdd5dd68cadbb7df0", func := "entrepot/entrepotlaw16.RegisterWrites", spec := "registerWrites", inPlace := ["internal/bytealg.Compare"], unfollowed := true, recurses := true, apart := false }
def RegisterWritesSaid : Prop := registerWritesRow.holds Tryz.pinned (OpenSpec.ofChange registerWritesSpec)

/-- ITS FALSE NEIGHBOUR: 'it returns false'. Refute it at one input. -/
def registerWritesWrong : ChangeSpec := { name := "registerWrites", fn := fun _ => fun
  | [d1, d2, d3, d4] => { results := [.lit (.bool false)], args := [d1, d2, d3, d4] }
  | _ => none }
def RegisterWritesWrongFalsely : Prop := registerWritesRow.holds Tryz.pinned (OpenSpec.ofChange registerWritesWrong)

/-- 'entrepotlaw16.RegisterKnown': WHATEVER THE INPUT: true; the input reads as it did. -/
def registerKnownSpec : ChangeSpec := { name := "registerKnown", fn := fun _ => fun
  | [] => { results := [.lit (.bool true)], args := [] }
  | _ => none }
def registerKnownRow : OpenClaim := { program := "ytcncpbcbedfakaagreat", sum := "97f6938b842a93411efa77f69d7062a4197563d190ee413bdd5dd68cadbb7df0", func := "entrepot/entrepotlaw16.RegisterKnown", spec := "registerKnown", inPlace := ["internal/bytealg.Compare"], unfollowed := true, recurses := true, apart := false }
def RegisterKnownSaid : Prop := registerKnownRow.holds Tryz.pinned (OpenSpec.ofChange registerKnownSpec)

/-- ITS FALSE NEIGHBOUR: 'it returns false'. Refute it at one input. -/
def registerKnownWrong : ChangeSpec := { name := "registerKnown", fn := fun _ => fun
  | [] => { results := [.lit (.bool false)], args := [] }
  | _ => none }
def RegisterKnownWrongFalsely : Prop := registerKnownRow.holds Tryz.pinned (OpenSpec.ofChange registerKnownWrong)

/-- 'entrepotlaw16.RegisterLattice': WHATEVER THE INPUT: true; the input reads as it did. -/
def registerLatticeSpec : ChangeSpec := { name := "registerLattice", fn := fun _ => fun
  | [d1, d2, d3] => { results := [.lit (.bool true)], args := [d1, d2, d3] }
  | _ => none }
def registerLatticeRow : OpenClaim := { program := "ytcncpbcbedfakaagreat", sum := "97f6938b842a93411efa77f69d7062a4197563d190ee413bdd5dd68cadbb7df0", func := "entrepot/entrepotlaw16.RegisterLattice", spec := "registerLattice", inPlace := ["internal/bytealg.Compare"], unfollowed := true, recurses := true, apart := false }
def RegisterLatticeSaid : Prop := registerLatticeRow.holds Tryz.pinned (OpenSpec.ofChange registerLatticeSpec)

/-- ITS FALSE NEIGHBOUR: 'it returns false'. Refute it at one input. -/
def registerLatticeWrong : ChangeSpec := { name := "registerLattice", fn := fun _ => fun
  | [d1, d2, d3] => { results := [.lit (.bool false)], args := [d1, d2, d3] }
  | _ => none }
def RegisterLatticeWrongFalsely : Prop := registerLatticeRow.holds Tryz.pinned (OpenSpec.ofChange registerLatticeWrong)

/-- 'entrepotlaw16.RegisterThrough': WHATEVER THE INPUT: true; the input reads as it did. -/
def registerThroughSpec : ChangeSpec := { name := "registerThrough", fn := fun _ => fun
  | [d1, d2, d3, d4, d5] => { results := [.lit (.bool true)], args := [d1, d2, d3, d4, d5] }
  | _ => none }
def registerThroughRow : OpenClaim := { program := "ytcncpbcbedfakaagreat", sum := "97f6938b842a93411efa77f69d7062a4197563d190ee413bdd5dd68cadbb7df0", func := "entrepot/entrepotlaw16.RegisterThrough", spec := "registerThrough", inPlace := ["internal/bytealg.Compare"], unfollowed := true, recurses := true, apart := false }
def RegisterThroughSaid : Prop := registerThroughRow.holds Tryz.pinned (OpenSpec.ofChange registerThroughSpec)

/-- ITS FALSE NEIGHBOUR: 'it returns false'. Refute it at one input. -/
def registerThroughWrong : ChangeSpec := { name := "registerThrough", fn := fun _ => fun
  | [d1, d2, d3, d4, d5] => { results := [.lit (.bool false)], args := [d1, d2, d3, d4, d5] }
  | _ => none }
def RegisterThroughWrongFalsely : Prop := registerThroughRow.holds Tryz.pinned (OpenSpec.ofChange registerThroughWrong)

/-- 'entrepotlaw16.RegisterAtOnce': WHATEVER THE INPUT: true; the input reads as it did. -/
def registerAtOnceSpec : ChangeSpec := { name := "registerAtOnce", fn := fun _ => fun
  | [d1, d2, d3, d4, d5, d6, d7] => { results := [.lit (.bool true)], args := [d1, d2, d3, d4, d5, d6, d7] }
  | _ => none }
def registerAtOnceRow : OpenClaim := { program := "ytcncpbcbedfakaagreat", sum := "97f6938b842a93411efa77f69d7062a4197563d190ee413bdd5dd68cadbb7df0", func := "entrepot/entrepotlaw16.RegisterAtOnce", spec := "registerAtOnce", inPlace := ["internal/bytealg.Compare"], unfollowed := true, recurses := true, apart := false }
def RegisterAtOnceSaid : Prop := registerAtOnceRow.holds Tryz.pinned (OpenSpec.ofChange registerAtOnceSpec)

/-- ITS FALSE NEIGHBOUR: 'it returns false'. Refute it at one input. -/
def registerAtOnceWrong : ChangeSpec := { name := "registerAtOnce", fn := fun _ => fun
  | [d1, d2, d3, d4, d5, d6, d7] => { results := [.lit (.bool false)], args := [d1, d2, d3, d4, d5, d6, d7] }
  | _ => none }
def RegisterAtOnceWrongFalsely : Prop := registerAtOnceRow.holds Tryz.pinned (OpenSpec.ofChange registerAtOnceWrong)

/- THE SECOND FORM. 'bulk': how many values and letters a reading holds, each counted each time it is reached (what is shared counts as often as it is met; a slice's spare places count too). A statement '..UptoSaid' is the law's where the arguments, and the package variables that the reading takes, are together of bulk at most 1048576: NARROWER than '..Said'. Prove '..Said' where nothing that the law and all that it calls make is longer than what came in: it says more and counts as full. Else prove '..UptoSaid'. A law counts once. -/
mutual
def uptoBulk {H : Type} : DataW H → Nat
  | .lit (.string bytes) => bytes.length + 1
  | .lit _ => 1
  | .nil => 1
  | .ptr d => uptoBulk d + 1
  | .slice elems spare => uptoBulkAll elems + uptoBulkAll spare + 1
  | .agg parts => uptoBulkAll parts + 1
  | .iface _ d => uptoBulk d + 1
  | .map entries => uptoBulkEntries entries + 1
  | .held _ => 1
def uptoBulkAll {H : Type} : List (DataW H) → Nat
  | [] => 0
  | d :: r => uptoBulk d + uptoBulkAll r
def uptoBulkEntries {H : Type} : List (Lit × DataW H) → Nat
  | [] => 0
  | x :: r => uptoBulkEntry x + uptoBulkEntries r
def uptoBulkEntry {H : Type} : Lit × DataW H → Nat
  | (.string bytes, d) => bytes.length + uptoBulk d + 1
  | (_, d) => uptoBulk d + 1
 end
def uptoSmall : (H : Type) → List (DataW H) → Bool := fun _ ds => decide (uptoBulkAll ds ≤ 1048576)
def OpenSpec.upto (s : _root_.Go.ChangeSpec) : _root_.Go.OpenSpec := { _root_.Go.OpenSpec.ofChange s with cond := some uptoSmall }

/-- 'entrepotlaw16.RegisterJoins', WHERE WHAT IT READS IS OF BULK AT MOST 1048576: true; the input reads as it did. -/
def registerJoinsUptoRow : OpenClaim := { program := "ytcncpbcbedfakaagreat", sum := "97f6938b842a93411efa77f69d7062a4197563d190ee413bdd5dd68cadbb7df0", func := "entrepot/entrepotlaw16.RegisterJoins", spec := "registerJoins", unfollowed := true, recurses := true, apart := false, narrowed := true }
def RegisterJoinsUptoSaid : Prop := registerJoinsUptoRow.holds Tryz.pinned (OpenSpec.upto registerJoinsSpec)

/-- 'entrepotlaw16.RegisterWrites', WHERE WHAT IT READS IS OF BULK AT MOST 1048576: true; the input reads as it did. -/
def registerWritesUptoRow : OpenClaim := { program := "ytcncpbcbedfakaagreat", sum := "97f6938b842a93411efa77f69d7062a4197563d190ee413bdd5dd68cadbb7df0", func := "entrepot/entrepotlaw16.RegisterWrites", spec := "registerWrites", inPlace := ["internal/bytealg.Compare"], unfollowed := true, recurses := true, apart := false, narrowed := true }
def RegisterWritesUptoSaid : Prop := registerWritesUptoRow.holds Tryz.pinned (OpenSpec.upto registerWritesSpec)

/-- 'entrepotlaw16.RegisterKnown', WHERE WHAT IT READS IS OF BULK AT MOST 1048576: true; the input reads as it did. -/
def registerKnownUptoRow : OpenClaim := { program := "ytcncpbcbedfakaagreat", sum := "97f6938b842a93411efa77f69d7062a4197563d190ee413bdd5dd68cadbb7df0", func := "entrepot/entrepotlaw16.RegisterKnown", spec := "registerKnown", inPlace := ["internal/bytealg.Compare"], unfollowed := true, recurses := true, apart := false, narrowed := true }
def RegisterKnownUptoSaid : Prop := registerKnownUptoRow.holds Tryz.pinned (OpenSpec.upto registerKnownSpec)

/-- 'entrepotlaw16.RegisterLattice', WHERE WHAT IT READS IS OF BULK AT MOST 1048576: true; the input reads as it did. -/
def registerLatticeUptoRow : OpenClaim := { program := "ytcncpbcbedfakaagreat", sum := "97f6938b842a93411efa77f69d7062a4197563d190ee413bdd5dd68cadbb7df0", func := "entrepot/entrepotlaw16.RegisterLattice", spec := "registerLattice", inPlace := ["internal/bytealg.Compare"], unfollowed := true, recurses := true, apart := false, narrowed := true }
def RegisterLatticeUptoSaid : Prop := registerLatticeUptoRow.holds Tryz.pinned (OpenSpec.upto registerLatticeSpec)

/-- 'entrepotlaw16.RegisterThrough', WHERE WHAT IT READS IS OF BULK AT MOST 1048576: true; the input reads as it did. -/
def registerThroughUptoRow : OpenClaim := { program := "ytcncpbcbedfakaagreat", sum := "97f6938b842a93411efa77f69d7062a4197563d190ee413bdd5dd68cadbb7df0", func := "entrepot/entrepotlaw16.RegisterThrough", spec := "registerThrough", inPlace := ["internal/bytealg.Compare"], unfollowed := true, recurses := true, apart := false, narrowed := true }
def RegisterThroughUptoSaid : Prop := registerThroughUptoRow.holds Tryz.pinned (OpenSpec.upto registerThroughSpec)

/-- 'entrepotlaw16.RegisterAtOnce', WHERE WHAT IT READS IS OF BULK AT MOST 1048576: true; the input reads as it did. -/
def registerAtOnceUptoRow : OpenClaim := { program := "ytcncpbcbedfakaagreat", sum := "97f6938b842a93411efa77f69d7062a4197563d190ee413bdd5dd68cadbb7df0", func := "entrepot/entrepotlaw16.RegisterAtOnce", spec := "registerAtOnce", inPlace := ["internal/bytealg.Compare"], unfollowed := true, recurses := true, apart := false, narrowed := true }
def RegisterAtOnceUptoSaid : Prop := registerAtOnceUptoRow.holds Tryz.pinned (OpenSpec.upto registerAtOnceSpec)

end Rows
end Go.Proofs.YtcncpbcbedfakaaGreat
