/-
  No cell of these rows narrows 'for every input' (looked for: loops, veiled, ifaces, maps, wideKeys, modest, calm, conditions, laid).
  DERIVED. THE GIVEN ROWS OF THIS SEAT. 6 by the template 'for every input the law returns true; each argument reads behind the call as it read before'; 0 by the template 'total and deterministic' (their statements: YtekeoichmdiiiaaGreatTotals.lean).
  GIVEN WITH THE SEED: the statements are not yours to turn. If you find one false, say at which input.
  Laid BY PROGRAM, IN A SANDBOX (cutbox-rows.mjs): the forced cells as the released guide's own fill.sh prints them over the translation c82ad20f45311335… (all of the seat's roots in one cut). By AI agents, Wed Nov 11 2026. No macro, syntax, notation, axiom, sorry.
-/
import Derived.Test.YtekeoichmdiiiaaGreatChecked
import GoSem.Claim
import GoSem.ClaimJoined
import GoSem.ClaimMapViews
import Derived.JoinedTies
import Derived.KernelRfl
namespace Go.Proofs.YtekeoichmdiiiaaGreat
/- THE CELL 'sum', in the pinned program and in every row, IS THE sha256 OF THE DUMP (.gsa) THAT YtekeoichmdiiiaaGreatProg.lean LOADS. Nothing in Lean hashes anything: it is a label: what it is worth is what the hold of that sum in a sandbox is worth. -/
noncomputable def Tryz.pinned : Pinned := { name := "ytekeoichmdiiiaagreat", sum := "c82ad20f45311335534aec8285f00ffdcec0486a739ebd5df286aa958e4f215a", checked := Tryz.checked }
namespace Rows
def none {H : Type} : Left H := { results := [], args := [] }

/-- 'entrepotlaw18.TableJoins': WHATEVER THE INPUT: true; the input reads as it did. -/
def tableJoinsSpec : ChangeSpec := { name := "tableJoins", fn := fun _ => fun
  | [d1, d2] => { results := [.lit (.bool true)], args := [d1, d2] }
  | _ => none }
def tableJoinsRow : OpenClaim := { program := "ytekeoichmdiiiaagreat", sum := "c82ad20f45311335534aec8285f00ffdcec0486a739ebd5df286aa958e4f215a", func := "entrepot/entrepotlaw18.TableJoins", spec := "tableJoins", inPlace := ["internal/bytealg.abigen_runtime_cmpstring", "slices.overlaps[entrepot/api.RepoTable]", "slices.overlaps[entrepot/api.Held]", "slices.overlaps[entrepot/api.TagTable]", "internal/bytealg.Compare"], unfollowed := true, recurses := true, plainKeys := false, apart := false }
def TableJoinsSaid : Prop := tableJoinsRow.holds Tryz.pinned (OpenSpec.ofChange tableJoinsSpec)

/-- ITS FALSE NEIGHBOUR: 'it returns false'. Refute it at one input. -/
def tableJoinsWrong : ChangeSpec := { name := "tableJoins", fn := fun _ => fun
  | [d1, d2] => { results := [.lit (.bool false)], args := [d1, d2] }
  | _ => none }
def TableJoinsWrongFalsely : Prop := tableJoinsRow.holds Tryz.pinned (OpenSpec.ofChange tableJoinsWrong)

/-- 'entrepotlaw18.TableKnown': WHATEVER THE INPUT: true; the input reads as it did. -/
def tableKnownSpec : ChangeSpec := { name := "tableKnown", fn := fun _ => fun
  | [] => { results := [.lit (.bool true)], args := [] }
  | _ => none }
def tableKnownRow : OpenClaim := { program := "ytekeoichmdiiiaagreat", sum := "c82ad20f45311335534aec8285f00ffdcec0486a739ebd5df286aa958e4f215a", func := "entrepot/entrepotlaw18.TableKnown", spec := "tableKnown", inPlace := ["internal/bytealg.abigen_runtime_cmpstring", "slices.overlaps[entrepot/api.RepoTable]", "slices.overlaps[entrepot/api.Held]", "slices.overlaps[entrepot/api.TagTable]", "internal/bytealg.Compare"], unfollowed := true, recurses := true, plainKeys := false, apart := false }
def TableKnownSaid : Prop := tableKnownRow.holds Tryz.pinned (OpenSpec.ofChange tableKnownSpec)

/-- ITS FALSE NEIGHBOUR: 'it returns false'. Refute it at one input. -/
def tableKnownWrong : ChangeSpec := { name := "tableKnown", fn := fun _ => fun
  | [] => { results := [.lit (.bool false)], args := [] }
  | _ => none }
def TableKnownWrongFalsely : Prop := tableKnownRow.holds Tryz.pinned (OpenSpec.ofChange tableKnownWrong)

/-- 'entrepotlaw18.TableOrders': WHATEVER THE INPUT: true; the input reads as it did. -/
def tableOrdersSpec : ChangeSpec := { name := "tableOrders", fn := fun _ => fun
  | [d1, d2, d3] => { results := [.lit (.bool true)], args := [d1, d2, d3] }
  | _ => none }
def tableOrdersRow : OpenClaim := { program := "ytekeoichmdiiiaagreat", sum := "c82ad20f45311335534aec8285f00ffdcec0486a739ebd5df286aa958e4f215a", func := "entrepot/entrepotlaw18.TableOrders", spec := "tableOrders", inPlace := ["internal/bytealg.abigen_runtime_cmpstring", "slices.overlaps[entrepot/api.RepoTable]", "slices.overlaps[entrepot/api.Held]", "slices.overlaps[entrepot/api.TagTable]", "internal/bytealg.Compare"], unfollowed := true, recurses := true, plainKeys := false, apart := false }
def TableOrdersSaid : Prop := tableOrdersRow.holds Tryz.pinned (OpenSpec.ofChange tableOrdersSpec)

/-- ITS FALSE NEIGHBOUR: 'it returns false'. Refute it at one input. -/
def tableOrdersWrong : ChangeSpec := { name := "tableOrders", fn := fun _ => fun
  | [d1, d2, d3] => { results := [.lit (.bool false)], args := [d1, d2, d3] }
  | _ => none }
def TableOrdersWrongFalsely : Prop := tableOrdersRow.holds Tryz.pinned (OpenSpec.ofChange tableOrdersWrong)

/-- 'entrepotlaw18.TableDecodes': WHATEVER THE INPUT: true; the input reads as it did. -/
def tableDecodesSpec : ChangeSpec := { name := "tableDecodes", fn := fun _ => fun
  | [d] => { results := [.lit (.bool true)], args := [d] }
  | _ => none }
def tableDecodesRow : OpenClaim := { program := "ytekeoichmdiiiaagreat", sum := "c82ad20f45311335534aec8285f00ffdcec0486a739ebd5df286aa958e4f215a", func := "entrepot/entrepotlaw18.TableDecodes", spec := "tableDecodes", inPlace := ["internal/bytealg.abigen_runtime_cmpstring", "slices.overlaps[entrepot/api.RepoTable]", "slices.overlaps[entrepot/api.Held]", "slices.overlaps[entrepot/api.TagTable]", "internal/bytealg.Compare"], unfollowed := true, recurses := true, plainKeys := false, apart := false }
def TableDecodesSaid : Prop := tableDecodesRow.holds Tryz.pinned (OpenSpec.ofChange tableDecodesSpec)

/-- ITS FALSE NEIGHBOUR: 'it returns false'. Refute it at one input. -/
def tableDecodesWrong : ChangeSpec := { name := "tableDecodes", fn := fun _ => fun
  | [d] => { results := [.lit (.bool false)], args := [d] }
  | _ => none }
def TableDecodesWrongFalsely : Prop := tableDecodesRow.holds Tryz.pinned (OpenSpec.ofChange tableDecodesWrong)

/-- 'entrepotlaw18.TableBytes': WHATEVER THE INPUT: true; the input reads as it did. -/
def tableBytesSpec : ChangeSpec := { name := "tableBytes", fn := fun _ => fun
  | [d1, d2] => { results := [.lit (.bool true)], args := [d1, d2] }
  | _ => none }
def tableBytesRow : OpenClaim := { program := "ytekeoichmdiiiaagreat", sum := "c82ad20f45311335534aec8285f00ffdcec0486a739ebd5df286aa958e4f215a", func := "entrepot/entrepotlaw18.TableBytes", spec := "tableBytes", inPlace := ["internal/bytealg.abigen_runtime_cmpstring", "slices.overlaps[entrepot/api.RepoTable]", "slices.overlaps[entrepot/api.Held]", "slices.overlaps[entrepot/api.TagTable]", "internal/bytealg.Compare"], unfollowed := true, recurses := true, plainKeys := false, apart := false }
def TableBytesSaid : Prop := tableBytesRow.holds Tryz.pinned (OpenSpec.ofChange tableBytesSpec)

/-- ITS FALSE NEIGHBOUR: 'it returns false'. Refute it at one input. -/
def tableBytesWrong : ChangeSpec := { name := "tableBytes", fn := fun _ => fun
  | [d1, d2] => { results := [.lit (.bool false)], args := [d1, d2] }
  | _ => none }
def TableBytesWrongFalsely : Prop := tableBytesRow.holds Tryz.pinned (OpenSpec.ofChange tableBytesWrong)

/-- 'entrepotlaw18.TableParts': WHATEVER THE INPUT: true; the input reads as it did. -/
def tablePartsSpec : ChangeSpec := { name := "tableParts", fn := fun _ => fun
  | [d1, d2, d3, d4, d5] => { results := [.lit (.bool true)], args := [d1, d2, d3, d4, d5] }
  | _ => none }
def tablePartsRow : OpenClaim := { program := "ytekeoichmdiiiaagreat", sum := "c82ad20f45311335534aec8285f00ffdcec0486a739ebd5df286aa958e4f215a", func := "entrepot/entrepotlaw18.TableParts", spec := "tableParts", inPlace := ["internal/bytealg.abigen_runtime_cmpstring", "slices.overlaps[entrepot/api.RepoTable]", "slices.overlaps[entrepot/api.Held]", "slices.overlaps[entrepot/api.TagTable]", "internal/bytealg.Compare"], unfollowed := true, recurses := true, plainKeys := false, apart := false }
def TablePartsSaid : Prop := tablePartsRow.holds Tryz.pinned (OpenSpec.ofChange tablePartsSpec)

/-- ITS FALSE NEIGHBOUR: 'it returns false'. Refute it at one input. -/
def tablePartsWrong : ChangeSpec := { name := "tableParts", fn := fun _ => fun
  | [d1, d2, d3, d4, d5] => { results := [.lit (.bool false)], args := [d1, d2, d3, d4, d5] }
  | _ => none }
def TablePartsWrongFalsely : Prop := tablePartsRow.holds Tryz.pinned (OpenSpec.ofChange tablePartsWrong)

/- THE SECOND FORM. 'bulk': how many values and letters a reading holds, each counted each time it is reached (what is shared counts as often as it is met; a slice's spare places count too). A statement '..UptoSaid' is the law's where the arguments, and the package variables that the reading takes, are together of bulk at most 1048576: NARROWER than '..Said'. Prove '..Said' where nothing that the law and all that it calls make is longer than what came in: it says more and counts as full. Else prove '..UptoSaid'. A law counts once. -/
mutual
def uptoBulk {H : Type} : DataW H → Nat
  | .lit (.string bytes) => bytes.length + 1
  | .lit _ => 1
  | .nil => 1
  | .ptr d => uptoBulk d + 1
  | .slice elems spare => uptoBulkAll elems + uptoBulkAll spare + 1
  | .agg parts => uptoBulkAll parts + 1
  | .iface _ d => uptoBulk d + 1
  | .map entries => uptoBulkEntries entries + 1
  | .held _ => 1
def uptoBulkAll {H : Type} : List (DataW H) → Nat
  | [] => 0
  | d :: r => uptoBulk d + uptoBulkAll r
def uptoBulkEntries {H : Type} : List (Lit × DataW H) → Nat
  | [] => 0
  | x :: r => uptoBulkEntry x + uptoBulkEntries r
def uptoBulkEntry {H : Type} : Lit × DataW H → Nat
  | (.string bytes, d) => bytes.length + uptoBulk d + 1
  | (_, d) => uptoBulk d + 1
 end
def uptoSmall : (H : Type) → List (DataW H) → Bool := fun _ ds => decide (uptoBulkAll ds ≤ 1048576)
def OpenSpec.upto (s : _root_.Go.ChangeSpec) : _root_.Go.OpenSpec := { _root_.Go.OpenSpec.ofChange s with cond := some uptoSmall }

/-- 'entrepotlaw18.TableJoins', WHERE WHAT IT READS IS OF BULK AT MOST 1048576: true; the input reads as it did. -/
def tableJoinsUptoRow : OpenClaim := { program := "ytekeoichmdiiiaagreat", sum := "c82ad20f45311335534aec8285f00ffdcec0486a739ebd5df286aa958e4f215a", func := "entrepot/entrepotlaw18.TableJoins", spec := "tableJoins", inPlace := ["internal/bytealg.abigen_runtime_cmpstring", "slices.overlaps[entrepot/api.RepoTable]", "slices.overlaps[entrepot/api.Held]", "slices.overlaps[entrepot/api.TagTable]", "internal/bytealg.Compare"], unfollowed := true, recurses := true, plainKeys := false, apart := false, narrowed := true }
def TableJoinsUptoSaid : Prop := tableJoinsUptoRow.holds Tryz.pinned (OpenSpec.upto tableJoinsSpec)

/-- 'entrepotlaw18.TableKnown', WHERE WHAT IT READS IS OF BULK AT MOST 1048576: true; the input reads as it did. -/
def tableKnownUptoRow : OpenClaim := { program := "ytekeoichmdiiiaagreat", sum := "c82ad20f45311335534aec8285f00ffdcec0486a739ebd5df286aa958e4f215a", func := "entrepot/entrepotlaw18.TableKnown", spec := "tableKnown", inPlace := ["internal/bytealg.abigen_runtime_cmpstring", "slices.overlaps[entrepot/api.RepoTable]", "slices.overlaps[entrepot/api.Held]", "slices.overlaps[entrepot/api.TagTable]", "internal/bytealg.Compare"], unfollowed := true, recurses := true, plainKeys := false, apart := false, narrowed := true }
def TableKnownUptoSaid : Prop := tableKnownUptoRow.holds Tryz.pinned (OpenSpec.upto tableKnownSpec)

/-- 'entrepotlaw18.TableOrders', WHERE WHAT IT READS IS OF BULK AT MOST 1048576: true; the input reads as it did. -/
def tableOrdersUptoRow : OpenClaim := { program := "ytekeoichmdiiiaagreat", sum := "c82ad20f45311335534aec8285f00ffdcec0486a739ebd5df286aa958e4f215a", func := "entrepot/entrepotlaw18.TableOrders", spec := "tableOrders", inPlace := ["internal/bytealg.abigen_runtime_cmpstring", "slices.overlaps[entrepot/api.RepoTable]", "slices.overlaps[entrepot/api.Held]", "slices.overlaps[entrepot/api.TagTable]", "internal/bytealg.Compare"], unfollowed := true, recurses := true, plainKeys := false, apart := false, narrowed := true }
def TableOrdersUptoSaid : Prop := tableOrdersUptoRow.holds Tryz.pinned (OpenSpec.upto tableOrdersSpec)

/-- 'entrepotlaw18.TableDecodes', WHERE WHAT IT READS IS OF BULK AT MOST 1048576: true; the input reads as it did. -/
def tableDecodesUptoRow : OpenClaim := { program := "ytekeoichmdiiiaagreat", sum := "c82ad20f45311335534aec8285f00ffdcec0486a739ebd5df286aa958e4f215a", func := "entrepot/entrepotlaw18.TableDecodes", spec := "tableDecodes", inPlace := ["internal/bytealg.abigen_runtime_cmpstring", "slices.overlaps[entrepot/api.RepoTable]", "slices.overlaps[entrepot/api.Held]", "slices.overlaps[entrepot/api.TagTable]", "internal/bytealg.Compare"], unfollowed := true, recurses := true, plainKeys := false, apart := false, narrowed := true }
def TableDecodesUptoSaid : Prop := tableDecodesUptoRow.holds Tryz.pinned (OpenSpec.upto tableDecodesSpec)

/-- 'entrepotlaw18.TableBytes', WHERE WHAT IT READS IS OF BULK AT MOST 1048576: true; the input reads as it did. -/
def tableBytesUptoRow : OpenClaim := { program := "ytekeoichmdiiiaagreat", sum := "c82ad20f45311335534aec8285f00ffdcec0486a739ebd5df286aa958e4f215a", func := "entrepot/entrepotlaw18.TableBytes", spec := "tableBytes", inPlace := ["internal/bytealg.abigen_runtime_cmpstring", "slices.overlaps[entrepot/api.RepoTable]", "slices.overlaps[entrepot/api.Held]", "slices.overlaps[entrepot/api.TagTable]", "internal/bytealg.Compare"], unfollowed := true, recurses := true, plainKeys := false, apart := false, narrowed := true }
def TableBytesUptoSaid : Prop := tableBytesUptoRow.holds Tryz.pinned (OpenSpec.upto tableBytesSpec)

/-- 'entrepotlaw18.TableParts', WHERE WHAT IT READS IS OF BULK AT MOST 1048576: true; the input reads as it did. -/
def tablePartsUptoRow : OpenClaim := { program := "ytekeoichmdiiiaagreat", sum := "c82ad20f45311335534aec8285f00ffdcec0486a739ebd5df286aa958e4f215a", func := "entrepot/entrepotlaw18.TableParts", spec := "tableParts", inPlace := ["internal/bytealg.abigen_runtime_cmpstring", "slices.overlaps[entrepot/api.RepoTable]", "slices.overlaps[entrepot/api.Held]", "slices.overlaps[entrepot/api.TagTable]", "internal/bytealg.Compare"], unfollowed := true, recurses := true, plainKeys := false, apart := false, narrowed := true }
def TablePartsUptoSaid : Prop := tablePartsUptoRow.holds Tryz.pinned (OpenSpec.upto tablePartsSpec)

end Rows
end Go.Proofs.YtekeoichmdiiiaaGreat
