/-
  No cell of these rows narrows 'for every input' (looked for: loops, veiled, ifaces, maps, wideKeys, modest, calm, conditions, laid).
  DERIVED. THE GIVEN ROWS OF THIS SEAT. 7 by the template 'for every input the law returns true; each argument reads behind the call as it read before'; 0 by the template 'total and deterministic' (their statements: YtbcpcjofkfgjoaaTotals.lean).
  GIVEN WITH THE SEED: the statements are not yours to turn. If you find one false, say at which input.
  Laid BY PROGRAM, IN A SANDBOX (cutbox-rows.mjs): the forced cells as the released guide's own fill.sh prints them over the translation 52e90c93d9564b4e… (all of the seat's roots in one cut). By AI agents, Wed Nov 11 2026. No macro, syntax, notation, axiom, sorry.
-/
import Derived.Test.YtbcpcjofkfgjoaaChecked
import GoSem.Claim
import GoSem.ClaimJoined
import GoSem.ClaimMapViews
import Derived.JoinedTies
import Derived.KernelRfl
namespace Go.Proofs.Ytbcpcjofkfgjoaa
/- THE CELL 'sum', in the pinned program and in every row, IS THE sha256 OF THE DUMP (.gsa) THAT YtbcpcjofkfgjoaaProg.lean LOADS. Nothing in Lean hashes anything: it is a label: what it is worth is what the hold of that sum in a sandbox is worth. -/
noncomputable def Try.pinned : Pinned := { name := "ytbcpcjofkfgjoaa", sum := "52e90c93d9564b4e13f0482122171b31c94b1612355ee1ed587a25f38fe33d42", checked := Try.checked }
namespace Rows
def none {H : Type} : Left H := { results := [], args := [] }

/-- 'entrepotlaw26.PageNames': WHATEVER THE INPUT: true; the input reads as it did. -/
def pageNamesSpec : ChangeSpec := { name := "pageNames", fn := fun _ => fun
  | [d1, d2, d3] => { results := [.lit (.bool true)], args := [d1, d2, d3] }
  | _ => none }
def pageNamesRow : OpenClaim := { program := "ytbcpcjofkfgjoaa", sum := "52e90c93d9564b4e13f0482122171b31c94b1612355ee1ed587a25f38fe33d42", func := "entrepot/entrepotlaw26.PageNames", spec := "pageNames", inPlace := ["internal/bytealg.abigen_runtime_cmpstring", "internal/bytealg.IndexByteString", "internal/bytealg.IndexString", "internal/abi.NoEscape", "internal/bytealg.MakeNoZero"], unfollowed := true, recurses := true, named := ["internal/bytealg.MaxLen"], apart := false }
def PageNamesSaid : Prop := pageNamesRow.holds Try.pinned (OpenSpec.ofChange pageNamesSpec)

/-- ITS FALSE NEIGHBOUR: 'it returns false'. Refute it at one input. -/
def pageNamesWrong : ChangeSpec := { name := "pageNames", fn := fun _ => fun
  | [d1, d2, d3] => { results := [.lit (.bool false)], args := [d1, d2, d3] }
  | _ => none }
def PageNamesWrongFalsely : Prop := pageNamesRow.holds Try.pinned (OpenSpec.ofChange pageNamesWrong)

/-- 'entrepotlaw26.PageCursors': WHATEVER THE INPUT: true; the input reads as it did. -/
def pageCursorsSpec : ChangeSpec := { name := "pageCursors", fn := fun _ => fun
  | [d1, d2] => { results := [.lit (.bool true)], args := [d1, d2] }
  | _ => none }
def pageCursorsRow : OpenClaim := { program := "ytbcpcjofkfgjoaa", sum := "52e90c93d9564b4e13f0482122171b31c94b1612355ee1ed587a25f38fe33d42", func := "entrepot/entrepotlaw26.PageCursors", spec := "pageCursors", inPlace := ["internal/bytealg.abigen_runtime_cmpstring", "internal/bytealg.IndexByteString", "internal/bytealg.IndexString", "internal/abi.NoEscape", "internal/bytealg.MakeNoZero"], unfollowed := true, recurses := true, named := ["internal/bytealg.MaxLen"], apart := false }
def PageCursorsSaid : Prop := pageCursorsRow.holds Try.pinned (OpenSpec.ofChange pageCursorsSpec)

/-- ITS FALSE NEIGHBOUR: 'it returns false'. Refute it at one input. -/
def pageCursorsWrong : ChangeSpec := { name := "pageCursors", fn := fun _ => fun
  | [d1, d2] => { results := [.lit (.bool false)], args := [d1, d2] }
  | _ => none }
def PageCursorsWrongFalsely : Prop := pageCursorsRow.holds Try.pinned (OpenSpec.ofChange pageCursorsWrong)

/-- 'entrepotlaw26.PageKnown': WHATEVER THE INPUT: true; the input reads as it did. -/
def pageKnownSpec : ChangeSpec := { name := "pageKnown", fn := fun _ => fun
  | [] => { results := [.lit (.bool true)], args := [] }
  | _ => none }
def pageKnownRow : OpenClaim := { program := "ytbcpcjofkfgjoaa", sum := "52e90c93d9564b4e13f0482122171b31c94b1612355ee1ed587a25f38fe33d42", func := "entrepot/entrepotlaw26.PageKnown", spec := "pageKnown", inPlace := ["internal/bytealg.abigen_runtime_cmpstring", "internal/bytealg.IndexByteString", "internal/bytealg.IndexString", "internal/abi.NoEscape", "internal/bytealg.MakeNoZero"], unfollowed := true, recurses := true, named := ["internal/bytealg.MaxLen"], apart := false }
def PageKnownSaid : Prop := pageKnownRow.holds Try.pinned (OpenSpec.ofChange pageKnownSpec)

/-- ITS FALSE NEIGHBOUR: 'it returns false'. Refute it at one input. -/
def pageKnownWrong : ChangeSpec := { name := "pageKnown", fn := fun _ => fun
  | [] => { results := [.lit (.bool false)], args := [] }
  | _ => none }
def PageKnownWrongFalsely : Prop := pageKnownRow.holds Try.pinned (OpenSpec.ofChange pageKnownWrong)

/-- 'entrepotlaw26.PageAll': WHATEVER THE INPUT: true; the input reads as it did. -/
def pageAllSpec : ChangeSpec := { name := "pageAll", fn := fun _ => fun
  | [d1, d2] => { results := [.lit (.bool true)], args := [d1, d2] }
  | _ => none }
def pageAllRow : OpenClaim := { program := "ytbcpcjofkfgjoaa", sum := "52e90c93d9564b4e13f0482122171b31c94b1612355ee1ed587a25f38fe33d42", func := "entrepot/entrepotlaw26.PageAll", spec := "pageAll", inPlace := ["internal/bytealg.abigen_runtime_cmpstring", "internal/bytealg.IndexByteString", "internal/bytealg.IndexString", "internal/abi.NoEscape", "internal/bytealg.MakeNoZero"], unfollowed := true, recurses := true, named := ["internal/bytealg.MaxLen"], apart := false }
def PageAllSaid : Prop := pageAllRow.holds Try.pinned (OpenSpec.ofChange pageAllSpec)

/-- ITS FALSE NEIGHBOUR: 'it returns false'. Refute it at one input. -/
def pageAllWrong : ChangeSpec := { name := "pageAll", fn := fun _ => fun
  | [d1, d2] => { results := [.lit (.bool false)], args := [d1, d2] }
  | _ => none }
def PageAllWrongFalsely : Prop := pageAllRow.holds Try.pinned (OpenSpec.ofChange pageAllWrong)

/-- 'entrepotlaw26.PageChanges': WHATEVER THE INPUT: true; the input reads as it did. -/
def pageChangesSpec : ChangeSpec := { name := "pageChanges", fn := fun _ => fun
  | [d1, d2, d3] => { results := [.lit (.bool true)], args := [d1, d2, d3] }
  | _ => none }
def pageChangesRow : OpenClaim := { program := "ytbcpcjofkfgjoaa", sum := "52e90c93d9564b4e13f0482122171b31c94b1612355ee1ed587a25f38fe33d42", func := "entrepot/entrepotlaw26.PageChanges", spec := "pageChanges", inPlace := ["internal/bytealg.abigen_runtime_cmpstring", "internal/bytealg.IndexByteString", "internal/bytealg.IndexString", "internal/abi.NoEscape", "internal/bytealg.MakeNoZero"], unfollowed := true, recurses := true, named := ["internal/bytealg.MaxLen"], apart := false }
def PageChangesSaid : Prop := pageChangesRow.holds Try.pinned (OpenSpec.ofChange pageChangesSpec)

/-- ITS FALSE NEIGHBOUR: 'it returns false'. Refute it at one input. -/
def pageChangesWrong : ChangeSpec := { name := "pageChanges", fn := fun _ => fun
  | [d1, d2, d3] => { results := [.lit (.bool false)], args := [d1, d2, d3] }
  | _ => none }
def PageChangesWrongFalsely : Prop := pageChangesRow.holds Try.pinned (OpenSpec.ofChange pageChangesWrong)

/-- 'entrepotlaw26.PageTexts': WHATEVER THE INPUT: true; the input reads as it did. -/
def pageTextsSpec : ChangeSpec := { name := "pageTexts", fn := fun _ => fun
  | [d1, d2] => { results := [.lit (.bool true)], args := [d1, d2] }
  | _ => none }
def pageTextsRow : OpenClaim := { program := "ytbcpcjofkfgjoaa", sum := "52e90c93d9564b4e13f0482122171b31c94b1612355ee1ed587a25f38fe33d42", func := "entrepot/entrepotlaw26.PageTexts", spec := "pageTexts", inPlace := ["internal/bytealg.abigen_runtime_cmpstring", "internal/bytealg.IndexByteString", "internal/bytealg.IndexString", "internal/abi.NoEscape", "internal/bytealg.MakeNoZero"], unfollowed := true, recurses := true, named := ["internal/bytealg.MaxLen"], apart := false }
def PageTextsSaid : Prop := pageTextsRow.holds Try.pinned (OpenSpec.ofChange pageTextsSpec)

/-- ITS FALSE NEIGHBOUR: 'it returns false'. Refute it at one input. -/
def pageTextsWrong : ChangeSpec := { name := "pageTexts", fn := fun _ => fun
  | [d1, d2] => { results := [.lit (.bool false)], args := [d1, d2] }
  | _ => none }
def PageTextsWrongFalsely : Prop := pageTextsRow.holds Try.pinned (OpenSpec.ofChange pageTextsWrong)

/-- 'entrepotlaw26.PageIDs': WHATEVER THE INPUT: true; the input reads as it did. -/
def pageIDsSpec : ChangeSpec := { name := "pageIDs", fn := fun _ => fun
  | [d1, d2, d3, d4] => { results := [.lit (.bool true)], args := [d1, d2, d3, d4] }
  | _ => none }
def pageIDsRow : OpenClaim := { program := "ytbcpcjofkfgjoaa", sum := "52e90c93d9564b4e13f0482122171b31c94b1612355ee1ed587a25f38fe33d42", func := "entrepot/entrepotlaw26.PageIDs", spec := "pageIDs", inPlace := ["internal/bytealg.abigen_runtime_cmpstring", "internal/bytealg.IndexByteString", "internal/bytealg.IndexString", "internal/abi.NoEscape", "internal/bytealg.MakeNoZero", "internal/bytealg.Compare"], unfollowed := true, recurses := true, named := ["internal/bytealg.MaxLen"], apart := false }
def PageIDsSaid : Prop := pageIDsRow.holds Try.pinned (OpenSpec.ofChange pageIDsSpec)

/-- ITS FALSE NEIGHBOUR: 'it returns false'. Refute it at one input. -/
def pageIDsWrong : ChangeSpec := { name := "pageIDs", fn := fun _ => fun
  | [d1, d2, d3, d4] => { results := [.lit (.bool false)], args := [d1, d2, d3, d4] }
  | _ => none }
def PageIDsWrongFalsely : Prop := pageIDsRow.holds Try.pinned (OpenSpec.ofChange pageIDsWrong)

/- THE SECOND FORM. 'bulk': how many values and letters a reading holds, each counted each time it is reached (what is shared counts as often as it is met; a slice's spare places count too). A statement '..UptoSaid' is the law's where the arguments, and the package variables that the reading takes, are together of bulk at most 1048576: NARROWER than '..Said'. Prove '..Said' where nothing that the law and all that it calls make is longer than what came in: it says more and counts as full. Else prove '..UptoSaid'. A law counts once. -/
mutual
def uptoBulk {H : Type} : DataW H → Nat
  | .lit (.string bytes) => bytes.length + 1
  | .lit _ => 1
  | .nil => 1
  | .ptr d => uptoBulk d + 1
  | .slice elems spare => uptoBulkAll elems + uptoBulkAll spare + 1
  | .agg parts => uptoBulkAll parts + 1
  | .iface _ d => uptoBulk d + 1
  | .map entries => uptoBulkEntries entries + 1
  | .held _ => 1
def uptoBulkAll {H : Type} : List (DataW H) → Nat
  | [] => 0
  | d :: r => uptoBulk d + uptoBulkAll r
def uptoBulkEntries {H : Type} : List (Lit × DataW H) → Nat
  | [] => 0
  | x :: r => uptoBulkEntry x + uptoBulkEntries r
def uptoBulkEntry {H : Type} : Lit × DataW H → Nat
  | (.string bytes, d) => bytes.length + uptoBulk d + 1
  | (_, d) => uptoBulk d + 1
 end
def uptoSmall : (H : Type) → List (DataW H) → Bool := fun _ ds => decide (uptoBulkAll ds ≤ 1048576)
def OpenSpec.upto (s : _root_.Go.ChangeSpec) : _root_.Go.OpenSpec := { _root_.Go.OpenSpec.ofChange s with cond := some uptoSmall }

/-- 'entrepotlaw26.PageNames', WHERE WHAT IT READS IS OF BULK AT MOST 1048576: true; the input reads as it did. -/
def pageNamesUptoRow : OpenClaim := { program := "ytbcpcjofkfgjoaa", sum := "52e90c93d9564b4e13f0482122171b31c94b1612355ee1ed587a25f38fe33d42", func := "entrepot/entrepotlaw26.PageNames", spec := "pageNames", inPlace := ["internal/bytealg.abigen_runtime_cmpstring", "internal/bytealg.IndexByteString", "internal/bytealg.IndexString", "internal/abi.NoEscape", "internal/bytealg.MakeNoZero"], unfollowed := true, recurses := true, named := ["internal/bytealg.MaxLen"], apart := false, narrowed := true }
def PageNamesUptoSaid : Prop := pageNamesUptoRow.holds Try.pinned (OpenSpec.upto pageNamesSpec)

/-- 'entrepotlaw26.PageCursors', WHERE WHAT IT READS IS OF BULK AT MOST 1048576: true; the input reads as it did. -/
def pageCursorsUptoRow : OpenClaim := { program := "ytbcpcjofkfgjoaa", sum := "52e90c93d9564b4e13f0482122171b31c94b1612355ee1ed587a25f38fe33d42", func := "entrepot/entrepotlaw26.PageCursors", spec := "pageCursors", inPlace := ["internal/bytealg.abigen_runtime_cmpstring", "internal/bytealg.IndexByteString", "internal/bytealg.IndexString", "internal/abi.NoEscape", "internal/bytealg.MakeNoZero"], unfollowed := true, recurses := true, named := ["internal/bytealg.MaxLen"], apart := false, narrowed := true }
def PageCursorsUptoSaid : Prop := pageCursorsUptoRow.holds Try.pinned (OpenSpec.upto pageCursorsSpec)

/-- 'entrepotlaw26.PageKnown', WHERE WHAT IT READS IS OF BULK AT MOST 1048576: true; the input reads as it did. -/
def pageKnownUptoRow : OpenClaim := { program := "ytbcpcjofkfgjoaa", sum := "52e90c93d9564b4e13f0482122171b31c94b1612355ee1ed587a25f38fe33d42", func := "entrepot/entrepotlaw26.PageKnown", spec := "pageKnown", inPlace := ["internal/bytealg.abigen_runtime_cmpstring", "internal/bytealg.IndexByteString", "internal/bytealg.IndexString", "internal/abi.NoEscape", "internal/bytealg.MakeNoZero"], unfollowed := true, recurses := true, named := ["internal/bytealg.MaxLen"], apart := false, narrowed := true }
def PageKnownUptoSaid : Prop := pageKnownUptoRow.holds Try.pinned (OpenSpec.upto pageKnownSpec)

/-- 'entrepotlaw26.PageAll', WHERE WHAT IT READS IS OF BULK AT MOST 1048576: true; the input reads as it did. -/
def pageAllUptoRow : OpenClaim := { program := "ytbcpcjofkfgjoaa", sum := "52e90c93d9564b4e13f0482122171b31c94b1612355ee1ed587a25f38fe33d42", func := "entrepot/entrepotlaw26.PageAll", spec := "pageAll", inPlace := ["internal/bytealg.abigen_runtime_cmpstring", "internal/bytealg.IndexByteString", "internal/bytealg.IndexString", "internal/abi.NoEscape", "internal/bytealg.MakeNoZero"], unfollowed := true, recurses := true, named := ["internal/bytealg.MaxLen"], apart := false, narrowed := true }
def PageAllUptoSaid : Prop := pageAllUptoRow.holds Try.pinned (OpenSpec.upto pageAllSpec)

/-- 'entrepotlaw26.PageChanges', WHERE WHAT IT READS IS OF BULK AT MOST 1048576: true; the input reads as it did. -/
def pageChangesUptoRow : OpenClaim := { program := "ytbcpcjofkfgjoaa", sum := "52e90c93d9564b4e13f0482122171b31c94b1612355ee1ed587a25f38fe33d42", func := "entrepot/entrepotlaw26.PageChanges", spec := "pageChanges", inPlace := ["internal/bytealg.abigen_runtime_cmpstring", "internal/bytealg.IndexByteString", "internal/bytealg.IndexString", "internal/abi.NoEscape", "internal/bytealg.MakeNoZero"], unfollowed := true, recurses := true, named := ["internal/bytealg.MaxLen"], apart := false, narrowed := true }
def PageChangesUptoSaid : Prop := pageChangesUptoRow.holds Try.pinned (OpenSpec.upto pageChangesSpec)

/-- 'entrepotlaw26.PageTexts', WHERE WHAT IT READS IS OF BULK AT MOST 1048576: true; the input reads as it did. -/
def pageTextsUptoRow : OpenClaim := { program := "ytbcpcjofkfgjoaa", sum := "52e90c93d9564b4e13f0482122171b31c94b1612355ee1ed587a25f38fe33d42", func := "entrepot/entrepotlaw26.PageTexts", spec := "pageTexts", inPlace := ["internal/bytealg.abigen_runtime_cmpstring", "internal/bytealg.IndexByteString", "internal/bytealg.IndexString", "internal/abi.NoEscape", "internal/bytealg.MakeNoZero"], unfollowed := true, recurses := true, named := ["internal/bytealg.MaxLen"], apart := false, narrowed := true }
def PageTextsUptoSaid : Prop := pageTextsUptoRow.holds Try.pinned (OpenSpec.upto pageTextsSpec)

/-- 'entrepotlaw26.PageIDs', WHERE WHAT IT READS IS OF BULK AT MOST 1048576: true; the input reads as it did. -/
def pageIDsUptoRow : OpenClaim := { program := "ytbcpcjofkfgjoaa", sum := "52e90c93d9564b4e13f0482122171b31c94b1612355ee1ed587a25f38fe33d42", func := "entrepot/entrepotlaw26.PageIDs", spec := "pageIDs", inPlace := ["internal/bytealg.abigen_runtime_cmpstring", "internal/bytealg.IndexByteString", "internal/bytealg.IndexString", "internal/abi.NoEscape", "internal/bytealg.MakeNoZero", "internal/bytealg.Compare"], unfollowed := true, recurses := true, named := ["internal/bytealg.MaxLen"], apart := false, narrowed := true }
def PageIDsUptoSaid : Prop := pageIDsUptoRow.holds Try.pinned (OpenSpec.upto pageIDsSpec)

end Rows
end Go.Proofs.Ytbcpcjofkfgjoaa
