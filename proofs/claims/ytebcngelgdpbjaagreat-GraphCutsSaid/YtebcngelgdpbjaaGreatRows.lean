/-
  No cell of these rows narrows 'for every input' (looked for: loops, veiled, ifaces, maps, wideKeys, modest, calm, conditions, laid).
  DERIVED. THE GIVEN ROWS OF THIS SEAT. 6 by the template 'for every input the law returns true; each argument reads behind the call as it read before'; 0 by the template 'total and deterministic' (their statements: YtebcngelgdpbjaaGreatTotals.lean).
  GIVEN WITH THE SEED: the statements are not yours to turn. If you find one false, say at which input.
  Laid BY PROGRAM, IN A SANDBOX (cutbox-rows.mjs): the forced cells as the released guide's own fill.sh prints them over the translation 83264166da8c9117… (all of the seat's roots in one cut). By AI agents, Wed Nov 11 2026. No macro, syntax, notation, axiom, sorry.
-/
import Derived.Test.YtebcngelgdpbjaaGreatChecked
import GoSem.Claim
import GoSem.ClaimJoined
import GoSem.ClaimMapViews
import Derived.JoinedTies
import Derived.KernelRfl
namespace Go.Proofs.YtebcngelgdpbjaaGreat
/- THE CELL 'sum', in the pinned program and in every row, IS THE sha256 OF THE DUMP (.gsa) THAT YtebcngelgdpbjaaGreatProg.lean LOADS. Nothing in Lean hashes anything: it is a label: what it is worth is what the hold of that sum in a sandbox is worth. -/
noncomputable def Tryz.pinned : Pinned := { name := "ytebcngelgdpbjaagreat", sum := "83264166da8c9117a03b8631438b1c923a22bb207977eb987ee00980a02df798", checked := Tryz.checked }
namespace Rows
def none {H : Type} : Left H := { results := [], args := [] }

/-- 'entrepotlaw20.GraphTells': WHATEVER THE INPUT: true; the input reads as it did. -/
def graphTellsSpec : ChangeSpec := { name := "graphTells", fn := fun _ => fun
  | [d1, d2, d3, d4] => { results := [.lit (.bool true)], args := [d1, d2, d3, d4] }
  | _ => none }
def graphTellsRow : OpenClaim := { program := "ytebcngelgdpbjaagreat", sum := "83264166da8c9117a03b8631438b1c923a22bb207977eb987ee00980a02df798", func := "entrepot/entrepotlaw20.GraphTells", spec := "graphTells", inPlace := ["internal/bytealg.abigen_runtime_cmpstring"], unfollowed := true, recurses := true, plainKeys := false, apart := false }
def GraphTellsSaid : Prop := graphTellsRow.holds Tryz.pinned (OpenSpec.ofChange graphTellsSpec)

/-- ITS FALSE NEIGHBOUR: 'it returns false'. Refute it at one input. -/
def graphTellsWrong : ChangeSpec := { name := "graphTells", fn := fun _ => fun
  | [d1, d2, d3, d4] => { results := [.lit (.bool false)], args := [d1, d2, d3, d4] }
  | _ => none }
def GraphTellsWrongFalsely : Prop := graphTellsRow.holds Tryz.pinned (OpenSpec.ofChange graphTellsWrong)

/-- 'entrepotlaw20.GraphCuts': WHATEVER THE INPUT: true; the input reads as it did. -/
def graphCutsSpec : ChangeSpec := { name := "graphCuts", fn := fun _ => fun
  | [d1, d2, d3, d4] => { results := [.lit (.bool true)], args := [d1, d2, d3, d4] }
  | _ => none }
def graphCutsRow : OpenClaim := { program := "ytebcngelgdpbjaagreat", sum := "83264166da8c9117a03b8631438b1c923a22bb207977eb987ee00980a02df798", func := "entrepot/entrepotlaw20.GraphCuts", spec := "graphCuts", unfollowed := true, recurses := true, plainKeys := false, apart := false }
def GraphCutsSaid : Prop := graphCutsRow.holds Tryz.pinned (OpenSpec.ofChange graphCutsSpec)

/-- ITS FALSE NEIGHBOUR: 'it returns false'. Refute it at one input. -/
def graphCutsWrong : ChangeSpec := { name := "graphCuts", fn := fun _ => fun
  | [d1, d2, d3, d4] => { results := [.lit (.bool false)], args := [d1, d2, d3, d4] }
  | _ => none }
def GraphCutsWrongFalsely : Prop := graphCutsRow.holds Tryz.pinned (OpenSpec.ofChange graphCutsWrong)

/-- 'entrepotlaw20.GraphKnown': WHATEVER THE INPUT: true; the input reads as it did. -/
def graphKnownSpec : ChangeSpec := { name := "graphKnown", fn := fun _ => fun
  | [] => { results := [.lit (.bool true)], args := [] }
  | _ => none }
def graphKnownRow : OpenClaim := { program := "ytebcngelgdpbjaagreat", sum := "83264166da8c9117a03b8631438b1c923a22bb207977eb987ee00980a02df798", func := "entrepot/entrepotlaw20.GraphKnown", spec := "graphKnown", unfollowed := true, recurses := true, plainKeys := false, apart := false }
def GraphKnownSaid : Prop := graphKnownRow.holds Tryz.pinned (OpenSpec.ofChange graphKnownSpec)

/-- ITS FALSE NEIGHBOUR: 'it returns false'. Refute it at one input. -/
def graphKnownWrong : ChangeSpec := { name := "graphKnown", fn := fun _ => fun
  | [] => { results := [.lit (.bool false)], args := [] }
  | _ => none }
def GraphKnownWrongFalsely : Prop := graphKnownRow.holds Tryz.pinned (OpenSpec.ofChange graphKnownWrong)

/-- 'entrepotlaw20.GraphPast': WHATEVER THE INPUT: true; the input reads as it did. -/
def graphPastSpec : ChangeSpec := { name := "graphPast", fn := fun _ => fun
  | [d1, d2] => { results := [.lit (.bool true)], args := [d1, d2] }
  | _ => none }
def graphPastRow : OpenClaim := { program := "ytebcngelgdpbjaagreat", sum := "83264166da8c9117a03b8631438b1c923a22bb207977eb987ee00980a02df798", func := "entrepot/entrepotlaw20.GraphPast", spec := "graphPast", unfollowed := true, recurses := true, plainKeys := false, apart := false }
def GraphPastSaid : Prop := graphPastRow.holds Tryz.pinned (OpenSpec.ofChange graphPastSpec)

/-- ITS FALSE NEIGHBOUR: 'it returns false'. Refute it at one input. -/
def graphPastWrong : ChangeSpec := { name := "graphPast", fn := fun _ => fun
  | [d1, d2] => { results := [.lit (.bool false)], args := [d1, d2] }
  | _ => none }
def GraphPastWrongFalsely : Prop := graphPastRow.holds Tryz.pinned (OpenSpec.ofChange graphPastWrong)

/-- 'entrepotlaw20.GraphCut': WHATEVER THE INPUT: true; the input reads as it did. -/
def graphCutSpec : ChangeSpec := { name := "graphCut", fn := fun _ => fun
  | [d1, d2, d3] => { results := [.lit (.bool true)], args := [d1, d2, d3] }
  | _ => none }
def graphCutRow : OpenClaim := { program := "ytebcngelgdpbjaagreat", sum := "83264166da8c9117a03b8631438b1c923a22bb207977eb987ee00980a02df798", func := "entrepot/entrepotlaw20.GraphCut", spec := "graphCut", inPlace := ["internal/bytealg.abigen_runtime_cmpstring", "slices.overlaps[entrepot/api.RepoTable]", "slices.overlaps[entrepot/api.Held]", "slices.overlaps[entrepot/api.TagTable]"], unfollowed := true, recurses := true, plainKeys := false, apart := false }
def GraphCutSaid : Prop := graphCutRow.holds Tryz.pinned (OpenSpec.ofChange graphCutSpec)

/-- ITS FALSE NEIGHBOUR: 'it returns false'. Refute it at one input. -/
def graphCutWrong : ChangeSpec := { name := "graphCut", fn := fun _ => fun
  | [d1, d2, d3] => { results := [.lit (.bool false)], args := [d1, d2, d3] }
  | _ => none }
def GraphCutWrongFalsely : Prop := graphCutRow.holds Tryz.pinned (OpenSpec.ofChange graphCutWrong)

/-- 'entrepotlaw20.GraphTable': WHATEVER THE INPUT: true; the input reads as it did. -/
def graphTableSpec : ChangeSpec := { name := "graphTable", fn := fun _ => fun
  | [d1, d2] => { results := [.lit (.bool true)], args := [d1, d2] }
  | _ => none }
def graphTableRow : OpenClaim := { program := "ytebcngelgdpbjaagreat", sum := "83264166da8c9117a03b8631438b1c923a22bb207977eb987ee00980a02df798", func := "entrepot/entrepotlaw20.GraphTable", spec := "graphTable", inPlace := ["internal/bytealg.abigen_runtime_cmpstring", "slices.overlaps[entrepot/api.RepoTable]", "slices.overlaps[entrepot/api.Held]", "slices.overlaps[entrepot/api.TagTable]"], unfollowed := true, recurses := true, plainKeys := false, apart := false }
def GraphTableSaid : Prop := graphTableRow.holds Tryz.pinned (OpenSpec.ofChange graphTableSpec)

/-- ITS FALSE NEIGHBOUR: 'it returns false'. Refute it at one input. -/
def graphTableWrong : ChangeSpec := { name := "graphTable", fn := fun _ => fun
  | [d1, d2] => { results := [.lit (.bool false)], args := [d1, d2] }
  | _ => none }
def GraphTableWrongFalsely : Prop := graphTableRow.holds Tryz.pinned (OpenSpec.ofChange graphTableWrong)

/- THE SECOND FORM. 'bulk': how many values and letters a reading holds, each counted each time it is reached (what is shared counts as often as it is met; a slice's spare places count too). A statement '..UptoSaid' is the law's where the arguments, and the package variables that the reading takes, are together of bulk at most 1048576: NARROWER than '..Said'. Prove '..Said' where nothing that the law and all that it calls make is longer than what came in: it says more and counts as full. Else prove '..UptoSaid'. A law counts once. -/
mutual
def uptoBulk {H : Type} : DataW H → Nat
  | .lit (.string bytes) => bytes.length + 1
  | .lit _ => 1
  | .nil => 1
  | .ptr d => uptoBulk d + 1
  | .slice elems spare => uptoBulkAll elems + uptoBulkAll spare + 1
  | .agg parts => uptoBulkAll parts + 1
  | .iface _ d => uptoBulk d + 1
  | .map entries => uptoBulkEntries entries + 1
  | .held _ => 1
def uptoBulkAll {H : Type} : List (DataW H) → Nat
  | [] => 0
  | d :: r => uptoBulk d + uptoBulkAll r
def uptoBulkEntries {H : Type} : List (Lit × DataW H) → Nat
  | [] => 0
  | x :: r => uptoBulkEntry x + uptoBulkEntries r
def uptoBulkEntry {H : Type} : Lit × DataW H → Nat
  | (.string bytes, d) => bytes.length + uptoBulk d + 1
  | (_, d) => uptoBulk d + 1
 end
def uptoSmall : (H : Type) → List (DataW H) → Bool := fun _ ds => decide (uptoBulkAll ds ≤ 1048576)
def OpenSpec.upto (s : _root_.Go.ChangeSpec) : _root_.Go.OpenSpec := { _root_.Go.OpenSpec.ofChange s with cond := some uptoSmall }

/-- 'entrepotlaw20.GraphTells', WHERE WHAT IT READS IS OF BULK AT MOST 1048576: true; the input reads as it did. -/
def graphTellsUptoRow : OpenClaim := { program := "ytebcngelgdpbjaagreat", sum := "83264166da8c9117a03b8631438b1c923a22bb207977eb987ee00980a02df798", func := "entrepot/entrepotlaw20.GraphTells", spec := "graphTells", inPlace := ["internal/bytealg.abigen_runtime_cmpstring"], unfollowed := true, recurses := true, plainKeys := false, apart := false, narrowed := true }
def GraphTellsUptoSaid : Prop := graphTellsUptoRow.holds Tryz.pinned (OpenSpec.upto graphTellsSpec)

/-- 'entrepotlaw20.GraphCuts', WHERE WHAT IT READS IS OF BULK AT MOST 1048576: true; the input reads as it did. -/
def graphCutsUptoRow : OpenClaim := { program := "ytebcngelgdpbjaagreat", sum := "83264166da8c9117a03b8631438b1c923a22bb207977eb987ee00980a02df798", func := "entrepot/entrepotlaw20.GraphCuts", spec := "graphCuts", unfollowed := true, recurses := true, plainKeys := false, apart := false, narrowed := true }
def GraphCutsUptoSaid : Prop := graphCutsUptoRow.holds Tryz.pinned (OpenSpec.upto graphCutsSpec)

/-- 'entrepotlaw20.GraphKnown', WHERE WHAT IT READS IS OF BULK AT MOST 1048576: true; the input reads as it did. -/
def graphKnownUptoRow : OpenClaim := { program := "ytebcngelgdpbjaagreat", sum := "83264166da8c9117a03b8631438b1c923a22bb207977eb987ee00980a02df798", func := "entrepot/entrepotlaw20.GraphKnown", spec := "graphKnown", unfollowed := true, recurses := true, plainKeys := false, apart := false, narrowed := true }
def GraphKnownUptoSaid : Prop := graphKnownUptoRow.holds Tryz.pinned (OpenSpec.upto graphKnownSpec)

/-- 'entrepotlaw20.GraphPast', WHERE WHAT IT READS IS OF BULK AT MOST 1048576: true; the input reads as it did. -/
def graphPastUptoRow : OpenClaim := { program := "ytebcngelgdpbjaagreat", sum := "83264166da8c9117a03b8631438b1c923a22bb207977eb987ee00980a02df798", func := "entrepot/entrepotlaw20.GraphPast", spec := "graphPast", unfollowed := true, recurses := true, plainKeys := false, apart := false, narrowed := true }
def GraphPastUptoSaid : Prop := graphPastUptoRow.holds Tryz.pinned (OpenSpec.upto graphPastSpec)

/-- 'entrepotlaw20.GraphCut', WHERE WHAT IT READS IS OF BULK AT MOST 1048576: true; the input reads as it did. -/
def graphCutUptoRow : OpenClaim := { program := "ytebcngelgdpbjaagreat", sum := "83264166da8c9117a03b8631438b1c923a22bb207977eb987ee00980a02df798", func := "entrepot/entrepotlaw20.GraphCut", spec := "graphCut", inPlace := ["internal/bytealg.abigen_runtime_cmpstring", "slices.overlaps[entrepot/api.RepoTable]", "slices.overlaps[entrepot/api.Held]", "slices.overlaps[entrepot/api.TagTable]"], unfollowed := true, recurses := true, plainKeys := false, apart := false, narrowed := true }
def GraphCutUptoSaid : Prop := graphCutUptoRow.holds Tryz.pinned (OpenSpec.upto graphCutSpec)

/-- 'entrepotlaw20.GraphTable', WHERE WHAT IT READS IS OF BULK AT MOST 1048576: true; the input reads as it did. -/
def graphTableUptoRow : OpenClaim := { program := "ytebcngelgdpbjaagreat", sum := "83264166da8c9117a03b8631438b1c923a22bb207977eb987ee00980a02df798", func := "entrepot/entrepotlaw20.GraphTable", spec := "graphTable", inPlace := ["internal/bytealg.abigen_runtime_cmpstring", "slices.overlaps[entrepot/api.RepoTable]", "slices.overlaps[entrepot/api.Held]", "slices.overlaps[entrepot/api.TagTable]"], unfollowed := true, recurses := true, plainKeys := false, apart := false, narrowed := true }
def GraphTableUptoSaid : Prop := graphTableUptoRow.holds Tryz.pinned (OpenSpec.upto graphTableSpec)

end Rows
end Go.Proofs.YtebcngelgdpbjaaGreat
