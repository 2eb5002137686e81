/- The table of the functions made ready, and that it is sound. No condition. -/
import Derived.Test.YtpoojfnmhnedpaaCf0
namespace Go.Proofs.Ytpoojfnmhnedpaa
def tl0 : List (Option CF) := [none, none, none, none, none, some c5, none, none, none, some c9, none, some c11, none, some c13, some c14, some c15]
theorem ta0 : AllT Try.prog 0 tl0 := (AllT.skip (AllT.skip (AllT.skip (AllT.skip (AllT.skip (AllT.cons Try.func5 sc5 (AllT.skip (AllT.skip (AllT.skip (AllT.cons Try.func9 sc9 (AllT.skip (AllT.cons Try.func11 sc11 (AllT.skip (AllT.cons Try.func13 sc13 (AllT.cons Try.func14 sc14 (AllT.cons Try.func15 sc15 trivial))))))))))))))))
def tl1 : List (Option CF) := [none, none, some c18, none, some c20, none, none, none, some c24, none, none, some c27, some c28, some c29, some c30, some c31]
theorem ta1 : AllT Try.prog 16 tl1 := (AllT.skip (AllT.skip (AllT.cons Try.func18 sc18 (AllT.skip (AllT.cons Try.func20 sc20 (AllT.skip (AllT.skip (AllT.skip (AllT.cons Try.func24 sc24 (AllT.skip (AllT.skip (AllT.cons Try.func27 sc27 (AllT.cons Try.func28 sc28 (AllT.cons Try.func29 sc29 (AllT.cons Try.func30 sc30 (AllT.cons Try.func31 sc31 trivial))))))))))))))))
def tl2 : List (Option CF) := [some c32, some c33, some c34, some c35, some c36, some c37, some c38, some c39, some c40, some c41, some c42, none, none, none, none, none]
theorem ta2 : AllT Try.prog 32 tl2 := (AllT.cons Try.func32 sc32 (AllT.cons Try.func33 sc33 (AllT.cons Try.func34 sc34 (AllT.cons Try.func35 sc35 (AllT.cons Try.func36 sc36 (AllT.cons Try.func37 sc37 (AllT.cons Try.func38 sc38 (AllT.cons Try.func39 sc39 (AllT.cons Try.func40 sc40 (AllT.cons Try.func41 sc41 (AllT.cons Try.func42 sc42 (AllT.skip (AllT.skip (AllT.skip (AllT.skip (AllT.skip trivial))))))))))))))))
def tl3 : List (Option CF) := [none, some c49, some c50, some c51, none, none, none, none, some c56, some c57, some c58, some c59, some c60, some c61, none, none]
theorem ta3 : AllT Try.prog 48 tl3 := (AllT.skip (AllT.cons Try.func49 sc49 (AllT.cons Try.func50 sc50 (AllT.cons Try.func51 sc51 (AllT.skip (AllT.skip (AllT.skip (AllT.skip (AllT.cons Try.func56 sc56 (AllT.cons Try.func57 sc57 (AllT.cons Try.func58 sc58 (AllT.cons Try.func59 sc59 (AllT.cons Try.func60 sc60 (AllT.cons Try.func61 sc61 (AllT.skip (AllT.skip trivial))))))))))))))))
def tl4 : List (Option CF) := [none, none, some c66, some c67, some c68, some c69, some c70, some c71, none, none, none, some c75, some c76, some c77, some c78, some c79]
theorem ta4 : AllT Try.prog 64 tl4 := (AllT.skip (AllT.skip (AllT.cons Try.func66 sc66 (AllT.cons Try.func67 sc67 (AllT.cons Try.func68 sc68 (AllT.cons Try.func69 sc69 (AllT.cons Try.func70 sc70 (AllT.cons Try.func71 sc71 (AllT.skip (AllT.skip (AllT.skip (AllT.cons Try.func75 sc75 (AllT.cons Try.func76 sc76 (AllT.cons Try.func77 sc77 (AllT.cons Try.func78 sc78 (AllT.cons Try.func79 sc79 trivial))))))))))))))))
def tl5 : List (Option CF) := [some c80, none, none, none, some c84, some c85, some c86, some c87, some c88, some c89, none, none, none, none, none, none]
theorem ta5 : AllT Try.prog 80 tl5 := (AllT.cons Try.func80 sc80 (AllT.skip (AllT.skip (AllT.skip (AllT.cons Try.func84 sc84 (AllT.cons Try.func85 sc85 (AllT.cons Try.func86 sc86 (AllT.cons Try.func87 sc87 (AllT.cons Try.func88 sc88 (AllT.cons Try.func89 sc89 (AllT.skip (AllT.skip (AllT.skip (AllT.skip (AllT.skip (AllT.skip trivial))))))))))))))))
def tls : List (List (Option CF)) := [tl0, tl1, tl2, tl3, tl4, tl5]
noncomputable def TT : Nat → Option CF := tabl tls
theorem TT_sound : SoundT Try.prog TT := tabl_sound tls (AllTs.cons ta0 (AllTs.cons ta1 (AllTs.cons ta2 (AllTs.cons ta3 (AllTs.cons ta4 (AllTs.cons ta5 trivial))))))
end Go.Proofs.Ytpoojfnmhnedpaa
