/- The table of the functions made ready, and that it is sound. No condition. -/
import Derived.Test.YtbcpcjofkfgjoaaCf0
import Derived.Test.YtbcpcjofkfgjoaaJnA
namespace Go.Proofs.Ytbcpcjofkfgjoaa
def tl0 : List (Option TC) := [none, none, none, none, none, some (.cf c5), none, none, none, none, none, some (.cf c11), none, some (.cf c13), none, some (.cf c15)]
theorem ta0 : AllN Try.prog 0 tl0 := (AllN.skip (AllN.skip (AllN.skip (AllN.skip (AllN.skip (AllN.cons Try.func5 sc5 (AllN.skip (AllN.skip (AllN.skip (AllN.skip (AllN.skip (AllN.cons Try.func11 sc11 (AllN.skip (AllN.cons Try.func13 sc13 (AllN.skip (AllN.cons Try.func15 sc15 trivial))))))))))))))))
def tl1 : List (Option TC) := [none, some (.cf c17), none, some (.cf c19), none, some (.cf c21), none, some (.cf c23), some (.cf c24), some (.cf c25), none, none, none, none, none, none]
theorem ta1 : AllN Try.prog 16 tl1 := (AllN.skip (AllN.cons Try.func17 sc17 (AllN.skip (AllN.cons Try.func19 sc19 (AllN.skip (AllN.cons Try.func21 sc21 (AllN.skip (AllN.cons Try.func23 sc23 (AllN.cons Try.func24 sc24 (AllN.cons Try.func25 sc25 (AllN.skip (AllN.skip (AllN.skip (AllN.skip (AllN.skip (AllN.skip trivial))))))))))))))))
def tl2 : List (Option TC) := [none, none, some (.cf c34), some (.cf c35), some (.nv nv_join), some (.cf c37), none, some (.cf c39), some (.cf c40), some (.cf c41), some (.cf c42), none, none, none, none, none]
theorem ta2 : AllN Try.prog 32 tl2 := (AllN.skip (AllN.skip (AllN.cons Try.func34 sc34 (AllN.cons Try.func35 sc35 (AllN.nv nvok_join (AllN.cons Try.func37 sc37 (AllN.skip (AllN.cons Try.func39 sc39 (AllN.cons Try.func40 sc40 (AllN.cons Try.func41 sc41 (AllN.cons Try.func42 sc42 (AllN.skip (AllN.skip (AllN.skip (AllN.skip (AllN.skip trivial))))))))))))))))
def tl3 : List (Option TC) := [none, some (.cf c49), some (.cf c50), some (.cf c51), none, none, none, some (.cf c55), some (.cf c56), some (.cf c57), some (.cf c58), some (.cf c59), none, none, none, none]
theorem ta3 : AllN Try.prog 48 tl3 := (AllN.skip (AllN.cons Try.func49 sc49 (AllN.cons Try.func50 sc50 (AllN.cons Try.func51 sc51 (AllN.skip (AllN.skip (AllN.skip (AllN.cons Try.func55 sc55 (AllN.cons Try.func56 sc56 (AllN.cons Try.func57 sc57 (AllN.cons Try.func58 sc58 (AllN.cons Try.func59 sc59 (AllN.skip (AllN.skip (AllN.skip (AllN.skip trivial))))))))))))))))
def tl4 : List (Option TC) := [none, none, none, none, none, some (.cf c69), some (.cf c70), some (.cf c71), some (.cf c72), some (.cf c73), some (.cf c74), some (.cf c75), some (.cf c76), none, none, none]
theorem ta4 : AllN Try.prog 64 tl4 := (AllN.skip (AllN.skip (AllN.skip (AllN.skip (AllN.skip (AllN.cons Try.func69 sc69 (AllN.cons Try.func70 sc70 (AllN.cons Try.func71 sc71 (AllN.cons Try.func72 sc72 (AllN.cons Try.func73 sc73 (AllN.cons Try.func74 sc74 (AllN.cons Try.func75 sc75 (AllN.cons Try.func76 sc76 (AllN.skip (AllN.skip (AllN.skip trivial))))))))))))))))
def tl5 : List (Option TC) := [none, none, none, none, some (.cf c84), some (.cf c85), some (.cf c86), some (.cf c87), some (.cf c88), some (.cf c89), some (.cf c90), some (.cf c91), some (.cf c92), some (.cf c93), some (.cf c94), some (.cf c95)]
theorem ta5 : AllN Try.prog 80 tl5 := (AllN.skip (AllN.skip (AllN.skip (AllN.skip (AllN.cons Try.func84 sc84 (AllN.cons Try.func85 sc85 (AllN.cons Try.func86 sc86 (AllN.cons Try.func87 sc87 (AllN.cons Try.func88 sc88 (AllN.cons Try.func89 sc89 (AllN.cons Try.func90 sc90 (AllN.cons Try.func91 sc91 (AllN.cons Try.func92 sc92 (AllN.cons Try.func93 sc93 (AllN.cons Try.func94 sc94 (AllN.cons Try.func95 sc95 trivial))))))))))))))))
def tl6 : List (Option TC) := [some (.cf c96), none, some (.cf c98), some (.cf c99), some (.cf c100), none, none, none, none, none, none, none, none, none, none, none]
theorem ta6 : AllN Try.prog 96 tl6 := (AllN.cons Try.func96 sc96 (AllN.skip (AllN.cons Try.func98 sc98 (AllN.cons Try.func99 sc99 (AllN.cons Try.func100 sc100 (AllN.skip (AllN.skip (AllN.skip (AllN.skip (AllN.skip (AllN.skip (AllN.skip (AllN.skip (AllN.skip (AllN.skip (AllN.skip trivial))))))))))))))))
def tls : List (List (Option TC)) := [tl0, tl1, tl2, tl3, tl4, tl5, tl6]
noncomputable def TT : TB := tabn tls
theorem TT_sound : SoundN Try.prog TT := tabn_sound tls (AllNs.cons ta0 (AllNs.cons ta1 (AllNs.cons ta2 (AllNs.cons ta3 (AllNs.cons ta4 (AllNs.cons ta5 (AllNs.cons ta6 trivial)))))))
end Go.Proofs.Ytbcpcjofkfgjoaa
