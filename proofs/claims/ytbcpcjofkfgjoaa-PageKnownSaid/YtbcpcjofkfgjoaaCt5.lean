/- A closed function is true in every world. No condition. -/
import Derived.Test.YtbcpcjofkfgjoaaCf
namespace Go.Proofs.Ytbcpcjofkfgjoaa
theorem ct5 : runT TT 60 c5 = true := by kernel_rfl
theorem closed5 (w : World) : Calls Try.prog 5 #[] w (fun en w' => en = .returned (.bool true) ∧ Quietly w w') := Calls.evTT (by kernel_rfl) TT_sound 60 5 (by kernel_rfl) ct5 w
end Go.Proofs.Ytbcpcjofkfgjoaa
