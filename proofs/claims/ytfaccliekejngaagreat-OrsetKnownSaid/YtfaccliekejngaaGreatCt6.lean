/- A closed function is true in every world. No condition. -/
import Derived.Test.YtfaccliekejngaaGreatCf
namespace Go.Proofs.YtfaccliekejngaaGreat
theorem ct6 : runT TT 60 c6 = true := by kernel_rfl
theorem closed6 (w : World) : Calls Tryz.prog 6 #[] w (fun en w' => en = .returned (.bool true) ∧ Quietly w w') := Calls.evTT (by kernel_rfl) TT_sound 60 6 (by kernel_rfl) ct6 w
end Go.Proofs.YtfaccliekejngaaGreat
