/- A closed function is true in every world. No condition. -/
import Derived.Test.YtpoojfnmhnedpaaCf
namespace Go.Proofs.Ytpoojfnmhnedpaa
theorem ct5 : isT (evF TT 60 c5 (List.replicate c5.ntmps (.tu [])) []) = true := by kernel_rfl
theorem closed5 (w : World) : Calls Try.prog 5 #[] w (fun en w' => en = .returned (.bool true) ∧ Quietly w w') := Calls.evT (by kernel_rfl) TT_sound 60 5 (by kernel_rfl) ct5 w
end Go.Proofs.Ytpoojfnmhnedpaa
