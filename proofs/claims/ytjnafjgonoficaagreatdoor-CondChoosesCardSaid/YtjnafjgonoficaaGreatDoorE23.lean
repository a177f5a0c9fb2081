/-
  CondChooses as a row: for every input the law returns true and leaves the input alone. Conditions: the listed variables of Go's library are as listed.
-/
import Derived.Test.YtjnafjgonoficaaGreatDoorE22
namespace Go.Proofs.YtjnafjgonoficaaGreatDoor
open Go.ChangeShapes Go.WideShapes Go.ChangeAt Go.RowKit Go.WideMaps Go.WideElems
set_option linter.unusedVariables false
set_option linter.unusedSimpArgs false
theorem chooses_row : Rows.CondChoosesSaid :=
  OpenClaim.holds_of_wide 7 Tryz.f7 rfl rfl rfl rfl rfl rfl rfl ⟨rfl, rfl, rfl, rfl, rfl⟩ rfl rfl rfl rfl rfl (by kernel_rfl) Tryz.func7 (by kernel_rfl)
    (of_decide_eq_true (by kernel_rfl)) (by unfold Func.isWrapper; first | (rw [if_pos (by decide +kernel)]; kernel_rfl) | (rw [if_neg (by decide +kernel)]; exact ⟨rfl, rfl⟩))
    (fun os started H enc _ => chooses_lifted os started H enc)
end Go.Proofs.YtjnafjgonoficaaGreatDoor
