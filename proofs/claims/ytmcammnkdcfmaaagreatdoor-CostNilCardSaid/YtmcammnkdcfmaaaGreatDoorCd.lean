/- Part Cd of the proof that CostNil answers true for every filter and every mood. Conditions: those that each theorem names. -/
import Derived.Test.YtmcammnkdcfmaaaGreatDoorCc
namespace Go.Proofs.YtmcammnkdcfmaaaGreatDoor.costNil
open Go.ChangeShapes Go.WideShapes Go.ChangeAt Go.WideMaps Go.WideElems Go.RowKit

theorem named : Tryz.pinned.checked.prog.funcNamed Rows.costNilRow.func = some 3 := by kernel_rfl

set_option maxRecDepth 100000 in
theorem over (main : Main) : Rows.costNilRow.holds Tryz.pinned (OpenSpec.ofChange Rows.costNilSpec) :=
  OpenClaim.holds_of_wide 3 Tryz.f3 rfl rfl rfl rfl rfl rfl rfl ⟨rfl, rfl, rfl, rfl, rfl⟩ rfl rfl rfl rfl rfl named Tryz.func3 facts
    (of_decide_eq_true (by kernel_rfl)) (by unfold Func.isWrapper; first | (rw [if_pos (by decide +kernel)]; kernel_rfl) | (rw [if_neg (by decide +kernel)]; exact ⟨rfl, rfl⟩))
    (fun os started H enc _ => lifted main os started H enc (wit os H enc))

theorem said (main : Main) : Rows.CostNilSaid := over main
end Go.Proofs.YtmcammnkdcfmaaaGreatDoor.costNil
