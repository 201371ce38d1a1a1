/- Part Cf of the proof that CostNil answers true for every filter and every mood. Conditions: those that each theorem names. -/
import Derived.Test.YtmcammnkdcfmaaaGreatDoorCe
import Derived.Test.YtmcammnkdcfmaaaGreatDoorCd
import Derived.Test.YtmcammnkdcfmaaaGreatDoorCards
import Derived.Test.YtmcammnkdcfmaaaGreatDoorTie
import Derived.SevenTiedAt
namespace Go.Proofs.YtmcammnkdcfmaaaGreatDoor
open Go

/-- THE CARD: CostNil answers true for every filter and every mood. -/
theorem costNil_card : Rows.CostNilCardSaid :=
  Claim7.holds_tied_plain_at .later [] [.data, .data, .data, .data, .sentinel, .sentinel, .data, .data, .pinned, .pinned] true (true, "c398c334138da12dc6ec7f8a999c05eb31533dc50f61bebc3b0af87038c10daa") true
    (costNil.said costNil.main) (fun _ h => by cases h) (by kernel_rfl) (fun _ h => by cases h) costNil_row_tie rfl ⟨rfl, rfl⟩ (by kernel_rfl) rfl
    (fun f fn hf hfn => by
      obtain rfl : f = 3 := Option.some.inj ((show Tryz.prog.funcNamed "roster/rosterlaw17.CostNil" = some 3 by kernel_rfl).symm.trans hf) |>.symm
      obtain rfl : fn = Tryz.f3 := (Option.some.inj (Tryz.func3.symm.trans hfn)).symm
      exact ⟨by kernel_rfl, fun j t ht => by
        rw [Tryz.params3] at ht
        have hm : t ∈ [26, 31] := by simpa using Array.mem_of_getElem? ht
        have hall : ([26, 31].all fun u => !Tryz.prog.wantsStandIn u) = true := by kernel_rfl
        exact (show Tryz.prog.wantsStandIn t = false by simpa using List.all_eq_true.1 hall t hm)⟩)
    (by kernel_rfl)
end Go.Proofs.YtmcammnkdcfmaaaGreatDoor
