/- Part K3 of the proof that CostNil answers true for every filter and every mood. Conditions: those that each theorem names. -/
import Derived.Test.YtmcammnkdcfmaaaGreatDoorK1
import Derived.Test.YtmcammnkdcfmaaaGreatDoorEvE
namespace Go.Ev
open Go.Proofs
theorem t2 : isTrue (evKF Tryz.prog 13 X0 3000 5 [] st0) = true := by kernel_rfl
end Go.Ev
