/- Regions that draw their order and hold calls that make memory: all but the calls is taken first; what holds of the memory is carried from call to call. -/
import Derived.Test.YtcdjbfgkajfnlaaDoorWd
import Derived.OrdersHeld
import Derived.Deep.RegionHeld
namespace Go.Proofs.YtcdjbfgkajfnlaaDoor
open Go.RowKit

section
variable {P : Program} {ops : Array Oper} {Q : Exit → Act → World → Prop} {md : Region.Mode}
theorem wpAnyH_to {S S' : World → Prop} (h : ∀ W, S' W → S W) : ∀ (fuel : Nat) (listed : Array Bool) (a : Act) (w : World), wpAnyH P md ops Q S' fuel listed a w → wpAnyH P md ops Q S fuel listed a w
  | 0, _, _, _, k => k
  | fuel + 1, _, _, _, k => ⟨k.1, fun i hi => wpOp_mono (fun a' w' k' => ⟨h w' k'.1, wpAnyH_to h fuel _ a' w' k'.2⟩) (k.2 i hi)⟩
end
/-- What stood at b stands. -/
def SB (b W : World) : Prop := Below b.heap.size b W
theorem SB.here (b : World) : SB b b := Below.refl _ _
theorem SB.of {b w w' : World} (h : SB b w) (k : Below w.heap.size w w') : SB b w' := Below.trans h (k.mono h.size)
theorem SB.mono {b w w' W : World} (h : SB w' W) (k : SB b w) (j : Below w.heap.size w w') : SB b W := (k.of j).of h
end Go.Proofs.YtcdjbfgkajfnlaaDoor
