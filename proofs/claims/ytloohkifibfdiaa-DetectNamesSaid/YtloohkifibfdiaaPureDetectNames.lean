/- DetectNames: the printed function of the closed law answers true, with no condition. -/
import Derived.Test.YtloohkifibfdiaaPDetectNamesx2
namespace Go.Proofs.Ytloohkifibfdiaa.Pure
open Go.RowKit Go.Proofs.Ytloohkifibfdiaa.PDetectNames Go.Proofs.YtloohkifibfdiaaW.PrintWords Go.Proofs.YtloohkifibfdiaaW.PrintLast

theorem DetectNames : drawbridgelaw23_DetectNames.Pure := ⟨20, by decide +kernel⟩

end Go.Proofs.Ytloohkifibfdiaa.Pure
