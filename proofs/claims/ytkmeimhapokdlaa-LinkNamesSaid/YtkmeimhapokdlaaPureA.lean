/- LinkNames: the plain law. -/
import Derived.Test.YtkmeimhapokdlaaFns
set_option linter.unusedVariables false
set_option linter.unusedSimpArgs false
namespace Go.Proofs.Ytkmeimhapokdlaa.Ae
open Go
theorem G9_eq : G9 () = (true, (true, ()), ()) := by kernel_rfl
theorem names : runD (cx6 G11 G27 G26 G21 G9 G28 0) (fnOf 6) (body 6) K6a K6o () = some (true, ()) := (eq6 G11 G27 G26 G21 G9 G28 0).trans (by kernel_rfl)
end Go.Proofs.Ytkmeimhapokdlaa.Ae
