/- shelf: the law's own wake. -/
import Derived.Test.YtmkoagmnkogeoaaIRs
namespace Go.Proofs.Ytmkoagmnkogeoaa
set_option linter.unusedVariables false
set_option linter.unusedSimpArgs false
open Go Go.SL
set_option maxRecDepth 100000
theorem awake17_yes {W0 : World} : Ev Try.prog W0 6 [] [] (fun u U => u = .bool true ∧ U = []) := Ev.yes0 tabIRs_ok (fl := 1000) (n := 100) (by kernel_rfl)
end Go.Proofs.Ytmkoagmnkogeoaa
