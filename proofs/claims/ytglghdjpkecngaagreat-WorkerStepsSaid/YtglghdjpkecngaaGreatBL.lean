/- shelf: awake; a fresh shelf. -/
import Derived.Test.YtglghdjpkecngaaGreatBK
namespace Go.Proofs.YtglghdjpkecngaaGreat
set_option linter.unusedVariables false
set_option linter.unusedSimpArgs false
open Go Go.SL Go.FL
set_option maxRecDepth 100000
end Go.Proofs.YtglghdjpkecngaaGreat
