/- A symbolic executor over the model: small laws of whole numbers of 64 bits. -/
import Derived.Test.YtglghdjpkecngaaGreatSLp
import Derived.Laws.BitsLemmas
namespace Go.SL
end Go.SL
