/- A symbolic executor over the model: small laws of whole numbers of 64 bits. -/
import Derived.Test.YthoodnlihbaimaaSLp
import Derived.Laws.BitsLemmas
namespace Go.SL
theorem wrap64 {z : Int} (h0 : -9223372036854775808 ≤ z) (h1 : z ≤ 9223372036854775807) : IntKind.i64.wrap z = z := by
  rw [IntKind.wrap_i64]; omega
end Go.SL
