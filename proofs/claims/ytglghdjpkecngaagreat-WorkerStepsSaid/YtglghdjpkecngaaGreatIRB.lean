/- The small code of functions, printed by a program of mine; the kernel checks each against the model's code. -/
import Derived.Test.YtglghdjpkecngaaGreatSLz
import Derived.Test.YtglghdjpkecngaaGreatProg
namespace Go.Proofs.YtglghdjpkecngaaGreat
set_option linter.unusedVariables false
set_option linter.unusedSimpArgs false
open Go Go.SL Go.SL.Z
def candIRB : List TypeId := []
def ir36 : IC := (.seq (.region [(D 8 (.new [(.int .i64 0), (.int .i64 0), (.int .i64 0), (.int .i64 0), (.int .i64 0), (.int .i64 0), (.int .i64 0), .nilPtr, (.int .i64 0)]) .none []), (D 9 (.mov (.c (.bool false))) .none [])]) (.seq (.region [(mv 13 0 []), (mv 14 1 []), (mv 15 2 []), (mv 16 3 []), (D 17 (.build [(.int .i64 0), (.int .i64 0), (.int .i64 0), (.int .i64 0), (.int .i64 0), (.int .i64 0), (.int .i64 0)] [(0, (1, (.t 13))), (1, (1, (.t 14))), (2, (1, (.t 15))), (3, (1, (.t 16))), (4, (1, (n 100))), (5, (1, (n 600))), (6, (1, (n 3)))]) .none [0, 1, 2, 3]), (D 10 (.new [(.int .i64 0), (.int .i64 0), (.int .i64 0), (.int .i64 0), (.int .i64 0), (.int .i64 0), (.int .i64 0)]) .none []), (U (.st 7 (.t 10) (.t 17)) .none [5, 4, 0, 1, 2, 3, 4, 5])]) (.seq (.region [(D 19 (.ld 7 true (.t 10)) .none []), (D 20 (.call 75 [(.t 19)]) .none [0]), (mv 18 20 [1]), (D 21 (.ext (.t 18) 0) .none [2]), (D 22 (.ext (.t 18) 1) .none [2]), (mv 11 21 [3, 1, 0, 1, 2, 3]), (mv 12 22 [4, 5, 0, 1, 2, 3, 4, 5])]) (.seq (.region [(D 23 (.ld 7 true (.t 10)) .none []), (mv 24 11 []), (D 25 (.build [(.int .i64 0), (.int .i64 0), (.int .i64 0), (.int .i64 0), (.int .i64 0), (.int .i64 0), (.int .i64 0), .nilPtr, (.int .i64 0)] [(0, (7, (.t 23))), (7, (1, (.t 24)))]) .none [0, 1]), (mv 26 12 []), (D 27 (.bin .eql (.t 26) (n 0)) .none [3]), (U (.st 9 (.t 8) (.t 25)) .none [2, 0, 1, 2]), (mv 9 27 [4, 5, 0, 1, 2, 3, 4, 5])]) .ret))))
theorem ir36_ok : comp Tryz.prog candIRB Tryz.f36.ntmps (Tryz.f36.body.getD .skip) = some ir36 := by kernel_rfl
theorem ev36 : EvS Tryz.prog 36 28 [(.cell 8 9 true), (.tmp 9)] ir36 := fun a => ev_body (c := Tryz.f36.body.getD .skip) Tryz.func36 rfl (by decide +kernel) (by kernel_rfl) ir36_ok (Nat.le_of_ble_eq_true a) (by kernel_rfl)
end Go.Proofs.YtglghdjpkecngaaGreat
