/- The small code of functions, printed by a program of mine; the kernel checks each against the model's code. -/
import Derived.Test.YtglghdjpkecngaaGreatSLz
import Derived.Test.YtglghdjpkecngaaGreatProg
namespace Go.Proofs.YtglghdjpkecngaaGreat
set_option linter.unusedVariables false
set_option linter.unusedSimpArgs false
open Go Go.SL Go.SL.Z
def candIRq : List TypeId := []
def ir79 : IC := (.seq (.region [(D 2 (.mov (.c .nilPtr)) .none []), (D 3 (.mov (n 0)) .none [0])]) (.seq (.seq (.region [(mv 4 0 []), (D 5 (.bin .lss (.t 4) (n 1)) .none [0]), (mv 6 5 [1]), (D 7 (.mov (.t 0)) (.some (6, false)) [2]), (D 8 (.bin .gtr (.t 7) (n 256)) (.some (6, false)) [3, 2]), (D 9 (.pick (.t 6) (.c (.bool true)) (.t 8)) .none [2, 4])]) (.cond (.t 9) (.seq (.region [(D 2 (.mov (.c .nilPtr)) .none []), (D 3 (.mov (n 1)) .none [0, 0])]) .ret) .skip)) (.seq (.region [(mv 10 0 []), (D 11 (.mkc 31274997412222 (.t 10)) .none [0]), (mv 12 0 []), (D 13 (.build [.nilChan, (.int .i64 0)] [(0, (1, (.t 11))), (1, (1, (.t 12)))]) .none [1, 2]), (D 14 (.box (.t 13)) .none [3]), (mv 2 14 [4, 0, 1, 2, 3, 4]), (D 3 (.mov (n 0)) .none [5, 0, 1, 2, 3, 4, 5])]) .ret)))
theorem ir79_ok : comp Tryz.prog candIRq Tryz.f79.ntmps (Tryz.f79.body.getD .skip) = some ir79 := by kernel_rfl
theorem ev79 : EvS Tryz.prog 79 15 [(.tmp 2), (.tmp 3)] ir79 := fun a => ev_body (c := Tryz.f79.body.getD .skip) Tryz.func79 rfl (by decide +kernel) (by kernel_rfl) ir79_ok (Nat.le_of_ble_eq_true a) (by kernel_rfl)
def ir82 : IC := (.seq (.region [(D 2 (.mov (n 0)) .none [])]) (.seq (.seq (.region [(mv 3 0 []), (D 4 (.eqp .ptr false (.t 3) (.c .nilPtr)) .none [0])]) (.cond (.t 4) (.seq (.region [(D 2 (.mov (n 0)) .none [])]) .ret) .skip)) (.seq (.region [(mv 5 0 []), (ck 6 5 [0]), (fa 7 0 6 [1]), (ld 8 7 [2]), (D 9 (.clen (.t 8)) .none [3]), (mv 2 9 [4, 4, 0, 1, 2, 3, 4])]) .ret)))
theorem ir82_ok : comp Tryz.prog candIRq Tryz.f82.ntmps (Tryz.f82.body.getD .skip) = some ir82 := by kernel_rfl
theorem ev82 : EvS Tryz.prog 82 10 [(.tmp 2)] ir82 := fun a => ev_body (c := Tryz.f82.body.getD .skip) Tryz.func82 rfl (by decide +kernel) (by kernel_rfl) ir82_ok (Nat.le_of_ble_eq_true a) (by kernel_rfl)
end Go.Proofs.YtglghdjpkecngaaGreat
