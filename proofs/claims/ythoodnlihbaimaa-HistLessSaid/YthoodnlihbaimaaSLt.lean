/- A symbolic executor over the model: small laws of whole numbers of 64 bits. -/
import Derived.Test.YthoodnlihbaimaaSLp
import Derived.Laws.BitsLemmas
namespace Go.SL
theorem wrap64 {z : Int} (h0 : -9223372036854775808 ≤ z) (h1 : z ≤ 9223372036854775807) : IntKind.i64.wrap z = z := by
  rw [IntKind.wrap_i64]; omega
theorem wrap64_lt (z : Int) : -9223372036854775808 ≤ IntKind.i64.wrap z ∧ IntKind.i64.wrap z ≤ 9223372036854775807 := by
  rw [IntKind.wrap_i64]; omega
/-- A mask: what is left. -/
theorem and_mask (x : Int) (m : Nat) (h : m < 9223372036854775808) : ∃ n : Nat, n ≤ m ∧ arith .and .i64 x m = n := by
  refine ⟨(BitVec.ofInt 64 x &&& BitVec.ofInt 64 m).toNat, ?_, ?_⟩
  · rw [BitVec.toNat_and]
    refine Nat.le_trans Nat.and_le_right ?_
    rw [BitVec.toNat_ofInt]
    omega
  · have : (BitVec.ofInt 64 x &&& BitVec.ofInt 64 m).toNat ≤ m := by
      rw [BitVec.toNat_and]
      refine Nat.le_trans Nat.and_le_right ?_
      rw [BitVec.toNat_ofInt]
      omega
    exact wrap64 (by omega) (by show ((BitVec.ofInt 64 x &&& BitVec.ofInt 64 (m : Int)).toNat : Int) ≤ _; omega)
theorem tmod_lt (x : Int) (m : Nat) (h : 0 < m) : -(m : Int) < x.tmod m ∧ x.tmod m < m := by
  refine ⟨?_, Int.tmod_lt_of_pos x (by omega)⟩
  have := Int.tmod_lt_of_pos (-x) (b := (m : Int)) (by omega)
  rw [Int.neg_tmod] at this
  omega
end Go.SL
