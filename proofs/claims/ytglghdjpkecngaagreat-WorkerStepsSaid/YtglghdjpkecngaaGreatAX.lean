/- Arithmetic of words: what the model's operations come to on numbers that are not below 0. No program in sight. -/
import Derived.Test.YtglghdjpkecngaaGreatAE
namespace Go.FL
set_option linter.unusedVariables false
set_option linter.unusedSimpArgs false
open Go Go.SL

theorem u64w (n : Int) : IntKind.u64.wrap n = n % 18446744073709551616 := by simp [IntKind.wrap, IntKind.bits, IntKind.signed]
theorem i64w (n : Int) : IntKind.i64.wrap n = (n + 9223372036854775808) % 18446744073709551616 - 9223372036854775808 := by
  simp only [IntKind.wrap, IntKind.bits, IntKind.signed]
  simp
  split <;> omega
theorem w64_id {z : Int} (h0 : -9223372036854775808 ≤ z) (h1 : z ≤ 9223372036854775807) : IntKind.i64.wrap z = z := by rw [i64w]; omega
theorem w64_addl (a b : Int) : IntKind.i64.wrap (IntKind.i64.wrap a + b) = IntKind.i64.wrap (a + b) := by simp only [i64w]; omega
theorem w64_addr (a b : Int) : IntKind.i64.wrap (a + IntKind.i64.wrap b) = IntKind.i64.wrap (a + b) := by simp only [i64w]; omega
theorem and_mod {w m : Nat} (hm : m < 2 ^ 64) : w % 2 ^ 64 &&& m = w &&& m := by
  apply Nat.eq_of_testBit_eq
  intro i
  rw [Nat.testBit_and, Nat.testBit_and, Nat.testBit_mod_two_pow]
  by_cases h : i < 64
  · simp [h]
  · have : m.testBit i = false := Nat.testBit_lt_two_pow (Nat.lt_of_lt_of_le hm (Nat.pow_le_pow_right (by omega) (by omega)))
    simp [this]
theorem and64 {w m : Nat} (hm : m < 18446744073709551616) : arith .and .u64 w m = ((w &&& m : Nat) : Int) := by
  have e : (BitVec.ofInt 64 (w : Int) &&& BitVec.ofInt 64 (m : Int)).toNat = w &&& m := by
    simp only [BitVec.toNat_and, BitVec.ofInt_natCast, BitVec.toNat_ofNat]
    rw [Nat.mod_eq_of_lt (a := m) (by omega)]
    exact and_mod (by omega)
  have h : w &&& m ≤ m := Nat.and_le_right
  show IntKind.u64.wrap _ = _
  rw [show IntKind.u64.bits = 64 from rfl, e, u64w]; omega
theorem or64 {a b : Nat} (ha : a < 18446744073709551616) (hb : b < 18446744073709551616) : arith .or .u64 a b = ((a ||| b : Nat) : Int) := by
  have e : (BitVec.ofInt 64 (a : Int) ||| BitVec.ofInt 64 (b : Int)).toNat = a ||| b := by
    simp only [BitVec.toNat_or, BitVec.ofInt_natCast, BitVec.toNat_ofNat]
    rw [Nat.mod_eq_of_lt (a := a) (by omega), Nat.mod_eq_of_lt (a := b) (by omega)]
  have h : a ||| b < 2 ^ 64 := Nat.or_lt_two_pow (by omega) (by omega)
  show IntKind.u64.wrap _ = _
  rw [show IntKind.u64.bits = 64 from rfl, e, u64w]; omega
theorem shl64 {a : Nat} {k : Nat} (hk : k ≤ 64) (h : a * 2 ^ k < 18446744073709551616) : arith .shl .u64 a k = ((a <<< k : Nat) : Int) := by
  show IntKind.u64.wrap ((a : Int) * 2 ^ min (k : Int).toNat 64) = _
  rw [Int.toNat_natCast, Nat.min_eq_left hk, u64w, Nat.shiftLeft_eq]
  have : ((a : Int) * 2 ^ k) = ((a * 2 ^ k : Nat) : Int) := by push_cast; rfl
  rw [this]; omega
theorem shr64 {a : Nat} {k : Nat} (hk : k ≤ 64) : arith .shr .u64 a k = ((a >>> k : Nat) : Int) := by
  show (a : Int).fdiv (2 ^ min (k : Int).toNat 64) = _
  rw [Int.toNat_natCast, Nat.min_eq_left hk, Nat.shiftRight_eq_div_pow]
  have : (2 : Int) ^ k = ((2 ^ k : Nat) : Int) := by push_cast; rfl
  rw [this, Int.fdiv_eq_ediv_of_nonneg _ (Int.natCast_nonneg _), Int.natCast_ediv]
theorem wrap_and {x m : Nat} (hm : m < 9223372036854775808) : IntKind.i64.wrap ((x &&& m : Nat) : Int) = ((x &&& m : Nat) : Int) := by
  have h : x &&& m ≤ m := Nat.and_le_right
  exact w64_id (by omega) (by omega)
theorem ofInt64 (n : Int) : (BitVec.ofInt 64 n).toNat = u64i n := by
  rw [BitVec.toNat_ofInt]; rfl
theorem andI {n : Int} {m : Nat} (hm : m < 9223372036854775808) : arith .and .i64 n m = ((u64i n &&& m : Nat) : Int) := by
  have h : u64i n &&& m ≤ m := Nat.and_le_right
  show IntKind.i64.wrap ((BitVec.ofInt 64 n &&& BitVec.ofInt 64 (m : Int)).toNat : Int) = _
  rw [BitVec.toNat_and, ofInt64, ofInt64]
  have : u64i (m : Int) = m := by unfold u64i; omega
  rw [this]
  exact w64_id (by omega) (by omega)
theorem orN {a b : Nat} (ha : a < 9223372036854775808) (hb : b < 9223372036854775808) : arith .or .i64 a b = ((a ||| b : Nat) : Int) := by
  have h : a ||| b < 2 ^ 63 := Nat.or_lt_two_pow (by omega) (by omega)
  show IntKind.i64.wrap ((BitVec.ofInt 64 (a : Int) ||| BitVec.ofInt 64 (b : Int)).toNat : Int) = _
  rw [BitVec.toNat_or, ofInt64, ofInt64]
  have e1 : u64i (a : Int) = a := by unfold u64i; omega
  have e2 : u64i (b : Int) = b := by unfold u64i; omega
  rw [e1, e2]
  exact w64_id (by omega) (by omega)
theorem and64o {w m : Nat} (hm : m < 18446744073709551616) : arith .and .u64 (w : Int) (@OfNat.ofNat Int m instOfNat) = ((w &&& m : Nat) : Int) := and64 hm
theorem shl64o {a k c : Nat} (hk : k ≤ 64) (h : a ≤ c) (hc : c * 2 ^ k < 18446744073709551616) : arith .shl .u64 (a : Int) (@OfNat.ofNat Int k instOfNat) = ((a <<< k : Nat) : Int) := shl64 hk (Nat.lt_of_le_of_lt (Nat.mul_le_mul_right _ h) hc)
theorem shr64o {a k : Nat} (hk : k ≤ 64) : arith .shr .u64 (a : Int) (@OfNat.ofNat Int k instOfNat) = ((a >>> k : Nat) : Int) := shr64 hk
theorem shl_lt {a k b c : Nat} (h : a ≤ c) (hc : c * 2 ^ k < b) : a <<< k < b := by rw [Nat.shiftLeft_eq]; exact Nat.lt_of_le_of_lt (Nat.mul_le_mul_right _ h) hc
theorem or_lt {a b : Nat} (ha : a < 18446744073709551616) (hb : b < 18446744073709551616) : a ||| b < 18446744073709551616 := Nat.or_lt_two_pow (n := 64) (by omega) (by omega)
theorem beq_nat (a b : Nat) : ((a : Int) == (b : Int)) = Nat.beq a b := by
  cases h : Nat.beq a b with
  | true => have := Nat.eq_of_beq_eq_true h; subst this; simp
  | false =>
    have : a ≠ b := by rintro rfl; rw [Nat.beq_refl] at h; cases h
    simp; omega
theorem beq_nato (a k : Nat) : ((a : Int) == (@OfNat.ofNat Int k instOfNat)) = Nat.beq a k := beq_nat a k
theorem bne_nato (a k : Nat) : ((a : Int) != (@OfNat.ofNat Int k instOfNat)) = !Nat.beq a k := by rw [bne, beq_nato]
theorem beq_true {a b : Nat} : Nat.beq a b = true ↔ a = b := ⟨Nat.eq_of_beq_eq_true, by rintro rfl; exact Nat.beq_refl a⟩
theorem beq_false {a b : Nat} : Nat.beq a b = false ↔ a ≠ b := by
  cases h : Nat.beq a b with
  | true => simp [Nat.eq_of_beq_eq_true h]
  | false => simp; rintro rfl; rw [Nat.beq_refl] at h; cases h
theorem cfix (n : Nat) : @NatCast.natCast Int instNatCastInt n = Int.ofNat n := rfl
theorem fitN_le (n : Int) (m : Nat) : fitN n m ≤ m := Nat.min_le_right _ _
theorem andIo {n : Int} {m : Nat} (hm : m < 9223372036854775808) : arith .and .i64 n (@OfNat.ofNat Int m instOfNat) = ((u64i n &&& m : Nat) : Int) := andI hm
theorem orNo {a k : Nat} (ha : a < 9223372036854775808) (hb : k < 9223372036854775808) : arith .or .i64 (a : Int) (@OfNat.ofNat Int k instOfNat) = ((a ||| k : Nat) : Int) := orN ha hb
theorem or64o {a k : Nat} (ha : a < 18446744073709551616) (hb : k < 18446744073709551616) : arith .or .u64 (a : Int) (@OfNat.ofNat Int k instOfNat) = ((a ||| k : Nat) : Int) := or64 ha hb
end Go.FL
