/- Links, plainly. No program in sight. -/
import Derived.Test.YtglghdjpkecngaaGreatAX
namespace Go.FL
set_option linter.unusedVariables false
set_option linter.unusedSimpArgs false
open Go Go.SL
theorem and32 (a : Nat) : a &&& 4294967295 = a % 4294967296 := Nat.and_two_pow_sub_one_eq_mod a 32
theorem or32 {a : Nat} (h : a < 4294967296) : a ||| 4294967296 = a + 4294967296 := by
  have := Nat.two_pow_add_eq_or_of_lt (i := 32) (b := a) (by simpa using h) 1
  rw [Nat.or_comm]
  simp only [Nat.mul_one] at this
  rw [show (4294967296 : Nat) = 2 ^ 32 from rfl, ← this]; omega
theorem andP (a : Nat) : a &&& 4294967296 = a / 4294967296 % 2 * 4294967296 := by
  have h : a / 4294967296 % 2 < 2 := Nat.mod_lt _ (by decide)
  apply Nat.eq_of_testBit_eq
  intro i
  rw [Nat.testBit_and, show (4294967296 : Nat) = 2 ^ 32 from rfl, Nat.testBit_two_pow, Nat.mul_comm]
  rw [Nat.testBit_two_pow_mul]
  by_cases hi : 32 = i
  · subst hi
    have e : a.testBit 32 = decide (a / 2 ^ 32 % 2 = 1) := Nat.testBit_eq_decide_div_mod_eq
    simp [e, Nat.testBit_zero]
  · by_cases hi2 : 32 ≤ i
    · have h1 : (a / 2 ^ 32 % 2).testBit (i - 32) = false := by
        apply Nat.testBit_lt_two_pow
        have : 2 ≤ 2 ^ (i - 32) := by
          have := Nat.pow_le_pow_right (n := 2) (by decide) (show 1 ≤ i - 32 by omega)
          simpa using this
        exact Nat.lt_of_lt_of_le h this
      simp [hi, h1]
    · simp [hi, hi2]
theorem putLink_nat (N : Nat) (g : Bool) : ∃ p : Nat, putLink N g = (p : Int) ∧ p = N % 4294967296 + (if g then 4294967296 else 0) := by
  have h : N % 4294967296 < 4294967296 := Nat.mod_lt _ (by decide)
  cases g with
  | true => exact ⟨N &&& 4294967295 ||| 4294967296, rfl, by rw [and32, or32 h]; simp⟩
  | false => exact ⟨N &&& 4294967295, rfl, by rw [and32]; simp⟩
theorem u64i_nat {p : Nat} (h : p < 18446744073709551616) : u64i (p : Int) = p := by unfold u64i; omega
theorem link_put {N : Nat} (h : N < 4294967296) (g : Bool) : linkNext (putLink N g) = N ∧ linkGone (putLink N g) = g := by
  obtain ⟨p, hp, e⟩ := putLink_nat N g
  rw [hp]
  unfold linkNext linkGone
  cases g
  all_goals
    simp only [Bool.false_eq_true, if_false, if_true] at e
    rw [u64i_nat (by omega), and32, andP]
    refine ⟨by omega, ?_⟩
  · have : p / 4294967296 % 2 * 4294967296 = 0 := by omega
    rw [this]; rfl
  · have : p / 4294967296 % 2 * 4294967296 = 4294967296 := by omega
    rw [this]; rfl
theorem put_link {V : Nat} (h : V < 8589934592) : putLink (linkNext V) (linkGone V) = V := by
  obtain ⟨p, hp, e⟩ := putLink_nat (linkNext V) (linkGone V)
  rw [hp, e]
  unfold linkNext linkGone
  rw [u64i_nat (by omega), and32, andP]
  by_cases hv : V / 4294967296 % 2 = 0
  · rw [hv]; simp; omega
  · have h1 : V / 4294967296 % 2 = 1 := by omega
    rw [h1, show (!Nat.beq (1 * 4294967296) 0) = true from rfl, if_pos rfl]; omega
theorem put_le (N : Nat) (g : Bool) : putLink N g ≤ 1099511627775 := by
  obtain ⟨p, hp, e⟩ := putLink_nat N g
  rw [hp]
  cases g <;> simp at e <;> omega
end Go.FL
