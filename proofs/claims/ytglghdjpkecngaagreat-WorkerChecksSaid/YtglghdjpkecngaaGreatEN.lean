/- worker: which calls may be, whoever hands them in. -/
import Derived.Test.YtglghdjpkecngaaGreatEL
import Derived.Test.YtglghdjpkecngaaGreatIRY
namespace Go.Proofs.YtglghdjpkecngaaGreat
set_option linter.unusedVariables false
set_option linter.unusedSimpArgs false
open Go Go.SL Go.FL
set_option maxRecDepth 100000
theorem badCall_all {n : Nat} (c : CallS) (k : Nat) : (List.replicate k c).any (badCall n) = (decide (k ≠ 0) && badCall n c) := by
  cases k with
  | zero => rfl
  | succ k =>
    rw [Bool.eq_iff_iff]
    simp [List.any_eq_true, List.mem_replicate]
/-- What may be, as the law has it. -/
theorem checkCall_eq (c : CallS) : checkCall c = ((decide (c.kind ≥ 1) && decide (c.kind ≤ 5) && (decide (c.value ≥ 0) && decide (c.value ≤ 1099511627775) && decide (c.old ≥ 0) && decide (c.old ≤ 1099511627775))) || (decide (c.kind ≥ 6) && decide (c.kind ≤ 8) && decide (c.key ≥ 0) && decide (c.key < 1073741824))) := by
  obtain ⟨k, z, w, a, r, i, x, y, ke⟩ := c
  unfold checkCall
  have e1 : checkAct (FL.actOf ⟨k, z, w, a, r, i, x, y, ke⟩ 0) = (decide (k ≥ 1) && decide (k ≤ 5) && (decide (x ≥ 0) && decide (x ≤ 1099511627775) && decide (y ≥ 0) && decide (y ≤ 1099511627775))) := rfl
  rw [e1]
  simp only [checkList]
  rw [Bool.eq_iff_iff]
  have hR : ∀ {A B : Prop}, (A → B) → (B → A) → (A ↔ B) := fun a b => ⟨a, b⟩
  by_cases h1 : k < 1 ∨ 8 < k
  · rw [if_pos h1]; simp only [Bool.or_eq_true, Bool.and_eq_true, decide_eq_true_eq, Bool.false_eq_true, false_iff]; omega
  · rw [if_neg h1]
    by_cases h6 : 6 ≤ k
    · rw [if_pos h6]; simp only [Bool.or_eq_true, Bool.and_eq_true, decide_eq_true_eq]; omega
    · rw [if_neg h6]; simp only [Bool.or_eq_true, Bool.and_eq_true, decide_eq_true_eq]; omega
end Go.Proofs.YtglghdjpkecngaaGreat
