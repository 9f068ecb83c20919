/- The program's first words, as letters: a long text is dear to the kernel, letters are not. What a row's closed facts ask of them. -/
import Derived.Test.YtglghdjpkecngaaGreatRows
import Derived.JoinedOf
import Derived.ProofKit
import Derived.WalkKit
namespace Go.Proofs.YtglghdjpkecngaaGreat
set_option linter.unusedVariables false
set_option linter.unusedSimpArgs false
open Go
set_option maxRecDepth 100000
def wF {α : Type} : List Char → (List Char → List (List Char) → α) → α
  | [], k => k [] []
  | c :: r, k => wF r fun w ws => match decide (c.toNat = 32) with
    | true => k [] (w :: ws)
    | false => k (c :: w) ws
theorem wF_cons {α : Type} (c : Char) (r : List Char) (k : List Char → List (List Char) → α) : wF (c :: r) k = wF r fun w ws => match decide (c.toNat = 32) with
    | true => k [] (w :: ws)
    | false => k (c :: w) ws := rfl
theorem space {c : Char} (h : c.toNat = 32) : c = Char.ofNat 32 := by
  rw [← h, Char.ofNat_toNat]
theorem wF_eq {α : Type} : ∀ (l : List Char), ∃ w ws, wordsSigns l = w :: ws ∧ ∀ k : List Char → List (List Char) → α, wF l k = k w ws
  | [] => ⟨[], [], rfl, fun _ => rfl⟩
  | c :: r => by
    obtain ⟨w, ws, h1, h2⟩ := wF_eq (α := α) r
    by_cases hc : c.toNat = 32
    · have e := space hc
      subst e
      exact ⟨[], w :: ws, by rw [← h1]; rfl, fun k => by rw [wF_cons, h2]; rfl⟩
    · refine ⟨c :: w, ws, ?_, fun k => ?_⟩
      · rw [wordsSigns, h1]
        rintro rfl
        exact hc rfl
      · rw [wF_cons, h2, decide_eq_false hc]
theorem words_eq (l : List Char) : wordsSigns l = wF l List.cons := by
  obtain ⟨w, ws, h1, h2⟩ := wF_eq (α := List (List Char)) l
  rw [h1, h2]
def firstNums : List Nat := [
  104, 97, 114, 110, 101, 115, 115, 32, 52, 51, 57, 56, 52, 52, 101, 48, 51, 53, 101, 51, 101, 48, 51, 48, 55, 97, 57, 57, 50, 50, 101, 50, 99, 55, 53, 54, 48, 57, 51, 98,
  97, 102, 56, 54, 99, 97, 53, 49, 97, 54, 97, 55, 49, 100, 100, 56, 50, 48, 100, 57, 57, 99, 57, 50, 98, 56, 55, 54, 48, 99, 99, 57, 32, 99, 117, 116, 32, 97, 116, 32,
  102, 111, 111, 116, 108, 111, 99, 107, 101, 114, 47, 102, 111, 111, 116, 108, 111, 99, 107, 101, 114, 108, 97, 119, 49, 54, 46, 76, 105, 115, 116, 76, 105, 110, 107, 115, 32, 102, 111, 111,
  116, 108, 111, 99, 107, 101, 114, 47, 102, 111, 111, 116, 108, 111, 99, 107, 101, 114, 108, 97, 119, 49, 54, 46, 76, 105, 115, 116, 78, 111, 110, 101, 32, 102, 111, 111, 116, 108, 111, 99,
  107, 101, 114, 47, 102, 111, 111, 116, 108, 111, 99, 107, 101, 114, 108, 97, 119, 49, 54, 46, 76, 105, 115, 116, 79, 110, 99, 101, 32, 102, 111, 111, 116, 108, 111, 99, 107, 101, 114, 47,
  102, 111, 111, 116, 108, 111, 99, 107, 101, 114, 108, 97, 119, 49, 54, 46, 76, 105, 115, 116, 83, 116, 117, 99, 107, 32, 102, 111, 111, 116, 108, 111, 99, 107, 101, 114, 47, 102, 111, 111,
  116, 108, 111, 99, 107, 101, 114, 108, 97, 119, 49, 54, 46, 76, 105, 115, 116, 65, 108, 111, 110, 101, 32, 102, 111, 111, 116, 108, 111, 99, 107, 101, 114, 47, 102, 111, 111, 116, 108, 111,
  99, 107, 101, 114, 108, 97, 119, 49, 54, 46, 76, 105, 115, 116, 83, 104, 97, 114, 101, 115, 32, 102, 111, 111, 116, 108, 111, 99, 107, 101, 114, 47, 102, 111, 111, 116, 108, 111, 99, 107,
  101, 114, 108, 97, 119, 49, 54, 46, 76, 105, 115, 116, 70, 117, 108, 108, 32, 102, 111, 111, 116, 108, 111, 99, 107, 101, 114, 47, 102, 111, 111, 116, 108, 111, 99, 107, 101, 114, 108, 97,
  119, 49, 54, 46, 76, 105, 115, 116, 83, 116, 101, 112, 115, 32, 102, 111, 111, 116, 108, 111, 99, 107, 101, 114, 47, 102, 111, 111, 116, 108, 111, 99, 107, 101, 114, 108, 97, 119, 49, 55,
  46, 83, 104, 101, 108, 102, 83, 112, 114, 101, 97, 100, 115, 32, 102, 111, 111, 116, 108, 111, 99, 107, 101, 114, 47, 102, 111, 111, 116, 108, 111, 99, 107, 101, 114, 108, 97, 119, 49, 55,
  46, 83, 104, 101, 108, 102, 78, 111, 110, 101, 32, 102, 111, 111, 116, 108, 111, 99, 107, 101, 114, 47, 102, 111, 111, 116, 108, 111, 99, 107, 101, 114, 108, 97, 119, 49, 55, 46, 83, 104,
  101, 108, 102, 65, 112, 97, 114, 116, 32, 102, 111, 111, 116, 108, 111, 99, 107, 101, 114, 47, 102, 111, 111, 116, 108, 111, 99, 107, 101, 114, 108, 97, 119, 49, 56, 46, 87, 111, 114, 107,
  101, 114, 80, 108, 97, 121, 115, 32, 102, 111, 111, 116, 108, 111, 99, 107, 101, 114, 47, 102, 111, 111, 116, 108, 111, 99, 107, 101, 114, 108, 97, 119, 49, 56, 46, 87, 111, 114, 107, 101,
  114, 83, 116, 101, 112, 115, 32, 102, 111, 111, 116, 108, 111, 99, 107, 101, 114, 47, 102, 111, 111, 116, 108, 111, 99, 107, 101, 114, 108, 97, 119, 49, 56, 46, 87, 111, 114, 107, 101, 114,
  67, 104, 101, 99, 107, 115, 32, 102, 111, 111, 116, 108, 111, 99, 107, 101, 114, 47, 102, 111, 111, 116, 108, 111, 99, 107, 101, 114, 108, 97, 119, 49, 56, 46, 87, 111, 114, 107, 101, 114,
  78, 111, 110, 101, 32, 102, 111, 111, 116, 108, 111, 99, 107, 101, 114, 47, 102, 111, 111, 116, 108, 111, 99, 107, 101, 114, 108, 97, 119, 49, 56, 46, 87, 111, 114, 107, 101, 114, 76, 97,
  116, 101, 114]
def firstSigns : List Char := firstNums.map Char.ofNat
theorem first_ok : Tryz.prog.initOrder = String.ofList firstSigns := by kernel_rfl
theorem first_list : Tryz.prog.initOrder.toList = firstSigns := by rw [first_ok, String.toList_ofList]
theorem w0 : behindMainWord (wordsSigns Tryz.prog.initOrder.toList) = behindMainWord (wF firstSigns List.cons) := by rw [first_list, words_eq]
theorem make_ok : Tryz.prog.make = some .cut := by unfold Program.make Program.headLifts; rw [w0]; kernel_rfl
theorem lift_ok : Tryz.prog.liftsFinal = false := by unfold Program.liftsFinal Program.headLifts; simp only [w0]; kernel_rfl
theorem may_ok : Tryz.prog.mayEnter = true := by unfold Program.mayEnter Program.doorFits; simp only [w0]; kernel_rfl
end Go.Proofs.YtglghdjpkecngaaGreat
