/- The program's first words, as letters: a long text is dear to the kernel, letters are not. What a row's closed facts ask of them. -/
import Derived.Test.YthoodnlihbaimaaRows
import Derived.JoinedOf
import Derived.ProofKit
import Derived.WalkKit
namespace Go.Proofs.Ythoodnlihbaimaa
set_option linter.unusedVariables false
set_option linter.unusedSimpArgs false
open Go
set_option maxRecDepth 100000
def wF {α : Type} : List Char → (List Char → List (List Char) → α) → α
  | [], k => k [] []
  | c :: r, k => wF r fun w ws => match decide (c.toNat = 32) with
    | true => k [] (w :: ws)
    | false => k (c :: w) ws
theorem wF_cons {α : Type} (c : Char) (r : List Char) (k : List Char → List (List Char) → α) : wF (c :: r) k = wF r fun w ws => match decide (c.toNat = 32) with
    | true => k [] (w :: ws)
    | false => k (c :: w) ws := rfl
theorem space {c : Char} (h : c.toNat = 32) : c = Char.ofNat 32 := by
  rw [← h, Char.ofNat_toNat]
theorem wF_eq {α : Type} : ∀ (l : List Char), ∃ w ws, wordsSigns l = w :: ws ∧ ∀ k : List Char → List (List Char) → α, wF l k = k w ws
  | [] => ⟨[], [], rfl, fun _ => rfl⟩
  | c :: r => by
    obtain ⟨w, ws, h1, h2⟩ := wF_eq (α := α) r
    by_cases hc : c.toNat = 32
    · have e := space hc
      subst e
      exact ⟨[], w :: ws, by rw [← h1]; rfl, fun k => by rw [wF_cons, h2]; rfl⟩
    · refine ⟨c :: w, ws, ?_, fun k => ?_⟩
      · rw [wordsSigns, h1]
        rintro rfl
        exact hc rfl
      · rw [wF_cons, h2, decide_eq_false hc]
theorem words_eq (l : List Char) : wordsSigns l = wF l List.cons := by
  obtain ⟨w, ws, h1, h2⟩ := wF_eq (α := List (List Char)) l
  rw [h1, h2]
def firstNums : List Nat := [
  104, 97, 114, 110, 101, 115, 115, 32, 99, 97, 49, 51, 101, 51, 48, 98, 53, 55, 48, 54, 101, 53, 100, 97, 99, 101, 97, 50, 56, 100, 99, 52, 55, 102, 54, 97, 49, 102, 48, 48,
  52, 54, 55, 57, 51, 98, 97, 100, 57, 53, 48, 57, 50, 50, 98, 98, 57, 98, 55, 102, 49, 57, 100, 102, 98, 52, 57, 97, 51, 100, 57, 101, 32, 99, 117, 116, 32, 97, 116, 32,
  102, 111, 111, 116, 108, 111, 99, 107, 101, 114, 47, 102, 111, 111, 116, 108, 111, 99, 107, 101, 114, 108, 97, 119, 50, 48, 46, 72, 105, 115, 116, 79, 114, 100, 101, 114, 32, 102, 111, 111,
  116, 108, 111, 99, 107, 101, 114, 47, 102, 111, 111, 116, 108, 111, 99, 107, 101, 114, 108, 97, 119, 50, 48, 46, 72, 105, 115, 116, 87, 105, 116, 104, 105, 110, 32, 102, 111, 111, 116, 108,
  111, 99, 107, 101, 114, 47, 102, 111, 111, 116, 108, 111, 99, 107, 101, 114, 108, 97, 119, 50, 48, 46, 72, 105, 115, 116, 84, 105, 109, 101, 32, 102, 111, 111, 116, 108, 111, 99, 107, 101,
  114, 47, 102, 111, 111, 116, 108, 111, 99, 107, 101, 114, 108, 97, 119, 50, 48, 46, 72, 105, 115, 116, 76, 101, 115, 115, 32, 102, 111, 111, 116, 108, 111, 99, 107, 101, 114, 47, 102, 111,
  111, 116, 108, 111, 99, 107, 101, 114, 108, 97, 119, 49, 57, 46, 77, 111, 100, 101, 108, 82, 111, 111, 109, 32, 102, 111, 111, 116, 108, 111, 99, 107, 101, 114, 47, 102, 111, 111, 116, 108,
  111, 99, 107, 101, 114, 108, 97, 119, 49, 57, 46, 77, 111, 100, 101, 108, 78, 111, 110, 101, 32, 102, 111, 111, 116, 108, 111, 99, 107, 101, 114, 47, 102, 111, 111, 116, 108, 111, 99, 107,
  101, 114, 108, 97, 119, 49, 57, 46, 77, 111, 100, 101, 108, 65, 112, 97, 114, 116]
def firstSigns : List Char := firstNums.map Char.ofNat
theorem first_ok : Try.prog.initOrder = String.ofList firstSigns := by kernel_rfl
theorem first_list : Try.prog.initOrder.toList = firstSigns := by rw [first_ok, String.toList_ofList]
theorem w0 : behindMainWord (wordsSigns Try.prog.initOrder.toList) = behindMainWord (wF firstSigns List.cons) := by rw [first_list, words_eq]
theorem make_ok : Try.prog.make = some .cut := by unfold Program.make Program.headLifts; rw [w0]; kernel_rfl
theorem lift_ok : Try.prog.liftsFinal = false := by unfold Program.liftsFinal Program.headLifts; simp only [w0]; kernel_rfl
theorem may_ok : Try.prog.mayEnter = true := by unfold Program.mayEnter Program.doorFits; simp only [w0]; kernel_rfl
end Go.Proofs.Ythoodnlihbaimaa
