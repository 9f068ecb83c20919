/- Stable merges, plainly: where two rising lists may be cut. No program in sight. -/
import Derived.Test.YthoodnlihbaimaaHF
namespace Go.FL
section
variable {α : Type} (k : α → Int)
theorem srt_get {l : List α} (h : Srt k l) : ∀ {i j : Nat} {x y : α}, i ≤ j → l[i]? = some x → l[j]? = some y → k x ≤ k y := by
  induction l with
  | nil => intro i j x y _ h1; simp at h1
  | cons a l ih =>
    intro i j x y hij h1 h2
    cases i with
    | zero =>
      simp only [List.getElem?_cons_zero, Option.some.injEq] at h1
      subst h1
      cases j with
      | zero => simp only [List.getElem?_cons_zero, Option.some.injEq] at h2; subst h2; exact Int.le_refl _
      | succ j => exact h.1 y (List.mem_of_getElem? (by simpa using h2))
    | succ i =>
      cases j with
      | zero => omega
      | succ j => exact ih h.2 (i := i) (j := j) (by omega) (by simpa using h1) (by simpa using h2)
theorem srt_take {l : List α} (h : Srt k l) {i : Nat} {z w : α} (hz : z ∈ l.take i) (hw : l[i - 1]? = some w) : k z ≤ k w := by
  obtain ⟨n, hn⟩ := List.mem_iff_getElem?.1 hz
  rw [List.getElem?_take] at hn
  split at hn
  · exact srt_get k h (by omega) hn hw
  · cases hn
theorem srt_drop {l : List α} (h : Srt k l) {i : Nat} {z w : α} (hz : z ∈ l.drop i) (hw : l[i]? = some w) : k w ≤ k z := by
  obtain ⟨n, hn⟩ := List.mem_iff_getElem?.1 hz
  rw [List.getElem?_drop] at hn
  exact srt_get k h (by omega) hw hn
theorem srt_takes {l : List α} (h : Srt k l) (i : Nat) : Srt k (l.take i) ∧ Srt k (l.drop i) := by
  have := h
  rw [← List.take_append_drop i l] at this
  have := (srt_app k).1 this
  exact ⟨this.1, this.2.1⟩
/-- Where two rising lists may be cut, so that their merge is that of the parts. -/
theorem mg_cut {X Y : List α} (hX : Srt k X) (hY : Srt k Y) (i j : Nat)
    (h1 : ∀ x y, 0 < i → X[i - 1]? = some x → Y[j]? = some y → k x ≤ k y) (h2 : ∀ x y, 0 < j → Y[j - 1]? = some y → X[i]? = some x → k y < k x) (hi : i ≤ X.length) (hj : j ≤ Y.length) :
    mg k X Y = mg k (X.take i) (Y.take j) ++ mg k (X.drop i) (Y.drop j) := by
  have h := mg_split k (X.take i) (Y.take j) (X.drop i) (Y.drop j) ?_ ?_
  · rw [List.take_append_drop, List.take_append_drop] at h; exact h
  · intro x hx y hy
    have hi0 : 0 < i := by rcases i with _ | i; simp at hx; omega
    have hj1 : j < Y.length := by
      rcases Nat.lt_or_ge j Y.length with h | h
      · exact h
      · rw [List.drop_of_length_le h] at hy; cases hy
    have e1 : X[i - 1]? = some (X[i - 1]'(by omega)) := List.getElem?_eq_getElem (by omega)
    have e2 : Y[j]? = some Y[j] := List.getElem?_eq_getElem hj1
    have a1 := srt_take k hX hx e1
    have a2 := srt_drop k hY hy e2
    have a3 := h1 _ _ hi0 e1 e2
    omega
  · intro y hy x hx
    have hj0 : 0 < j := by rcases j with _ | j; simp at hy; omega
    have hi1 : i < X.length := by
      rcases Nat.lt_or_ge i X.length with h | h
      · exact h
      · rw [List.drop_of_length_le h] at hx; cases hx
    have e1 : Y[j - 1]? = some (Y[j - 1]'(by omega)) := List.getElem?_eq_getElem (by omega)
    have e2 : X[i]? = some X[i] := List.getElem?_eq_getElem hi1
    have a1 := srt_take k hY hy e1
    have a2 := srt_drop k hX hx e2
    have a3 := h2 _ _ hj0 e1 e2
    omega
theorem mg_one {x : α} {Y1 Y2 : List α} (h1 : ∀ y ∈ Y1, k y < k x) (h2 : ∀ y ∈ Y2, k x ≤ k y) : mg k [x] (Y1 ++ Y2) = Y1 ++ x :: Y2 := by
  have h := mg_split k [] Y1 [x] Y2 (fun x hx => by cases hx) (fun y hy x' hx => by rw [List.mem_singleton.1 hx]; exact h1 y hy)
  have h' := mg_split k [x] [] [] Y2 (fun x' hx y hy => by rw [List.mem_singleton.1 hx]; exact h2 y hy) (fun y hy => by cases hy)
  simp only [List.nil_append, List.append_nil, mg_nil, mg_nil2] at h h'
  rw [h, h']; rfl
theorem mg_one2 {y : α} {X1 X2 : List α} (h1 : ∀ x ∈ X1, k x ≤ k y) (h2 : ∀ x ∈ X2, k y < k x) : mg k (X1 ++ X2) [y] = X1 ++ y :: X2 := by
  have h := mg_split k X1 [] X2 [y] (fun x hx y' hy => by rw [List.mem_singleton.1 hy]; exact h1 x hx) (fun y hy => by cases hy)
  have h' := mg_split k [] [y] X2 [] (fun x hx => by cases hx) (fun y' hy x hx => by rw [List.mem_singleton.1 hy]; exact h2 x hx)
  simp only [List.nil_append, List.append_nil, mg_nil, mg_nil2] at h h'
  rw [h, h']; rfl
end
end Go.FL
