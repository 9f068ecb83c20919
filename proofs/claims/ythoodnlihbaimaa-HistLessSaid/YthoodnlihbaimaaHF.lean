/- Stable merges, plainly: how they split, that they associate; the stable order. No program in sight. -/
import Derived.Test.YthoodnlihbaimaaXa
namespace Go.FL
section
variable {α : Type} (k : α → Int)
/-- A stable merge: what stands in the first list comes first among the same. -/
def mg : List α → List α → List α
  | [], ys => ys
  | x :: xs, [] => x :: xs
  | x :: xs, y :: ys => if k y < k x then y :: mg (x :: xs) ys else x :: mg xs (y :: ys)
termination_by xs ys => xs.length + ys.length
theorem mg_nil (ys : List α) : mg k [] ys = ys := by simp [mg]
theorem mg_nil2 (xs : List α) : mg k xs [] = xs := by cases xs <;> simp [mg]
theorem mg_lt {x y : α} {xs ys : List α} (h : k y < k x) : mg k (x :: xs) (y :: ys) = y :: mg k (x :: xs) ys := by rw [mg, if_pos h]
theorem mg_ge {x y : α} {xs ys : List α} (h : ¬ k y < k x) : mg k (x :: xs) (y :: ys) = x :: mg k xs (y :: ys) := by rw [mg, if_neg h]
theorem mg_len : ∀ (xs ys : List α), (mg k xs ys).length = xs.length + ys.length
  | [], ys => by rw [mg_nil]; simp
  | x :: xs, [] => by rw [mg_nil2]; simp
  | x :: xs, y :: ys => by
    by_cases h : k y < k x
    · rw [mg_lt k h, List.length_cons, mg_len (x :: xs) ys]; simp only [List.length_cons]; omega
    · rw [mg_ge k h, List.length_cons, mg_len xs (y :: ys)]; simp only [List.length_cons]; omega
termination_by xs ys => xs.length + ys.length
theorem mg_mem {z : α} : ∀ {xs ys : List α}, z ∈ mg k xs ys → z ∈ xs ∨ z ∈ ys
  | [], ys, h => by rw [mg_nil] at h; exact .inr h
  | x :: xs, [], h => by rw [mg_nil2] at h; exact .inl h
  | x :: xs, y :: ys, h => by
    by_cases hk : k y < k x
    · rw [mg_lt k hk] at h
      rcases List.mem_cons.1 h with h | h
      · exact .inr (by rw [h]; simp)
      · rcases mg_mem h with h | h
        · exact .inl h
        · exact .inr (List.mem_cons_of_mem _ h)
    · rw [mg_ge k hk] at h
      rcases List.mem_cons.1 h with h | h
      · exact .inl (by rw [h]; simp)
      · rcases mg_mem h with h | h
        · exact .inl (List.mem_cons_of_mem _ h)
        · exact .inr h
termination_by xs ys => xs.length + ys.length
/-- Where a merge may be cut. -/
theorem mg_split : ∀ (X1 Y1 X2 Y2 : List α), (∀ x ∈ X1, ∀ y ∈ Y2, k x ≤ k y) → (∀ y ∈ Y1, ∀ x ∈ X2, k y < k x) → mg k (X1 ++ X2) (Y1 ++ Y2) = mg k X1 Y1 ++ mg k X2 Y2
  | [], [], X2, Y2, h1, h2 => by rw [mg_nil]; rfl
  | [], y :: Y1, X2, Y2, h1, h2 => by
    rw [mg_nil]
    cases X2 with
    | nil => rw [List.append_nil, mg_nil, mg_nil]
    | cons x X2 =>
      have hk := h2 y (by simp) x (by simp)
      have ih := mg_split [] Y1 (x :: X2) Y2 (fun x hx => by cases hx) (fun y' hy x' hx => h2 y' (by simp [hy]) x' hx)
      rw [mg_nil] at ih
      show mg k (x :: X2) (y :: (Y1 ++ Y2)) = _
      rw [mg_lt k hk]
      show y :: mg k ([] ++ x :: X2) (Y1 ++ Y2) = _
      rw [ih]; rfl
  | x :: X1, [], X2, Y2, h1, h2 => by
    rw [mg_nil2]
    cases Y2 with
    | nil => rw [List.append_nil, mg_nil2, mg_nil2]
    | cons y Y2 =>
      have hk := h1 x (by simp) y (by simp)
      have ih := mg_split X1 [] X2 (y :: Y2) (fun x' hx y' hy => h1 x' (by simp [hx]) y' hy) (fun y hy => by cases hy)
      rw [mg_nil2] at ih
      show mg k (x :: (X1 ++ X2)) (y :: Y2) = _
      rw [mg_ge k (by omega)]
      show x :: mg k (X1 ++ X2) ([] ++ y :: Y2) = _
      rw [ih]; rfl
  | x :: X1, y :: Y1, X2, Y2, h1, h2 => by
    by_cases hk : k y < k x
    · have ih := mg_split (x :: X1) Y1 X2 Y2 h1 (fun y' hy x' hx => h2 y' (by simp [hy]) x' hx)
      rw [mg_lt k hk]
      show mg k (x :: (X1 ++ X2)) (y :: (Y1 ++ Y2)) = _
      rw [mg_lt k hk]
      show y :: mg k (x :: X1 ++ X2) (Y1 ++ Y2) = _
      rw [ih]; rfl
    · have ih := mg_split X1 (y :: Y1) X2 Y2 (fun x' hx y' hy => h1 x' (by simp [hx]) y' hy) h2
      rw [mg_ge k hk]
      show mg k (x :: (X1 ++ X2)) (y :: (Y1 ++ Y2)) = _
      rw [mg_ge k hk]
      show x :: mg k (X1 ++ X2) (y :: Y1 ++ Y2) = _
      rw [ih]; rfl
termination_by X1 Y1 => X1.length + Y1.length
/-- Rising, by the key. -/
def Srt : List α → Prop
  | [] => True
  | x :: l => (∀ y ∈ l, k x ≤ k y) ∧ Srt l
theorem mg_srt : ∀ {xs ys : List α}, Srt k xs → Srt k ys → Srt k (mg k xs ys)
  | [], ys, h1, h2 => by rw [mg_nil]; exact h2
  | x :: xs, [], h1, h2 => by rw [mg_nil2]; exact h1
  | x :: xs, y :: ys, h1, h2 => by
    by_cases hk : k y < k x
    · rw [mg_lt k hk]
      refine ⟨fun z hz => ?_, mg_srt h1 h2.2⟩
      rcases mg_mem k hz with h | h
      · rcases List.mem_cons.1 h with h | h
        · rw [h]; omega
        · have := h1.1 z h; omega
      · exact h2.1 z h
    · rw [mg_ge k hk]
      refine ⟨fun z hz => ?_, mg_srt h1.2 h2⟩
      rcases mg_mem k hz with h | h
      · exact h1.1 z h
      · rcases List.mem_cons.1 h with h | h
        · rw [h]; omega
        · have := h2.1 z h; omega
termination_by xs ys => xs.length + ys.length
theorem mg_assoc : ∀ {A B C : List α}, Srt k A → Srt k B → Srt k C → mg k (mg k A B) C = mg k A (mg k B C)
  | [], B, C, _, _, _ => by rw [mg_nil, mg_nil]
  | a :: A, [], C, _, _, _ => by rw [mg_nil2, mg_nil]
  | a :: A, b :: B, [], _, _, _ => by rw [mg_nil2, mg_nil2]
  | a :: A, b :: B, c :: C, hA, hB, hC => by
    by_cases hab : k b < k a
    · rw [mg_lt k hab]
      by_cases hbc : k c < k b
      · rw [mg_lt k hbc, mg_lt k hbc, mg_lt k (show k c < k a by omega), ← mg_lt k hab, mg_assoc hA hB hC.2]
      · rw [mg_ge k hbc, mg_ge k hbc, mg_lt k hab, mg_assoc hA hB.2 hC]
    · rw [mg_ge k hab]
      by_cases hbc : k c < k b
      · rw [mg_lt k hbc]
        by_cases hac : k c < k a
        · rw [mg_lt k hac, mg_lt k hac, ← mg_ge k hab, mg_assoc hA hB hC.2]
        · rw [mg_ge k hac, mg_ge k hac, mg_assoc hA.2 hB hC, mg_lt k hbc]
      · rw [mg_ge k hbc, mg_ge k hab, mg_ge k (show ¬ k c < k a by omega), mg_assoc hA.2 hB hC, mg_ge k hbc]
termination_by A B C => A.length + B.length + C.length
/-- The stable order: each comes behind those of its key. -/
def st (l : List α) : List α := l.foldl (fun out x => mg k out [x]) []
theorem st_snoc (l : List α) (x : α) : st k (l ++ [x]) = mg k (st k l) [x] := by simp [st]
theorem srt_one (x : α) : Srt k [x] := ⟨fun _ h => (by cases h), trivial⟩
theorem foldl_srt : ∀ (l out : List α), Srt k out → Srt k (l.foldl (fun out x => mg k out [x]) out)
  | [], out, h => h
  | x :: l, out, h => foldl_srt l _ (mg_srt k h (srt_one k x))
theorem st_srt (l : List α) : Srt k (st k l) := foldl_srt k l [] trivial
theorem foldl_mg : ∀ (l A B : List α), Srt k A → Srt k B → l.foldl (fun out x => mg k out [x]) (mg k A B) = mg k A (l.foldl (fun out x => mg k out [x]) B)
  | [], A, B, hA, hB => rfl
  | x :: l, A, B, hA, hB => by
    rw [List.foldl_cons, List.foldl_cons, mg_assoc k hA hB (srt_one k x)]
    exact foldl_mg l A (mg k B [x]) hA (mg_srt k hB (srt_one k x))
/-- Two parts that are in their stable order, merged, are the whole in its stable order. -/
theorem st_append (l1 l2 : List α) : st k (l1 ++ l2) = mg k (st k l1) (st k l2) := by
  have h := foldl_mg k l2 (st k l1) [] (st_srt k l1) trivial
  rw [mg_nil2] at h
  show (l1 ++ l2).foldl _ [] = _
  rw [List.foldl_append]
  exact h
theorem srt_app {l1 l2 : List α} : Srt k (l1 ++ l2) ↔ Srt k l1 ∧ Srt k l2 ∧ ∀ x ∈ l1, ∀ y ∈ l2, k x ≤ k y := by
  induction l1 with
  | nil => exact ⟨fun h => ⟨trivial, h, fun _ h => by cases h⟩, fun h => h.2.1⟩
  | cons a l ih =>
    show ((∀ y ∈ l ++ l2, k a ≤ k y) ∧ Srt k (l ++ l2)) ↔ ((∀ y ∈ l, k a ≤ k y) ∧ Srt k l) ∧ _
    rw [ih]
    constructor
    · rintro ⟨h1, h2, h3, h4⟩
      refine ⟨⟨fun y hy => h1 y (by simp [hy]), h2⟩, h3, fun x hx y hy => ?_⟩
      rcases List.mem_cons.1 hx with h | h
      · rw [h]; exact h1 y (by simp [hy])
      · exact h4 x h y hy
    · rintro ⟨⟨h1, h2⟩, h3, h4⟩
      refine ⟨fun y hy => ?_, h2, h3, fun x hx y hy => h4 x (by simp [hx]) y hy⟩
      rcases List.mem_append.1 hy with h | h
      · exact h1 y h
      · exact h4 a (by simp) y h
end
end Go.FL
