/- A symbolic executor over the model: a block of whatever kind gets another content. -/
import Derived.Test.YtebeabcbbcbdhaaSLt
namespace Go.SL
section
variable {P : Program} {W0 : World} {φ : Phi} {V : List VB} {h : Nat → Frag} {w : World}
theorem Emb.obj {i b : Nat} {old new : Obj} {vb' : VB} {w' : World} (hE : Emb W0 φ V h w) (hi : i < V.length) (hb : h i b = some old)
    (hok : vb'.ok W0 φ (fun x => if x = b then some new else h i x) i) (hw : w'.heap = w.heap.setIfInBounds b new) (hs : Sm w w') :
    Emb W0 φ (V.set i vb') (hset h i (fun x => if x = b then some new else h i x)) w' ∧
      Fr h (hset h i (fun x => if x = b then some new else h i x)) w w' := by
  obtain ⟨hb1, hb2⟩ := hE.sub i b _ hb
  have hlt : b < w.heap.size := (Array.getElem?_eq_some_iff.1 hb2).1
  have hself : w'.heap[b]? = some new := by rw [hw]; simp [hlt]
  have hoth : ∀ x, x ≠ b → w'.heap[x]? = w.heap[x]? := fun x hx => by rw [hw, Array.getElem?_setIfInBounds_ne (Ne.symm hx)]
  have hsz : w'.heap.size = w.heap.size := by rw [hw]; simp
  refine ⟨⟨?_, ?_, ?_, ?_, ?_, ?_⟩, ⟨?_, ?_, ?_, hs⟩⟩
  · rw [hsz]; exact hE.size
  · intro x hx; rw [hoth x (by omega)]; exact hE.old x hx
  · intro j x o' hx
    unfold hset at hx
    split at hx
    · dsimp only at hx
      split at hx
      · rename_i e; subst e; cases hx; exact ⟨hb1, hself⟩
      · rename_i e; obtain ⟨g1, g2⟩ := hE.sub i x o' hx; exact ⟨g1, by rw [hoth x e]; exact g2⟩
    · rename_i hj
      obtain ⟨g1, g2⟩ := hE.sub j x o' hx
      have hne : x ≠ b := by
        rintro rfl
        rcases hE.disj j i x hj with h0 | h0
        · rw [h0] at hx; cases hx
        · rw [h0] at hb; cases hb
      exact ⟨g1, by rw [hoth x hne]; exact g2⟩
  · intro j k x hjk
    unfold hset
    have key : ∀ m, m ≠ i → h m x = none ∨ (if x = b then some new else h i x) = none := by
      intro m hm
      split
      · rename_i e; subst e
        rcases hE.disj m i x hm with h0 | h0
        · exact .inl h0
        · rw [h0] at hb; cases hb
      · exact hE.disj m i x hm
    by_cases e1 : j = i
    · by_cases e2 : k = i
      · omega
      · rw [if_pos e1, if_neg e2]; exact (key k e2).symm
    · by_cases e2 : k = i
      · rw [if_neg e1, if_pos e2]; exact key j e1
      · rw [if_neg e1, if_neg e2]; exact hE.disj j k x hjk
  · intro j hj; exact hE.dom j (by simpa using hj)
  · intro j vb hj
    by_cases e : j = i
    · subst e
      rw [List.getElem?_set_self hi] at hj; cases hj
      simpa [hset] using hok
    · rw [List.getElem?_set_ne (Ne.symm e)] at hj
      simp only [hset, if_neg e]
      exact hE.sat j vb hj
  · rw [hsz]; exact Nat.le_refl _
  · intro x hx hn
    have : x ≠ b := by rintro rfl; rw [hn i] at hb; cases hb
    exact hoth x this
  · intro j x o' hx
    left
    unfold hset at hx
    split at hx
    · dsimp only at hx
      split at hx
      · rename_i e; subst e; exact ⟨i, _, hb⟩
      · exact ⟨i, o', hx⟩
    · exact ⟨j, o', hx⟩
end
end Go.SL
