/- hist: the library's merge, whole; its insertion sort, plainly: the stable order. -/
import Derived.Test.YthoodnlihbaimaaHM
namespace Go.Proofs.Ythoodnlihbaimaa
set_option linter.unusedVariables false
set_option linter.unusedSimpArgs false
open Go Go.SL Go.FL
set_option maxRecDepth 100000
theorem sym_ev {W0 : World} (N cap tot : Nat) (hlen : N ≤ 1000000) : ∀ (k : Nat) (P X Y S : List Told) (a m b : Nat), X.length + Y.length ≤ k → N = (P ++ X ++ Y ++ S).length → a = P.length → m = a + X.length → b = m + Y.length → 0 < X.length → 0 < Y.length → Srt key X → Srt key Y → Low (P ++ X ++ Y ++ S) →
      EvM W0 56 N cap a m b ((P ++ X ++ Y ++ S).map Told.cs) tot ((P ++ FL.mg key X Y ++ S).map Told.cs)
  | 0, P, X, Y, S, a, m, b, hk, _, _, _, _, hx, _, _, _, _ => by omega
  | k + 1, P, X, Y, S, a, m, b, hk, hN, ha, hm, hb, hx, hy, sX, sY, hB => by
    rcases (by omega : X.length = 1 ∨ (X.length ≠ 1 ∧ Y.length = 1) ∨ (1 < X.length ∧ 1 < Y.length)) with h | ⟨h, h'⟩ | ⟨h, h'⟩
    · obtain ⟨x, rfl⟩ := List.length_eq_one_iff.1 h
      exact symA_ev P x Y S N cap tot a m b hN hlen ha (by rw [hm]; rfl) hb sY hB
    · obtain ⟨y, rfl⟩ := List.length_eq_one_iff.1 h'
      exact symB_ev P X y S N cap tot a m b hN hlen ha hm (by rw [hb]; rfl) h sX hB
    · exact symC_ev P X Y S N cap tot a m b (fun P' X' Y' S' p q r hl h1 h2 h3 h4 h5 h6 h7 h8 h9 => sym_ev N cap tot hlen k P' X' Y' S' p q r (by omega) h1 h2 h3 h4 h5 h6 h7 h8 h9) hN hlen ha hm hb h h' sX sY hB
theorem swp_app (Q : List Told) (y x : Told) (T : List Told) : swp (Q ++ y :: x :: T) Q.length = Q ++ x :: y :: T := by
  have h1 : tat (Q ++ y :: x :: T) Q.length = y := tat_app _ _ _
  have e : Q ++ y :: x :: T = (Q ++ [y]) ++ x :: T := by simp
  have hl : Q.length + 1 = (Q ++ [y]).length := by simp
  have h2 : tat (Q ++ y :: x :: T) (Q.length + 1) = x := by rw [e, hl]; exact tat_app _ _ _
  unfold swp
  rw [h1, h2]
  rw [e, hl, set_app]
  rw [show (Q ++ [y]) ++ y :: T = Q ++ y :: y :: T by simp, set_app]
theorem bub_app {P : List Told} {x : Told} (hx : 0 ≤ x.stamp ∧ x.stamp ≤ 65535) : ∀ (n : Nat) (A T : List Told), A.length = n → Srt key A → Low A → bub P.length (P.length + A.length) (P ++ A ++ x :: T) = P ++ FL.mg key A [x] ++ T
  | 0, A, T, h, _, _ => by
    rw [List.eq_nil_of_length_eq_zero h, mg_nil]
    rw [bub_end (by simp)]
    simp
  | n + 1, A, T, h, sA, lA => by
    rcases List.eq_nil_or_concat A with h' | ⟨A', y, h'⟩
    · rw [h'] at h; simp at h
    · rw [List.concat_eq_append] at h'
      subst h'
      have hA : A'.length = n := by simpa using h
      have hs := (srt_app key).1 sA
      have hy := lA y (by simp)
      have e1 : P ++ (A' ++ [y]) ++ x :: T = (P ++ A') ++ y :: x :: T := by simp
      have e2 : P.length + (A' ++ [y]).length = (P ++ A').length + 1 := by simp only [List.length_append, List.length_cons, List.length_nil]; omega
      have t1 : tat ((P ++ A') ++ y :: x :: T) (P ++ A').length = y := tat_app _ _ _
      have t2 : tat ((P ++ A') ++ y :: x :: T) ((P ++ A').length + 1) = x := by
        rw [show (P ++ A') ++ y :: x :: T = ((P ++ A') ++ [y]) ++ x :: T by simp, show (P ++ A').length + 1 = ((P ++ A') ++ [y]).length by simp only [List.length_append, List.length_cons, List.length_nil]]
        exact tat_app _ _ _
      rw [e1, e2]
      by_cases hk : key x < key y
      · have hc : arith .sub .i64 x.stamp y.stamp < 0 := (cmpLt hx hy).2 hk
        rw [bub_step (by simp only [List.length_append]; omega) (by rw [t1, t2]; exact hc), swp_app]
        have ih := bub_app (P := P) hx n A' (y :: T) hA hs.1 (fun z hz => lA z (by simp [hz]))
        rw [show (P ++ A').length = P.length + A'.length by simp, ih]
        have hm := mg_split key A' [x] [y] [] (fun _ _ _ h => by cases h) (fun z hz w hw => by
          rw [List.mem_singleton.1 hz, List.mem_singleton.1 hw]; exact hk)
        rw [List.append_nil, mg_nil2] at hm
        rw [hm]; simp
      · have hc : ¬ arith .sub .i64 x.stamp y.stamp < 0 := fun h => hk ((cmpLt hx hy).1 h)
        rw [bub_stop (fun h => hc (by have := h.2; rw [t1, t2] at this; exact this))]
        have hm := mg_split key (A' ++ [y]) [] [] [x] (fun z hz w hw => by
          rw [List.mem_singleton.1 hw]
          rcases List.mem_append.1 hz with hz | hz
          · have := hs.2.2 z hz y (by simp); omega
          · rw [List.mem_singleton.1 hz]; omega) (fun _ h => by cases h)
        rw [List.append_nil, mg_nil2, List.nil_append, mg_nil] at hm
        rw [hm]; simp
theorem isrt_app {P S : List Told} : ∀ (B A : List Told), Srt key A → Low (A ++ B) → isrt P.length (P.length + A.length) B.length (P ++ A ++ B ++ S) = P ++ B.foldl (fun out x => FL.mg key out [x]) A ++ S
  | [], A, _, _ => by simp [isrt]
  | x :: B, A, sA, lo => by
    show isrt P.length (P.length + A.length + 1) B.length (bub P.length (P.length + A.length) (P ++ A ++ (x :: B) ++ S)) = _
    have h := bub_app (P := P) (lo x (by simp)) A.length A (B ++ S) rfl sA (fun z hz => lo z (by simp [hz]))
    rw [show P ++ A ++ (x :: B) ++ S = P ++ A ++ x :: (B ++ S) by simp, h]
    have ih := isrt_app (P := P) (S := S) B (FL.mg key A [x]) (mg_srt key sA (srt_one key x)) (fun z hz => by
      rcases List.mem_append.1 hz with h | h
      · rcases mg_mem key h with h | h
        · exact lo z (by simp [h])
        · rw [List.mem_singleton.1 h]; exact lo x (by simp)
      · exact lo z (by simp [h]))
    rw [show P.length + (FL.mg key A [x]).length = P.length + A.length + 1 by rw [mg_len]; simp only [List.length_cons, List.length_nil]; omega] at ih
    rw [show P ++ FL.mg key A [x] ++ (B ++ S) = P ++ FL.mg key A [x] ++ B ++ S by simp, ih]
    rfl
/-- The insertion sort of a stretch lays it in its stable order. -/
theorem isrt_st (P M S : List Told) (lo : Low M) : isrt P.length (P.length + 1) (M.length - 1) (P ++ M ++ S) = P ++ st key M ++ S := by
  cases M with
  | nil => simp [isrt, st]
  | cons x B =>
    have h := isrt_app (P := P) (S := S) B [x] (srt_one key x) (by simpa using lo)
    rw [show (x :: B).length - 1 = B.length by simp, show P ++ (x :: B) ++ S = P ++ [x] ++ B ++ S by simp]
    rw [show ([x] : List Told).length = 1 from rfl] at h
    rw [h]
    show _ = P ++ B.foldl _ (FL.mg key [] [x]) ++ S
    rw [mg_nil]
theorem st_len (l : List Told) : (st key l).length = l.length := by
  have : ∀ (l out : List Told), (l.foldl (fun out x => FL.mg key out [x]) out).length = out.length + l.length := by
    intro l
    induction l with
    | nil => intro out; rfl
    | cons x l ih => intro out; rw [List.foldl_cons, ih, mg_len]; simp only [List.length_cons, List.length_nil]; omega
  rw [st, this]; simp
theorem st_mem {l : List Told} {x : Told} (h : x ∈ st key l) : x ∈ l := by
  have : ∀ (l out : List Told), x ∈ (l.foldl (fun out x => FL.mg key out [x]) out) → x ∈ out ∨ x ∈ l := by
    intro l
    induction l with
    | nil => intro out h; exact .inl h
    | cons y l ih =>
      intro out h
      rcases ih _ h with h | h
      · rcases mg_mem key h with h | h
        · exact .inl h
        · exact .inr (by rw [List.mem_singleton.1 h]; simp)
      · exact .inr (by simp [h])
  rcases this l [] h with h | h
  · cases h
  · exact h
theorem Low.st {l : List Told} (h : Low l) : Low (st key l) := fun x hx => h x (st_mem hx)
end Go.Proofs.Ythoodnlihbaimaa
