/- hist: linear calls without those that change nothing, plainly. -/
import Derived.Test.YthoodnlihbaimaaHZ
namespace Go.Proofs.Ythoodnlihbaimaa
set_option linter.unusedVariables false
set_option linter.unusedSimpArgs false
open Go Go.SL Go.FL
set_option maxRecDepth 100000
def keepB (t : Told) : Bool := !(t.kind == 3) && !(t.kind == 6) && t.e == 0
def runOk : StoreP → List Told → Bool
  | _, [] => true
  | s, t :: l => (doP s t).2 && runOk (doP s t).1 l
theorem runP_ok : ∀ (l : List Told) (s : StoreP) (i : Nat), decide (runP s l i < 0) = runOk s l
  | [], s, i => rfl
  | t :: l, s, i => by
    simp only [runP, runOk]
    split
    · rename_i h; rw [runP_ok l, h]; rfl
    · rename_i h
      have : (doP s t).2 = false := by simpa using h
      rw [this]; simp
theorem opos_none {s : StoreP} {h : Nat} (e : (opos s h).isSome = false) : delP s.objs h = s.objs := by
  unfold delP
  have : hpos Prod.fst s.objs h = none := by simpa [opos] using e
  rw [this]
theorem noop {s : StoreP} {t : Told} (ok : TOk t) (hk : keepB t = false) (hd : (doP s t).2 = true) : (doP s t).1 = s := by
  have hkd := ok.kind
  unfold keepB at hk
  simp only [Bool.and_eq_false_iff, Bool.not_eq_false', beq_iff_eq, beq_eq_false_iff_ne] at hk
  unfold doP at hd ⊢
  by_cases k1 : t.kind = 1
  · rw [if_pos k1] at hd ⊢
    have h0 : t.e ≠ 0 := by omega
    unfold allocP
    rw [if_pos h0]
  rw [if_neg k1] at hd ⊢
  by_cases k2 : t.kind = 2
  · rw [if_pos k2] at hd ⊢
    have h0 : t.e ≠ 0 := by omega
    unfold freeP at hd ⊢
    cases hs : (opos s t.handle.toNat).isSome with
    | true => rw [hs] at hd; simp at hd; exact absurd hd h0
    | false => show StoreP.mk _ _ = s; rw [opos_none hs]
  rw [if_neg k2] at hd ⊢
  by_cases k5 : t.kind ≤ 5
  · rw [if_pos k5] at hd ⊢
    unfold wordP at hd ⊢
    cases hp : opos s t.handle.toNat with
    | none => rfl
    | some j =>
      simp only [hp] at hd ⊢
      cases hg : s.objs[j]? with
      | none => rfl
      | some p =>
        obtain ⟨ph, ws⟩ := p
        simp only [hg] at hd ⊢
        split
        · rfl
        · rename_i c1
          rw [if_neg c1] at hd
          split
          · rfl
          · rename_i c2
            rw [if_neg c2] at hd
            split
            · rename_i c3
              rw [if_pos c3] at hd
              simp at hd
              omega
            · rfl
  · rw [if_neg k5] at hd ⊢
    unfold keyP at hd ⊢
    by_cases k6 : t.kind = 6
    · simp only [if_pos k6]
    · by_cases k8 : t.kind = 8
      · simp only [if_neg k6, if_pos k8] at hd ⊢
        simp at hd
        omega
      · simp only [if_neg k6, if_neg k8] at hd ⊢
        have h0 : t.e ≠ 0 := by omega
        rw [if_pos h0]
theorem runOk_filter : ∀ (l : List Told) (s : StoreP), (∀ t ∈ l, TOk t) → runOk s l = true → runOk s (l.filter keepB) = true
  | [], s, _, h => h
  | t :: l, s, ok, h => by
    simp only [runOk, Bool.and_eq_true] at h
    have ih := runOk_filter l (doP s t).1 (fun x hx => ok x (by simp [hx])) h.2
    cases hk : keepB t with
    | true => rw [List.filter_cons, hk, if_pos rfl]; simp only [runOk, h.1, ih, Bool.and_self]
    | false =>
      rw [List.filter_cons, hk, if_neg (by simp)]
      rwa [noop (ok t (by simp)) hk h.1] at ih
theorem mg_filter (p : Told → Bool) {out : List Told} (x : Told) (h : Srt key out) : (mg key out [x]).filter p = if p x then mg key (out.filter p) [x] else out.filter p := by
  obtain ⟨A, B, rfl, hA, hB⟩ : ∃ A B, out = A ++ B ∧ (∀ z ∈ A, key z ≤ key x) ∧ (∀ z ∈ B, key x < key z) := by
    clear p
    induction out with
    | nil => exact ⟨[], [], rfl, (fun _ h => by cases h), (fun _ h => by cases h)⟩
    | cons a l ih =>
      by_cases hk : key x < key a
      · refine ⟨[], a :: l, rfl, (fun _ h => by cases h), fun z hz => ?_⟩
        rcases List.mem_cons.1 hz with rfl | hz
        · exact hk
        · have := h.1 z hz; omega
      · obtain ⟨A, B, rfl, hA, hB⟩ := ih h.2
        refine ⟨a :: A, B, rfl, fun z hz => ?_, hB⟩
        rcases List.mem_cons.1 hz with rfl | hz
        · omega
        · exact hA z hz
  rw [mg_one2 key hA hB, List.filter_append, List.filter_append, List.filter_cons]
  rw [mg_one2 key (fun z hz => hA z (List.mem_filter.1 hz).1) (fun z hz => hB z (List.mem_filter.1 hz).1)]
  split <;> simp
theorem st_filter (p : Told → Bool) (l : List Told) : st key (l.filter p) = (st key l).filter p := by
  have : ∀ (l out : List Told), Srt key out → (l.filter p).foldl (fun out x => mg key out [x]) (out.filter p) = (l.foldl (fun out x => mg key out [x]) out).filter p := by
    intro l
    induction l with
    | nil => intro out _; rfl
    | cons x l ih =>
      intro out h
      rw [List.foldl_cons, ← ih _ (mg_srt key h (srt_one key x)), mg_filter p x h, List.filter_cons]
      split
      · rfl
      · rfl
  exact this l [] trivial
def okw (t : Told) : Prop := t.began ≤ t.stamp ∧ t.stamp ≤ t.ended
theorem within_iff (l : List Told) : withinT l = true ↔ (∀ t ∈ l, okw t) ∧ l.Pairwise fun a b => bad2 b a = false := by
  have hg : ∀ i (h : i < l.length), tat l i = l[i] := fun i h => by simp [tat, List.getD_eq_getElem?_getD, List.getElem?_eq_getElem h]
  unfold withinT wto wok wone
  simp only [List.all_eq_true, List.mem_range, Bool.and_eq_true, Bool.not_eq_true', Bool.or_eq_false_iff, decide_eq_false_iff_not]
  rw [List.pairwise_iff_getElem]
  constructor
  · intro h
    refine ⟨fun t ht => ?_, fun i j hi hj hij => ?_⟩
    · obtain ⟨i, hi, rfl⟩ := List.mem_iff_getElem.1 ht
      have := (h i hi).1
      rw [hg i hi] at this
      unfold okw; omega
    · have := (h j hj).2 i hij
      rw [hg i hi, hg j hj] at this
      exact this
  · rintro ⟨h1, h2⟩ i hi
    refine ⟨?_, fun j hj => ?_⟩
    · have := h1 l[i] (List.getElem_mem hi)
      rw [hg i hi]; unfold okw at this; omega
    · rw [hg i hi, hg j (by omega)]
      exact h2 j i (by omega) hi hj
theorem within_filter (p : Told → Bool) {l : List Told} (h : withinT l = true) : withinT (l.filter p) = true := by
  rw [within_iff] at h ⊢
  exact ⟨fun t ht => h.1 t (List.mem_filter.1 ht).1, h.2.filter p⟩
/-- Linear calls are linear without those that change nothing. -/
theorem lin_filter {l : List Told} (ok : ∀ t ∈ l, TOk t) (h : linT l = true) : linT (l.filter keepB) = true := by
  unfold linT at h ⊢
  rw [runP_ok] at h ⊢
  simp only [Bool.and_eq_true] at h ⊢
  rw [st_filter]
  exact ⟨runOk_filter _ _ (fun t ht => ok t (st_mem ht)) h.1, within_filter _ h.2⟩
def keepN (l : List Told) (i : Nat) : List Told := (l.take i).filter keepB
theorem keepN_next (l : List Told) (i : Nat) (h : i < l.length) : keepN l (i + 1) = if keepB (tat l i) then keepN l i ++ [tat l i] else keepN l i := by
  have hg : l[i]? = some (tat l i) := by simp [tat, List.getElem?_eq_getElem h, List.getD_eq_getElem?_getD]
  unfold keepN
  rw [List.take_add_one, hg, List.filter_append]
  show _ ++ List.filter keepB [tat l i] = _
  rw [List.filter_cons]
  split <;> simp
end Go.Proofs.Ythoodnlihbaimaa
