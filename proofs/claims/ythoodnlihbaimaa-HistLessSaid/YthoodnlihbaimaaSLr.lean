/- A symbolic executor over the model: slices handed in, whose elements are made of integers, bools and strings, opened. -/
import Derived.Test.YthoodnlihbaimaaSLq
import Derived.Deep.Slices
namespace Go.SL
open Go.RowKit
section
variable {H : Type} {enc : TypeId × Value → H} {P : Program} {W : World}

theorem okWide_spot {base : Nat} {r : Reach} {t e : TypeId} {a : Addr} {len cap : Nat} (ht : P.underlying t = some (.slice e)) (h : Value.okWide P W r base t (.slice (some a) len cap)) : a.spot = none := by
  simp only [Value.okWide, ht, Cell.okWide, Cell.ok] at h
  exact h.2.2.2.1

theorem flatten_cells {f : Nat → Option Value} {sz : Nat} : ∀ {css : List (List Value)} {off : Nat}, (∀ cs ∈ css, cs.length = sz) → (∀ (i : Nat) (cs : List Value), css[i]? = some cs → ∀ (k : Nat) (u : Value), cs[k]? = some u → f (off + (i * sz + k)) = some u) →
    ∀ (j : Nat) (u : Value), css.flatten[j]? = some u → f (off + j) = some u
  | [], _, _, _, j, u, h => by simp at h
  | c :: css, off, hl, hc, j, u, h => by
    have hlc := hl c (by simp)
    rw [List.flatten_cons] at h
    by_cases hj : j < c.length
    · rw [List.getElem?_append_left hj] at h
      have := hc 0 c rfl j u h
      simpa using this
    · rw [List.getElem?_append_right (by omega)] at h
      have := flatten_cells (css := css) (off := off + sz) (fun x hx => hl x (by simp [hx])) (fun i cs hi k u hk => by
        have := hc (i + 1) cs (by simpa using hi) k u hk
        rw [Nat.succ_mul] at this
        rw [show off + sz + (i * sz + k) = off + (i * sz + sz + k) by omega]
        exact this) (j - c.length) u h
      rw [show off + j = off + sz + (j - c.length) by omega]
      exact this

/-- A slice handed in, of flat elements: nil, or cells that lie there. -/
theorem open_flats {base : Nat} {r : Reach} {d : Nat} {t e : TypeId} {ps : List Pr} {v : Value} {dd : DataW H} {p : List MemPlace} (ht : P.underlying t = some (.slice e)) (hf : flatT P d e = some ps) (hc : P.cellsOf e = ps.length)
    (hv : Value.okWide P W r base t v) (h : DataW.Trod enc P W 0 (fun _ => true) true t v dd p) :
    v = .slice none 0 0 ∨ ∃ (b off len cap : Nat) (css : List (List Value)), v = .slice (some ⟨b, off, none⟩) len cap ∧ css.length = len ∧ (∀ cs ∈ css, Mat ps cs) ∧
      ∀ (j : Nat) (u : Value), css.flatten[j]? = some u → W.cell? ⟨b, off + j, none⟩ = some u := by
  obtain ⟨fuel, hx⟩ := h
  rcases Go.Deep.open_slice ht hx with ⟨h0, _⟩ | ⟨a, len, cap, m, n, D, Pl, h0, _, hl, _, hm, _, hel⟩
  · left
    obtain ⟨x, l, c, rfl⟩ := Go.WideShapes.okWide_slice ht hv
    simpa [Value.cells] using h0
  · right
    obtain ⟨x, l, c, rfl⟩ := Go.WideShapes.okWide_slice ht hv
    simp [Value.cells] at h0
    obtain ⟨rfl, rfl, rfl⟩ := h0
    have hs := okWide_spot ht hv
    obtain ⟨b, off, spot⟩ := a
    simp only at hs
    subst hs
    simp only [if_true] at hm
    subst hm
    obtain ⟨F, hF⟩ := Go.Deep.choose_lt (α := List Value) (n := l) (p := fun i cs => W.cells? 0 ((⟨b, off, none⟩ : Addr).add (i * P.cellsOf e)) (P.cellsOf e) = some cs ∧ Mat ps cs) (fun i hi => by
      obtain ⟨cs, h1, h2⟩ := hel i (by omega)
      exact ⟨cs, h1, (trod_flat d e ps n cs _ hf h2).1⟩)
    refine ⟨b, off, l, _, (List.range l).map F, rfl, by simp, ?_, ?_⟩
    · intro cs hcs
      obtain ⟨i, hi, rfl⟩ := List.mem_map.1 hcs
      exact (hF i (List.mem_range.1 hi)).2
    · have hlen : ∀ cs ∈ (List.range l).map F, cs.length = ps.length := by
        intro cs hcs
        obtain ⟨i, hi, rfl⟩ := List.mem_map.1 hcs
        exact (hF i (List.mem_range.1 hi)).2.len
      refine flatten_cells (f := fun k => W.cell? ⟨b, k, none⟩) hlen ?_
      intro i cs hi k u hk
      have hil : i < l := by
        have := (List.getElem?_eq_some_iff.1 hi).1
        simpa using this
      have hcs : cs = F i := by
        simp [List.getElem?_map, List.getElem?_range hil] at hi
        exact hi.symm
      subst hcs
      obtain ⟨_, h2, h3⟩ := World.cells?_some (hF i hil).1
      have hkl : k < (F i).length := (List.getElem?_eq_some_iff.1 hk).1
      have := h3 k (by omega)
      rw [hk, Addr.add_lit, Addr.add_lit, hc, Nat.add_assoc] at this
      exact this

/-- What was handed in is one entry more. -/
theorem Emb.addRo {φ : Phi} {V : List VB} (hE : Emb W φ V (fun _ _ => none) W) {b o e : Nat} {xs : List (List VV)} {l : List Value} (hd : denL φ xs.flatten = some l) (hl : ∀ x ∈ xs, x.length = e)
    (hw : ∀ (j : Nat) (v : Value), l[j]? = some v → W.cell? ⟨b, o + j, none⟩ = some v) : Emb W (φ.set V.length (b, o)) (V ++ [.ro e xs]) (fun _ _ => none) W := by
  have hn : φ V.length = none := hE.dom _ (Nat.le_refl _)
  have hle := Phi.le_set (p := (b, o)) hn
  obtain ⟨b1, b2⟩ := born_last (V := V) (vb := .ro e xs) V.length rfl
  refine ⟨hE.size, hE.old, hE.sub, hE.disj, ?_, ?_⟩
  · intro i hi
    simp at hi
    simp only [Phi.set, if_neg (show i ≠ V.length by omega)]
    exact hE.dom i (by omega)
  · intro i vb hi
    by_cases e1 : i = V.length
    · subst e1
      rw [b1] at hi; cases hi
      exact ⟨b, o, l, Phi.set_self .., denL_mono hle _ _ hd, hl, hw⟩
    · rw [b2 i e1] at hi
      exact VB.ok_mono hle (hE.sat i vb hi) (by intro h0; simp [Phi.set, e1, h0])

/-- Rows told as a list of what they stand for. -/
theorem mats_list {α : Type} {f : α → List VV} {ps : List Pr} (φ : Phi) (hf : ∀ cs, Mat ps cs → ∃ a, denL φ (f a) = some cs) : ∀ {css : List (List Value)}, (∀ cs ∈ css, Mat ps cs) → ∃ l : List α, l.length = css.length ∧ denL φ (l.map f).flatten = some css.flatten
  | [], _ => ⟨[], rfl, rfl⟩
  | cs :: css, h => by
    obtain ⟨a, ha⟩ := hf cs (h cs (by simp))
    obtain ⟨l, h1, h2⟩ := mats_list φ hf (css := css) (fun c hc => h c (by simp [hc]))
    exact ⟨a :: l, by simp [h1], by rw [List.map_cons, List.flatten_cons, List.flatten_cons]; exact denL_append.2 ⟨_, _, ha, h2, rfl⟩⟩

/-- A slice of flat structs, handed in: the value and its entry. -/
theorem open_rows {α : Type} {f : α → List VV} {base : Nat} {r : Reach} {d : Nat} {t e : TypeId} {ps : List Pr} {v : Value} {dd : DataW H} {p : List MemPlace} {φ : Phi} {V : List VB} (hE : Emb W φ V (fun _ _ => none) W)
    (hf : ∀ cs, Mat ps cs → ∃ a, denL φ (f a) = some cs) (hlen : ∀ a, (f a).length = ps.length) (ht : P.underlying t = some (.slice e)) (hfl : flatT P d e = some ps) (hc : P.cellsOf e = ps.length)
    (hv : Value.okWide P W r base t v) (h : DataW.Trod enc P W 0 (fun _ => true) true t v dd p) :
    ∃ (oid : Option Nat) (l : List α) (cap : Nat) (q : Nat × Nat), (oid = some V.length ∨ (oid = none ∧ l = [])) ∧ Emb W (φ.set V.length q) (V ++ [.ro ps.length (l.map f)]) (fun _ _ => none) W ∧
      den (φ.set V.length q) (.osl oid ps.length 0 l.length cap) = some v := by
  rcases open_flats ht hfl hc hv h with rfl | ⟨b, off, len, cap, css, rfl, hl, hm, hw⟩
  · exact ⟨none, [], 0, (0, 0), .inr ⟨rfl, rfl⟩, hE.addRo (xs := []) rfl (by simp) (by simp), by simp [den]⟩
  · obtain ⟨l, h1, h2⟩ := mats_list φ hf hm
    refine ⟨some V.length, l, cap, (b, off), .inl rfl, hE.addRo h2 ?_ hw, ?_⟩
    · intro x hx
      obtain ⟨a, _, rfl⟩ := List.mem_map.1 hx
      exact hlen a
    · simp [den, Phi.set, h1, hl]
end
end Go.SL
