/- hist: the library's merge: its third case, plainly: where it cuts. -/
import Derived.Test.YthoodnlihbaimaaHK
namespace Go.Proofs.Ythoodnlihbaimaa
set_option linter.unusedVariables false
set_option linter.unusedSimpArgs false
open Go Go.SL Go.FL
set_option maxRecDepth 100000
/-- What is left of the third case's search. -/
structure Cut (X Y : List Told) (a m n s0 r0 s r : Nat) : Prop where
  lo : s0 ≤ s
  le : s ≤ r
  hi : r ≤ r0
  up : ∀ x y, s0 < s → X[s - 1 - a]? = some x → Y[n - s - m]? = some y → ¬ key y < key x
  dn : ∀ x y, r < r0 → X[r - a]? = some x → Y[n - 1 - r - m]? = some y → key y < key x
theorem Cut.stepUp {X Y : List Told} {a m n s0 r0 s r c : Nat} (C : Cut X Y a m n s0 r0 s r) (h1 : s ≤ c) (h2 : c < r) {x y : Told} (hx : X[c - a]? = some x) (hy : Y[n - 1 - c - m]? = some y) (hk : ¬ key y < key x) : Cut X Y a m n s0 r0 (c + 1) r := by
  refine ⟨by have := C.lo; omega, by omega, C.hi, fun x' y' _ hx' hy' => ?_, C.dn⟩
  rw [show c + 1 - 1 - a = c - a by omega, hx] at hx'
  rw [show n - (c + 1) - m = n - 1 - c - m by omega, hy] at hy'
  cases hx'; cases hy'; exact hk
theorem Cut.stepDn {X Y : List Told} {a m n s0 r0 s r c : Nat} (C : Cut X Y a m n s0 r0 s r) (h1 : s ≤ c) (h2 : c < r) {x y : Told} (hx : X[c - a]? = some x) (hy : Y[n - 1 - c - m]? = some y) (hk : key y < key x) : Cut X Y a m n s0 r0 s c := by
  refine ⟨C.lo, h1, by have := C.hi; omega, C.up, fun x' y' _ hx' hy' => ?_⟩
  rw [hx] at hx'
  rw [hy] at hy'
  cases hx'; cases hy'; exact hk
/-- Where it starts. -/
structure Geo (X Y : List Told) (a m b mid n s0 r0 : Nat) : Prop where
  gm : m = a + X.length
  gb : b = m + Y.length
  gd : 2 * mid ≤ a + b ∧ a + b < 2 * mid + 2
  gn : n = mid + m
  gs : (m ≤ mid ∧ s0 = a ∧ r0 = m) ∨ (mid < m ∧ s0 = n - b ∧ r0 = mid)
  gx : 0 < X.length
  gy : 0 < Y.length
theorem Geo.in_ {X Y : List Told} {a m b mid n s0 r0 c : Nat} (G : Geo X Y a m b mid n s0 r0) (h1 : s0 ≤ c) (h2 : c < r0) : a ≤ c ∧ c < m ∧ m ≤ n - 1 - c ∧ n - 1 - c < b := by
  have := G.gm; have := G.gb; have := G.gd; have := G.gn; have := G.gx; have := G.gy
  rcases G.gs with ⟨h, rfl, rfl⟩ | ⟨h, rfl, rfl⟩ <;> omega
theorem Geo.out {X Y : List Told} {a m b mid n s0 r0 s : Nat} (G : Geo X Y a m b mid n s0 r0) (h1 : s0 ≤ s) (h2 : s ≤ r0) : a ≤ s ∧ s ≤ m ∧ m ≤ n - s ∧ n - s ≤ b ∧ s ≤ mid ∧ mid ≤ n - s := by
  have := G.gm; have := G.gb; have := G.gd; have := G.gn; have := G.gx; have := G.gy
  rcases G.gs with ⟨h, rfl, rfl⟩ | ⟨h, rfl, rfl⟩ <;> omega
theorem Cut.cuts {X Y : List Told} {a m b mid n s0 r0 s : Nat} (G : Geo X Y a m b mid n s0 r0) (C : Cut X Y a m n s0 r0 s s) (hX : Srt key X) (hY : Srt key Y) :
    FL.mg key X Y = FL.mg key (X.take (s - a)) (Y.take (n - s - m)) ++ FL.mg key (X.drop (s - a)) (Y.drop (n - s - m)) := by
  obtain ⟨g1, g2, g3, g4, g5, g6⟩ := G.out C.lo C.hi
  have hm := G.gm; have hb := G.gb; have hmd := G.gd; have hn := G.gn
  refine mg_cut key hX hY (s - a) (n - s - m) (fun x y hi hx hy => ?_) (fun x y hj hy hx => ?_) (by omega) (by omega)
  · rcases Nat.lt_or_ge s0 s with h | h
    · have := C.up x y h (by rw [show s - 1 - a = s - a - 1 by omega]; exact hx) hy
      omega
    · have hj := (List.getElem?_eq_some_iff.1 hy).1
      have := C.lo
      rcases G.gs with ⟨h', e1, e2⟩ | ⟨h', e1, e2⟩ <;> omega
  · rcases Nat.lt_or_ge s r0 with h | h
    · exact C.dn x y h hx (by rw [show n - 1 - s - m = n - s - m - 1 by omega]; exact hy)
    · have hi := (List.getElem?_eq_some_iff.1 hx).1
      have := C.hi
      rcases G.gs with ⟨h', e1, e2⟩ | ⟨h', e1, e2⟩ <;> omega
end Go.Proofs.Ythoodnlihbaimaa
