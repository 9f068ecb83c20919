/- queue: what Push and Pop do, as contracts. -/
import Derived.Test.YtebeabcbbcbdhaaQO
namespace Go.Proofs.Ytebeabcbbcbdhaa
set_option linter.unusedVariables false
set_option linter.unusedSimpArgs false
open Go Go.SL
def ints (l : List Int) : List VV := l.map (.int .i64)
theorem ints_den (φ : Phi) : ∀ l : List Int, denL φ (ints l) = some (l.map (.int .i64))
  | [] => rfl
  | a :: l => denL_cons.2 ⟨_, _, rfl, ints_den φ l, rfl⟩
theorem ints_len (l : List Int) : (ints l).length = l.length := by simp [ints]
theorem ints_rn (ρ : Nat → Nat) (l : List Int) : rnL ρ (ints l) = ints l := by
  induction l with
  | nil => rfl
  | cons a l ih => simp only [ints, List.map_cons, rnL, rn] at ih ⊢; rw [ih]
def qcell (most : Int) : VB := .cells [.chan 1, .int .i64 most]
theorem q_open {W0 w : World} {φ : Phi} {h : Nat → Frag} {cap : Nat} {l : List Int} {most : Int} (hE : Emb W0 φ [.cells [.chan 1, .int .i64 most], .chan cap (ints l)] h w) :
    ∃ b c s r T, φ 0 = some (b, 0) ∧ φ 1 = some (c, 0) ∧ w.heap[b]? = some (.cells #[.chan (some c), .int .i64 most] T (0, 0)) ∧ h 1 c = some (.chan cap (l.map (Value.int .i64)).toArray false s r false) ∧
      w.heap[c]? = some (.chan cap (l.map (Value.int .i64)).toArray false s r false) := by
  obtain ⟨b, lv, T, h1, h2, h3⟩ := hE.sat 0 _ rfl
  obtain ⟨c, lc, s, r, k1, k2, k3⟩ := hE.sat 1 _ rfl
  rw [ints_den] at k2
  cases k2
  have e : lv = [.chan (some c), .int .i64 most] := by
    obtain ⟨x, s', g1, g2, rfl⟩ := denL_cons.1 h2
    obtain ⟨y, s'', g3, g4, rfl⟩ := denL_cons.1 g2
    simp only [den, k1, Option.map_some, Option.some.injEq] at g1 g3
    simp only [denL, Option.some.injEq] at g4
    subst g1; subst g3; subst g4
    rfl
  subst e
  exact ⟨b, c, s, r, T, h1, k1, (hE.sub 0 b _ h3).2, k3, (hE.sub 1 c _ k3).2⟩
theorem q_upd {W0 w w' : World} {φ : Phi} {h : Nat → Frag} {cap c s r s' r' : Nat} {l l' : List Int} {most : Int} {buf : Array Value} (hE : Emb W0 φ [.cells [.chan 1, .int .i64 most], .chan cap (ints l)] h w) (hφ : φ 1 = some (c, 0))
    (hc : h 1 c = some (.chan cap (l.map (Value.int .i64)).toArray false s r false)) (hb : buf = (l'.map (Value.int .i64)).toArray) (hw : w' = w.setChan c cap buf false s' r' false) :
    ∃ h', Emb W0 φ [.cells [.chan 1, .int .i64 most], .chan cap (ints l')] h' w' ∧ Fr h h' w w' := by
  subst hb
  have := hE.obj (i := 1) (b := c) (vb' := .chan cap (ints l')) (new := .chan cap (l'.map (Value.int .i64)).toArray false s' r' false) (w' := w') (by simp) hc
    ⟨c, _, s', r', hφ, ints_den φ l', by simp⟩ (by rw [hw]; rfl) (by rw [hw]; exact ⟨rfl, rfl, rfl⟩)
  exact ⟨_, this⟩
theorem Push_ev {W0 : World} (cap : Nat) (l : List Int) (most n : Int) :
    Ev Try.prog W0 20 [.ptr 0 0, .int .i64 n] [.cells [.chan 1, .int .i64 most], .chan cap (ints l)] (fun v V' =>
      v = .int .i64 (if l.length < cap then 0 else 9) ∧ V' = [.cells [.chan 1, .int .i64 most], .chan cap (ints (if l.length < cap then l ++ [n] else l))]) := by
  refine ⟨by kernel_rfl, fun φ h w hE rargs hr => ?_⟩
  obtain ⟨b, c, s, r, T, h1, h2, h3, h4, h5⟩ := q_open hE
  have e : rargs = [.pointer (some ⟨b, 0, none⟩), .int .i64 n] := by
    obtain ⟨x, s', g1, g2, rfl⟩ := denL_cons.1 hr
    obtain ⟨y, s'', g3, g4, rfl⟩ := denL_cons.1 g2
    simp only [den, h1, Option.map_some, Option.some.injEq] at g1 g3
    simp only [denL, Option.some.injEq] at g4
    subst g1; subst g3; subst g4
    rfl
  subst e
  by_cases hl : l.length < cap
  · refine (push_room h3 h5 (by simpa using hl) (n := n)).mono ?_
    rintro e w' ⟨rfl, hw⟩
    obtain ⟨h', k1, k2⟩ := q_upd (l' := l ++ [n]) hE h2 h4 (by simp) hw
    exact ⟨_, _, _, φ, h', rfl, rfl, ⟨by rw [if_pos hl], by rw [if_pos hl]⟩, Phi.le_refl _, k1, k2⟩
  · refine (push_full h3 h5 (by simpa using hl) (n := n)).mono ?_
    rintro e w' ⟨rfl, rfl⟩
    exact ⟨_, _, _, φ, h, rfl, rfl, ⟨by rw [if_neg hl], by rw [if_neg hl]⟩, Phi.le_refl _, hE, Fr.refl _ _⟩
theorem PushNil_ev {W0 : World} (n : Int) : Ev Try.prog W0 20 [.nilPtr, .int .i64 n] [] (fun v V' => v = .int .i64 1 ∧ V' = []) := by
  refine ⟨by kernel_rfl, fun φ h w hE rargs hr => ?_⟩
  obtain rfl : rargs = [.pointer none, .int .i64 n] := by simpa [denL, den, eq_comm] using hr
  refine push_nil.mono ?_
  rintro e w' ⟨rfl, rfl⟩
  exact ⟨_, _, _, φ, h, rfl, rfl, ⟨rfl, rfl⟩, Phi.le_refl _, hE, Fr.refl _ _⟩
theorem Pop_ev {W0 : World} (cap : Nat) (l : List Int) (most : Int) :
    Ev Try.prog W0 19 [.ptr 0 0] [.cells [.chan 1, .int .i64 most], .chan cap (ints l)] (fun v V' =>
      v = .tup [.int .i64 (l.headD 0), .bool (!l.isEmpty)] ∧ V' = [.cells [.chan 1, .int .i64 most], .chan cap (ints l.tail)]) := by
  refine ⟨by kernel_rfl, fun φ h w hE rargs hr => ?_⟩
  obtain ⟨b, c, s, r, T, h1, h2, h3, h4, h5⟩ := q_open hE
  have e : rargs = [.pointer (some ⟨b, 0, none⟩)] := by
    obtain ⟨x, s', g1, g2, rfl⟩ := denL_cons.1 hr
    simp only [den, h1, Option.map_some, Option.some.injEq] at g1
    simp only [denL, Option.some.injEq] at g2
    subst g1; subst g2
    rfl
  subst e
  cases l with
  | nil =>
    refine (pop_none h3 h5 rfl).mono ?_
    rintro e w' ⟨rfl, rfl⟩
    exact ⟨_, _, _, φ, h, rfl, rfl, ⟨rfl, rfl⟩, Phi.le_refl _, hE, Fr.refl _ _⟩
  | cons x l =>
    refine (pop_some h3 h5 (x := x) (by simp) (by simp)).mono ?_
    rintro e w' ⟨rfl, hw⟩
    obtain ⟨h', k1, k2⟩ := q_upd (l' := l) hE h2 h4 (by apply Array.toList_inj.1; simp [List.take_of_length_le]) hw
    exact ⟨_, _, _, φ, h', rfl, rfl, ⟨rfl, rfl⟩, Phi.le_refl _, k1, k2⟩
theorem PushOk_ev {W0 : World} (cap : Nat) (l : List Int) (most n : Int) (h : l.length < cap) :
    Ev Try.prog W0 20 [.ptr 0 0, .int .i64 n] [.cells [.chan 1, .int .i64 most], .chan cap (ints l)] (fun v V' => v = .int .i64 0 ∧ V' = [.cells [.chan 1, .int .i64 most], .chan cap (ints (l ++ [n]))]) :=
  (Push_ev cap l most n).mono fun v V' ⟨h1, h2⟩ => ⟨by rw [h1, if_pos h], by rw [h2, if_pos h]⟩
theorem PushFull_ev {W0 : World} (cap : Nat) (l : List Int) (most n : Int) (h : ¬ l.length < cap) :
    Ev Try.prog W0 20 [.ptr 0 0, .int .i64 n] [.cells [.chan 1, .int .i64 most], .chan cap (ints l)] (fun v V' => v = .int .i64 9 ∧ V' = [.cells [.chan 1, .int .i64 most], .chan cap (ints l)]) :=
  (Push_ev cap l most n).mono fun v V' ⟨h1, h2⟩ => ⟨by rw [h1, if_neg h], by rw [h2, if_neg h]⟩
theorem PopSome_ev {W0 : World} (cap : Nat) (x : Int) (l : List Int) (most : Int) :
    Ev Try.prog W0 19 [.ptr 0 0] [.cells [.chan 1, .int .i64 most], .chan cap (ints (x :: l))] (fun v V' => v = .tup [.int .i64 x, .bool true] ∧ V' = [.cells [.chan 1, .int .i64 most], .chan cap (ints l)]) :=
  (Pop_ev cap (x :: l) most).mono fun v V' ⟨h1, h2⟩ => ⟨h1, h2⟩
theorem PopNone_ev {W0 : World} (cap : Nat) (most : Int) :
    Ev Try.prog W0 19 [.ptr 0 0] [.cells [.chan 1, .int .i64 most], .chan cap (ints [])] (fun v V' => v = .tup [.int .i64 0, .bool false] ∧ V' = [.cells [.chan 1, .int .i64 most], .chan cap (ints [])]) :=
  (Pop_ev cap [] most).mono fun v V' ⟨h1, h2⟩ => ⟨h1, h2⟩
theorem PopNil_ev {W0 : World} : Ev Try.prog W0 19 [.nilPtr] [] (fun v V' => v = .tup [.int .i64 0, .bool false] ∧ V' = []) := by
  refine ⟨by kernel_rfl, fun φ h w hE rargs hr => ?_⟩
  obtain rfl : rargs = [.pointer none] := by simpa [denL, den, eq_comm] using hr
  refine pop_nil.mono ?_
  rintro e w' ⟨rfl, rfl⟩
  exact ⟨_, _, _, φ, h, rfl, rfl, ⟨rfl, rfl⟩, Phi.le_refl _, hE, Fr.refl _ _⟩
end Go.Proofs.Ytebeabcbbcbdhaa
