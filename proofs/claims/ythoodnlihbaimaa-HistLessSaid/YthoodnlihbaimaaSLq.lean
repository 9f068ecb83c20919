/- A symbolic executor over the model: from what a call does in the virtual heap to what it does in the world; arguments made of integers, bools and strings, opened. -/
import Derived.Test.YthoodnlihbaimaaSLp
import Derived.OpenShut
import Derived.Below
namespace Go.SL
open Go.RowKit
section
variable {P : Program} {W : World}

theorem Ev.run {f : FuncId} {args : List VV} {V : List VB} {Q : VV → List VB → Prop} (he : Ev P W f args V Q) {φ : Phi} {h : Nat → Frag} (hE : Emb W φ V h W) {rargs : List Value} (hr : denL φ args = some rargs) :
    Calls P f rargs.toArray W fun e w' => ∃ v x V' φ', e = .returned x ∧ den φ' v = some x ∧ Q v V' ∧ φ.le φ' ∧ Below W.heap.size W w' := by
  refine (he.2 φ h W hE rargs hr).mono ?_
  rintro e w' ⟨v, x, V', φ', h', rfl, h2, h3, h4, h5, h6⟩
  exact ⟨v, x, V', φ', rfl, h2, h3, h4, ⟨h6.sm.os, h6.sm.tape, h6.sm.output, h6.size, h5.old⟩⟩

/-- A law is true, and leaves what was there. -/
theorem Ev.law {f : FuncId} {args : List VV} {V : List VB} {Q : VV → List VB → Prop} (he : Ev P W f args V Q) (hq : ∀ v V', Q v V' → v = .bool true) {φ : Phi} {h : Nat → Frag} (hE : Emb W φ V h W) {rargs : List Value} (hr : denL φ args = some rargs) :
    Calls P f rargs.toArray W fun e w' => e = .returned (.bool true) ∧ Below W.heap.size W w' := by
  refine (he.run hE hr).mono ?_
  rintro e w' ⟨v, x, V', φ', rfl, h2, h3, _, h5⟩
  have := hq v V' h3
  subst this
  rw [den_bool.1 h2]
  exact ⟨rfl, h5⟩

theorem Emb.nil : Emb W (fun _ => none) [] (fun _ _ => none) W :=
  ⟨Nat.le_refl _, fun _ _ => rfl, (fun _ _ _ h => by cases h), fun _ _ _ _ => .inl rfl, fun _ _ => rfl, (fun _ _ h => by simp at h)⟩
end

/-! ### Flat types -/
def flatFs (fl : TypeId → Option (List Pr)) (P : Program) : Nat → List Field → Option (List Pr)
  | _, [] => some []
  | off, f :: l => match fl f.type with
    | some ps => if f.offset = off ∧ P.cellsOf f.type = ps.length then (flatFs fl P (off + ps.length) l).map (ps ++ ·) else none
    | none => none
def flatT (P : Program) : Nat → TypeId → Option (List Pr)
  | 0, _ => none
  | d + 1, t => match P.underlying t with
    | some (.int k) => some [.i k]
    | some .bool => some [.b]
    | some .string => some [.s]
    | some (.struct fs) => match flatFs (flatT P d) P 0 fs.toList with
      | some ps => if P.cellsOf t = ps.length then some ps else none
      | none => none
    | _ => none
def Mat : List Pr → List Value → Prop
  | [], [] => True
  | .i k :: ps, c :: cs => (∃ n, c = .int k n ∧ (Lit.int k n).wf = true) ∧ Mat ps cs
  | .b :: ps, c :: cs => (∃ n, c = .bool n) ∧ Mat ps cs
  | .s :: ps, c :: cs => (∃ n : ByteArray, c = .string n ∧ n.size ≤ maxLen) ∧ Mat ps cs
  | _, _ => False
theorem Mat.len : ∀ {ps : List Pr} {cs : List Value}, Mat ps cs → cs.length = ps.length
  | [], [], _ => rfl
  | .i _ :: _, _ :: _, h => by simp [Mat.len h.2]
  | .b :: _, _ :: _, h => by simp [Mat.len h.2]
  | .s :: _, _ :: _, h => by simp [Mat.len h.2]
  | [], _ :: _, h => h.elim
  | .i _ :: _, [], h => h.elim
  | .b :: _, [], h => h.elim
  | .s :: _, [], h => h.elim
theorem Mat.i {k : IntKind} {ps : List Pr} : ∀ {cs : List Value}, Mat (.i k :: ps) cs → ∃ n cs', cs = .int k n :: cs' ∧ (Lit.int k n).wf = true ∧ Mat ps cs'
  | _ :: _, ⟨⟨n, h, w⟩, k⟩ => ⟨n, _, by rw [h], w, k⟩
  | [], h => h.elim
theorem Mat.b {ps : List Pr} : ∀ {cs : List Value}, Mat (.b :: ps) cs → ∃ n cs', cs = .bool n :: cs' ∧ Mat ps cs'
  | _ :: _, ⟨⟨n, h⟩, k⟩ => ⟨n, _, by rw [h], k⟩
  | [], h => h.elim
theorem Mat.s {ps : List Pr} : ∀ {cs : List Value}, Mat (.s :: ps) cs → ∃ n cs', cs = .string n :: cs' ∧ n.size ≤ maxLen ∧ Mat ps cs'
  | _ :: _, ⟨⟨n, h, w⟩, k⟩ => ⟨n, _, by rw [h], w, k⟩
  | [], h => h.elim
theorem Mat.nil : ∀ {cs : List Value}, Mat [] cs → cs = []
  | [], _ => rfl
  | _ :: _, h => h.elim
theorem Mat.append : ∀ {ps qs : List Pr} {cs ds : List Value}, Mat ps cs → Mat qs ds → Mat (ps ++ qs) (cs ++ ds)
  | [], _, [], _, _, h => h
  | .i _ :: _, _, _ :: _, _, h, k => ⟨h.1, Mat.append h.2 k⟩
  | .b :: _, _, _ :: _, _, h, k => ⟨h.1, Mat.append h.2 k⟩
  | .s :: _, _, _ :: _, _, h, k => ⟨h.1, Mat.append h.2 k⟩
  | [], _, _ :: _, _, h, _ => h.elim
  | .i _ :: _, _, [], _, h, _ => h.elim
  | .b :: _, _, [], _, h, _ => h.elim
  | .s :: _, _, [], _, h, _ => h.elim

section
variable {H : Type} {enc : TypeId × Value → H} {P : Program} {w : World} {base : Nat} {spare : Nat → Bool} {held : Bool}
theorem flatFs_ok {fl : TypeId → Option (List Pr)} {n : Nat} {cs : List Value} (ih : ∀ t ps cs x, fl t = some ps → DataW.trod enc P w base spare held n t cs = some x → Mat ps cs ∧ x.2 = []) :
    ∀ {l : List Field} {off : Nat} {ps : List Pr} {xs : List (DataW H × List MemPlace)}, flatFs fl P off l = some ps → off + ps.length ≤ cs.length → l.length = xs.length →
      (∀ (i : Nat) (f : Field), l[i]? = some f → DataW.trod enc P w base spare held n f.type ((cs.drop f.offset).take (P.cellsOf f.type)) = xs[i]?) → Mat ps ((cs.drop off).take ps.length) ∧ xs.flatMap (·.2) = []
  | [], off, ps, xs, h, _, hl, _ => by
    simp [flatFs] at h; subst h
    simp at hl
    have : xs = [] := List.eq_nil_of_length_eq_zero hl.symm
    subst this
    simp [Mat]
  | f :: l, off, ps, xs, h, hlen, hl, hx => by
    simp only [flatFs] at h
    split at h
    · rename_i ps1 h1
      split at h
      · rename_i hc
        simp only [Option.map_eq_some_iff] at h
        obtain ⟨ps2, h2, rfl⟩ := h
        match xs, hl with
        | x :: xs, hl =>
          have hx0 := hx 0 f rfl
          rw [hc.1, hc.2] at hx0
          obtain ⟨g1, g2⟩ := ih _ _ _ _ h1 hx0
          simp only [List.length_append] at hlen
          obtain ⟨g3, g4⟩ := flatFs_ok ih (l := l) (xs := xs) h2 (by omega) (by simpa using hl) (fun i f' hf => hx (i + 1) f' (by simpa using hf))
          refine ⟨?_, by simp [g2, g4]⟩
          have := Mat.append g1 g3
          rw [← List.drop_drop, ← List.take_add] at this
          simpa using this
      · cases h
    · cases h
theorem trod_flat : ∀ (d : Nat) (t : TypeId) (ps : List Pr) (fuel : Nat) (cs : List Value) (x : DataW H × List MemPlace), flatT P d t = some ps → DataW.trod enc P w base spare held fuel t cs = some x → Mat ps cs ∧ x.2 = []
  | 0, t, ps, fuel, cs, x, h, _ => by simp [flatT] at h
  | d + 1, t, ps, fuel, cs, x, h, hx => by
    simp only [flatT] at h
    split at h
    · rename_i k hu
      cases h
      obtain ⟨n, h1, h2, h3⟩ := DataW.trod_int hu hx
      subst h1; subst h2
      exact ⟨⟨⟨n, rfl, h3⟩, trivial⟩, rfl⟩
    · rename_i hu
      cases h
      obtain ⟨n, h1, h2⟩ := DataW.trod_bool hu hx
      subst h1; subst h2
      exact ⟨⟨⟨n, rfl⟩, trivial⟩, rfl⟩
    · rename_i hu
      cases h
      obtain ⟨n, h1, h2, h3⟩ := DataW.trod_string hu hx
      subst h1; subst h2
      exact ⟨⟨⟨n, rfl, h3⟩, trivial⟩, rfl⟩
    · rename_i fs hu
      split at h
      · rename_i qs hq
        split at h
        · rename_i hc
          cases h
          obtain ⟨xs, n, rfl, rfl, hl, hlen, hf⟩ := DataW.trod_struct hu hx
          have := flatFs_ok (fun t ps cs x h1 h2 => trod_flat d t ps n cs x h1 h2) (l := fs.toList) (off := 0) (xs := xs) (cs := cs) hq (by omega) (by simpa using hlen.symm) (fun i f hf' => hf i f (by simpa using hf'))
          rw [List.drop_zero, List.take_of_length_le (by omega)] at this
          exact this
        · cases h
      · cases h
    · cases h
open Go.ChangeShapes Go.WideShapes in
/-- A struct handed in, made of integers, bools and strings. -/
theorem open_flat {r : Reach} {b0 : Nat} {d : Nat} {t : TypeId} {fs : Array Field} {ps : List Pr} {v : Value} {dd : DataW H} {p : List MemPlace} (hs : P.underlying t = some (.struct fs)) (hf : flatT P d t = some ps)
    (hv : Value.okWide P w r b0 t v) (h : DataW.Trod enc P w base spare held t v dd p) : ∃ cs : List Value, v = .agg cs.toArray ∧ Mat ps cs ∧ p = [] := by
  obtain ⟨cs, rfl, _⟩ := okWide_struct hs hv
  obtain ⟨fuel, hf'⟩ := h
  obtain ⟨g1, g2⟩ := trod_flat d t ps fuel _ _ hf hf'
  exact ⟨cs.toList, by simp, g1, g2⟩
end
end Go.SL
