/- Texts of one claim, laid into one: SLa SLb SLc SLd SLe SLf SLg SLh. -/
import Derived.Orders
import Derived.Laws.Sem
import Derived.KernelRfl
import Derived.Laws.CopyRow
import Derived.Laws.Cells
import Derived.Laws.Entries
import Derived.Laws.StructEq
set_option linter.unusedVariables false
set_option linter.unusedSimpArgs false
/- A symbolic executor over the model: values and blocks with virtual numbers, and what they stand for in a world. Plain definitions and lemmas; no program in sight. -/
namespace Go.SL

abbrev Frag := Nat → Option Obj
abbrev Phi := Nat → Option (Nat × Nat)

/-- A capacity, or how many cells a row has: a number, or what an entry of the virtual heap stands for. -/
inductive Cap where
  | n (k : Nat)
  | v (cid : Nat)
instance : Coe Nat Cap := ⟨Cap.n⟩
instance {k : Nat} : OfNat Cap k := ⟨Cap.n k⟩
def Cap.cap (φ : Phi) (s n : Nat) : Cap → Option Nat
  | .n c => some c
  | .v i => match φ i with
    | some p => if s + n ≤ p.1 then some (p.1 - s) else none
    | none => none
def Cap.tot (φ : Phi) (esz : Nat) : Cap → Option Nat
  | .n k => some k
  | .v i => (φ i).map fun p => p.1 * esz

/-- Values whose pointers name entries of a virtual heap. -/
inductive VV where
  | int (k : IntKind) (n : Int)
  | bool (b : Bool)
  | str (s : ByteArray)
  | nilPtr
  | ptr (id off : Nat)
  | elt (id esz i off : Nat)
  | nilSl
  | sl (id esz start len : Nat) (cap : Cap)
  | nilMap
  | map (id : Nat)
  | nilChan
  | chan (id : Nat)
  | fn (f : FuncId) (first cap : List VV)
  | nilFn
  | iface (t : TypeId) (v : VV)
  | nilIface
  | agg (cs : List VV)
  | tup (vs : List VV)
  | raw (x : Value)
  | osl (oid : Option Nat) (esz start len cap : Nat)

/-- Entries of a virtual heap. -/
inductive VB where
  | hole
  | emp
  | cells (cs : List VV)
  | arr (esz : Nat) (xs : List (List VV)) (tot : Cap)
  | ro (esz : Nat) (xs : List (List VV))
  | abs (R : Frag → Nat → Prop)
  | chan (cap : Nat) (xs : List VV)
  | map (ks vs : List VV)
  | num

mutual
def den (φ : Phi) : VV → Option Value
  | .int k n => some (.int k n)
  | .bool b => some (.bool b)
  | .str s => some (.string s)
  | .nilPtr => some (.pointer none)
  | .ptr id off => (φ id).map fun p => .pointer (some ⟨p.1, p.2 + off, none⟩)
  | .elt id esz i off => (φ id).map fun p => .pointer (some ⟨p.1, p.2 + (i * esz + off), none⟩)
  | .nilSl => some (.slice none 0 0)
  | .sl id esz start len cap => match φ id, cap.cap φ start len with
    | some p, some c => some (.slice (some ⟨p.1, p.2 + start * esz, none⟩) len c)
    | _, _ => none
  | .nilMap => some (.map none)
  | .map id => (φ id).map fun p => .map (some p.1)
  | .nilChan => some (.chan none)
  | .chan id => (φ id).map fun p => .chan (some p.1)
  | .fn f first cap => match denL φ first, denL φ cap with
    | some a, some b => some (.func (.func f) a.toArray b.toArray)
    | _, _ => none
  | .nilFn => some .nilFunc
  | .iface t v => match den φ v with
    | some x => some (.iface t x)
    | none => none
  | .nilIface => some .nilIface
  | .agg cs => match denL φ cs with
    | some l => some (.agg l.toArray)
    | none => none
  | .tup vs => match denL φ vs with
    | some l => some (.tuple l.toArray)
    | none => none
  | .raw x => some x
  | .osl oid esz start len cap => match oid with
    | some id => (φ id).map fun p => .slice (some ⟨p.1, p.2 + start * esz, none⟩) len cap
    | none => if len = 0 ∧ cap = 0 then some (.slice none 0 0) else none
def denL (φ : Phi) : List VV → Option (List Value)
  | [] => some []
  | v :: l => match den φ v, denL φ l with
    | some x, some r => some (x :: r)
    | _, _ => none
end

/-- It lies in one cell. -/
def VV.one : VV → Bool
  | .agg _ => false
  | .tup _ => false
  | .raw _ => false
  | _ => true
def allOne : List VV → Bool
  | [] => true
  | v :: l => match VV.one v with
    | true => allOne l
    | false => false
def VV.cells : VV → List VV
  | .agg cs => cs
  | .raw x => x.cells.toList.map .raw
  | v => [v]
abbrev vundef : VV := .tup []

def Phi.le (φ φ' : Phi) : Prop := ∀ i x, φ i = some x → φ' i = some x
theorem Phi.le_refl (φ : Phi) : φ.le φ := fun _ _ h => h
theorem Phi.le_trans {φ φ' φ'' : Phi} (h : φ.le φ') (h' : φ'.le φ'') : φ.le φ'' := fun i x e => h' i x (h i x e)

theorem denL_nil (φ : Phi) : denL φ [] = some [] := by simp [denL]
theorem denL_cons {φ : Phi} {v : VV} {l : List VV} {r : List Value} : denL φ (v :: l) = some r ↔ ∃ x s, den φ v = some x ∧ denL φ l = some s ∧ r = x :: s := by
  simp only [denL]
  cases den φ v <;> cases denL φ l <;> simp [eq_comm]

theorem Cap.cap_mono {φ φ' : Phi} (h : φ.le φ') {s n c : Nat} : ∀ {x : Cap}, x.cap φ s n = some c → x.cap φ' s n = some c
  | .n _, e => e
  | .v i, e => by
    simp only [Cap.cap] at e ⊢
    cases hp : φ i with
    | none => simp [hp] at e
    | some p => rw [h i p hp]; simpa [hp] using e
theorem Cap.tot_mono {φ φ' : Phi} (h : φ.le φ') {k c : Nat} : ∀ {x : Cap}, x.tot φ k = some c → x.tot φ' k = some c
  | .n _, e => e
  | .v i, e => by
    simp only [Cap.tot, Option.map_eq_some_iff] at e ⊢
    obtain ⟨p, hp, e⟩ := e
    exact ⟨p, h i p hp, e⟩
mutual
theorem den_mono {φ φ' : Phi} (h : φ.le φ') : ∀ (v : VV) (x : Value), den φ v = some x → den φ' v = some x
  | .int _ _, _ | .bool _, _ | .str _, _ | .nilPtr, _ | .nilSl, _ | .nilMap, _ | .nilChan, _ | .nilFn, _ | .nilIface, _ | .raw _, _ => by simp [den]
  | .sl id _ s n cap, x => by
    simp only [den]
    intro e
    cases hp : φ id with
    | none => simp [hp] at e
    | some p =>
      cases hc : cap.cap φ s n with
      | none => simp [hp, hc] at e
      | some c => rw [h id p hp, Cap.cap_mono h hc]; simpa [hp, hc] using e
  | .ptr id _, x | .elt id _ _ _, x | .map id, x | .chan id, x => by
    simp only [den, Option.map_eq_some_iff]
    rintro ⟨p, hp, e⟩
    exact ⟨p, h _ _ hp, e⟩
  | .osl oid _ _ _ _, x => by
    cases oid with
    | none => exact id
    | some id =>
      simp only [den, Option.map_eq_some_iff]
      rintro ⟨p, hp, e⟩
      exact ⟨p, h _ _ hp, e⟩
  | .fn f a b, x => by
    simp only [den]
    intro e
    cases ha : denL φ a with
    | none => simp [ha] at e
    | some ra =>
      cases hb : denL φ b with
      | none => simp [ha, hb] at e
      | some rb =>
        rw [denL_mono h a ra ha, denL_mono h b rb hb]
        simpa [ha, hb] using e
  | .iface t v, x => by
    simp only [den]
    intro e
    cases hv : den φ v with
    | none => simp [hv] at e
    | some y => rw [den_mono h v y hv]; simpa [hv] using e
  | .agg cs, x => by
    simp only [den]
    intro e
    cases hv : denL φ cs with
    | none => simp [hv] at e
    | some y => rw [denL_mono h cs y hv]; simpa [hv] using e
  | .tup cs, x => by
    simp only [den]
    intro e
    cases hv : denL φ cs with
    | none => simp [hv] at e
    | some y => rw [denL_mono h cs y hv]; simpa [hv] using e
theorem denL_mono {φ φ' : Phi} (h : φ.le φ') : ∀ (l : List VV) (r : List Value), denL φ l = some r → denL φ' l = some r
  | [], r => by simp [denL]
  | v :: l, r => by
    rw [denL_cons, denL_cons]
    rintro ⟨x, s, h1, h2, rfl⟩
    exact ⟨x, s, den_mono h v x h1, denL_mono h l s h2, rfl⟩
end

theorem denL_length {φ : Phi} : ∀ {l : List VV} {r : List Value}, denL φ l = some r → r.length = l.length
  | [], r, h => by simp [denL] at h; subst h; rfl
  | v :: l, r, h => by
    obtain ⟨x, s, _, h2, rfl⟩ := denL_cons.1 h
    simp [denL_length h2]

theorem denL_get {φ : Phi} : ∀ {l : List VV} {r : List Value} {i : Nat} {v : VV}, denL φ l = some r → l[i]? = some v → ∃ x, den φ v = some x ∧ r[i]? = some x
  | [], _, i, _, _, h => by simp at h
  | a :: l, r, i, v, h, hi => by
    obtain ⟨x, s, h1, h2, rfl⟩ := denL_cons.1 h
    cases i with
    | zero => simp at hi; subst hi; exact ⟨x, h1, rfl⟩
    | succ i => simpa using denL_get h2 (by simpa using hi)

theorem denL_append {φ : Phi} : ∀ {l m : List VV} {r : List Value}, denL φ (l ++ m) = some r ↔ ∃ a b, denL φ l = some a ∧ denL φ m = some b ∧ r = a ++ b
  | [], m, r => by simp [denL_nil]
  | v :: l, m, r => by
    rw [List.cons_append, denL_cons]
    constructor
    · rintro ⟨x, s, h1, h2, rfl⟩
      obtain ⟨a, b, ha, hb, rfl⟩ := denL_append.1 h2
      exact ⟨x :: a, b, denL_cons.2 ⟨x, a, h1, ha, rfl⟩, hb, rfl⟩
    · rintro ⟨a, b, ha, hb, rfl⟩
      obtain ⟨x, s, h1, h2, rfl⟩ := denL_cons.1 ha
      exact ⟨x, s ++ b, h1, denL_append.2 ⟨s, b, h2, hb, rfl⟩, rfl⟩

theorem denL_take {φ : Phi} {l : List VV} {r : List Value} (n : Nat) (h : denL φ l = some r) : denL φ (l.take n) = some (r.take n) := by
  rw [← List.take_append_drop n l] at h
  obtain ⟨a, b, ha, hb, rfl⟩ := denL_append.1 h
  have hl := denL_length ha
  rw [ha]
  rw [List.length_take] at hl
  congr 1
  by_cases hn : n ≤ l.length
  · have : a.length = n := by omega
    rw [List.take_append_of_le_length (by omega), List.take_of_length_le (by omega)]
  · have hb0 : b = [] := by
      have := denL_length hb
      rw [List.length_drop] at this
      exact List.eq_nil_of_length_eq_zero (by omega)
    subst hb0
    rw [List.append_nil, List.take_of_length_le (by omega)]

theorem denL_drop {φ : Phi} {l : List VV} {r : List Value} (n : Nat) (h : denL φ l = some r) : denL φ (l.drop n) = some (r.drop n) := by
  have ht := denL_take n h
  have h0 := h
  rw [← List.take_append_drop n l] at h
  obtain ⟨a, b, ha, hb, rfl⟩ := denL_append.1 h
  rw [ht] at ha
  injection ha with ha
  rw [hb]
  congr 1
  have hl := denL_length h0
  have hlen : ((a ++ b).take n).length = min n (a ++ b).length := List.length_take ..
  rw [ha] at hlen
  by_cases hn : n ≤ (a ++ b).length
  · have : a.length = n := by omega
    rw [← this, List.drop_left]
  · have : b.length = 0 := by rw [List.length_append] at *; omega
    have hb0 := List.eq_nil_of_length_eq_zero this
    subst hb0
    rw [List.append_nil, List.drop_of_length_le (by rw [List.append_nil] at hn; omega)]

/-- A slice that may be nil, where it is none. -/
def unO : VV → VV
  | .osl (some id) e s n c => .sl id e s n (.n c)
  | v => v
theorem den_unO {φ : Phi} {v : VV} : den φ (unO v) = den φ v := by
  unfold unO
  split
  · rename_i id _ _ _ _
    simp only [den, Cap.cap]
    cases φ id <;> rfl
  · rfl
theorem one_den {φ : Phi} {v : VV} {x : Value} (h : den φ v = some x) (h1 : v.one = true) : x.oneCell' = true := by
  cases v
  case osl oid e s n c =>
    cases oid with
    | none => simp only [den] at h; split at h <;> cases h; rfl
    | some id => simp only [den, Option.map_eq_some_iff] at h; obtain ⟨p, _, rfl⟩ := h; rfl
  case sl id e s n c =>
    simp only [den] at h
    split at h <;> cases h
    rfl
  all_goals revert h h1
  all_goals intro h h1
  all_goals simp only [den, VV.one] at h h1
  all_goals first
    | (simp at h; subst h; rfl)
    | (simp only [Option.map_eq_some_iff] at h; obtain ⟨p, _, rfl⟩ := h; rfl)
    | (split at h <;> first | (simp at h; subst h; rfl) | (simp at h; done))
    | (cases h1; done)

theorem allOne_mem {l : List VV} (h : allOne l = true) : ∀ v ∈ l, v.one = true := by
  induction l with
  | nil => simp
  | cons a l ih =>
    simp only [allOne] at h
    split at h
    · rename_i h1; intro v hv; cases hv with
      | head => exact h1
      | tail _ hv => exact ih h v hv
    · cases h

theorem allOne_den {φ : Phi} : ∀ {l : List VV} {r : List Value}, denL φ l = some r → allOne l = true → ∀ x ∈ r, x.oneCell' = true
  | [], r, h, _ => by simp [denL] at h; subst h; simp
  | v :: l, r, h, h1 => by
    obtain ⟨x, s, hx, hs, rfl⟩ := denL_cons.1 h
    have hv : v.one = true := allOne_mem h1 v (by simp)
    have hl : allOne l = true := by simp only [allOne, hv] at h1; exact h1
    intro y hy
    cases hy with
    | head => exact one_den hx hv
    | tail _ hy => exact allOne_den hs hl y hy

/-- The cells of what a value stands for. -/
theorem cells_den {φ : Phi} {v : VV} {x : Value} (h : den φ v = some x) : denL φ v.cells = some x.cells.toList := by
  cases v with
  | agg cs =>
    simp only [den] at h
    split at h
    · rename_i l hl; simp at h; subst h; simpa [VV.cells, Value.cells] using hl
    · simp at h
  | raw y =>
    simp only [den] at h
    cases h
    have : ∀ l : List Value, denL φ (l.map .raw) = some l := by
      intro l
      induction l with
      | nil => rfl
      | cons a l ih => exact denL_cons.2 ⟨a, l, rfl, ih, rfl⟩
    exact this _
  | _ =>
    have hx : x.oneCell' = true ∨ ∃ vs, x = .tuple vs := by
      first
      | exact .inl (one_den h rfl)
      | (simp only [den] at h; split at h <;> simp at h; subst h; exact .inr ⟨_, rfl⟩)
    have hc : x.cells = #[x] := by
      rcases hx with hx | ⟨vs, rfl⟩
      · cases x <;> first | rfl | simp [Value.oneCell'] at hx
      · rfl
    rw [hc]
    exact denL_cons.2 ⟨x, [], h, denL_nil φ, rfl⟩

/-! ### What a virtual heap stands for -/

/-- What an entry stands for; 'f': the part of the heap that is its own. -/
def VB.ok (W0 : World) (φ : Phi) (f : Frag) (i : Nat) : VB → Prop
  | .hole => φ i = none
  | .emp => True
  | .cells cs => ∃ b l T, φ i = some (b, 0) ∧ denL φ cs = some l ∧ f b = some (.cells l.toArray T (0, 0))
  | .arr esz xs tot => ∃ b l rest T, φ i = some (b, 0) ∧ denL φ xs.flatten = some l ∧ f b = some (.cells (l ++ rest).toArray T (0, 0)) ∧ tot.tot φ esz = some (l ++ rest).length ∧ (∀ x ∈ xs, x.length = esz)
  | .ro esz xs => ∃ b o l, φ i = some (b, o) ∧ denL φ xs.flatten = some l ∧ (∀ x ∈ xs, x.length = esz) ∧ ∀ (j : Nat) (v : Value), l[j]? = some v → W0.cell? ⟨b, o + j, none⟩ = some v
  | .abs R => ∃ b, φ i = some (b, 0) ∧ R f b
  | .chan cap xs => ∃ b l s r, φ i = some (b, 0) ∧ denL φ xs = some l ∧ f b = some (.chan cap l.toArray false s r false)
  | .map ks vs => ∃ b l m es k, φ i = some (b, 0) ∧ denL φ ks = some l ∧ denL φ vs = some m ∧ f b = some (.map es k) ∧ es.toList.map (·.key) = l ∧ es.toList.map (·.val) = m
  | .num => ∃ c, φ i = some (c, 0)

structure Emb (W0 : World) (φ : Phi) (V : List VB) (h : Nat → Frag) (w : World) : Prop where
  size : W0.heap.size ≤ w.heap.size
  old : ∀ b, b < W0.heap.size → w.heap[b]? = W0.heap[b]?
  sub : ∀ (i b : Nat) (o : Obj), h i b = some o → W0.heap.size ≤ b ∧ w.heap[b]? = some o
  disj : ∀ (i j b : Nat), i ≠ j → h i b = none ∨ h j b = none
  dom : ∀ i, V.length ≤ i → φ i = none
  sat : ∀ (i : Nat) (vb : VB), V[i]? = some vb → vb.ok W0 φ (h i) i

/-- The world beside its heap: the tape, the system, what was written. -/
structure Sm (w w' : World) : Prop where
  os : w'.os = w.os
  tape : w'.tape = w.tape
  output : w'.output = w.output
theorem Sm.refl (w : World) : Sm w w := ⟨rfl, rfl, rfl⟩
theorem Sm.trans {a b c : World} (h : Sm a b) (k : Sm b c) : Sm a c := ⟨k.os.trans h.os, k.tape.trans h.tape, k.output.trans h.output⟩

/-- How a call, or an operation, may change the world: what is not owned stays; what is owned after was owned before, or is new. -/
structure Fr (h h' : Nat → Frag) (w w' : World) : Prop where
  size : w.heap.size ≤ w'.heap.size
  keep : ∀ (x : Nat), x < w.heap.size → (∀ i, h i x = none) → w'.heap[x]? = w.heap[x]?
  own : ∀ (i b : Nat) (o : Obj), h' i b = some o → (∃ j o', h j b = some o') ∨ w.heap.size ≤ b
  sm : Sm w w'

theorem Fr.refl (h : Nat → Frag) (w : World) : Fr h h w w := ⟨Nat.le_refl _, fun _ _ _ => rfl, fun i _ o e => .inl ⟨i, o, e⟩, Sm.refl w⟩
theorem Fr.trans {h h' h'' : Nat → Frag} {w w' w'' : World} (a : Fr h h' w w') (b : Fr h' h'' w' w'') : Fr h h'' w w'' where
  size := Nat.le_trans a.size b.size
  keep := fun x hx hn => by
    rw [b.keep x (Nat.lt_of_lt_of_le hx a.size) ?_, a.keep x hx hn]
    intro i
    cases e : h' i x with
    | none => rfl
    | some o =>
      rcases a.own i x o e with ⟨j, o', hj⟩ | hge
      · rw [hn j] at hj; cases hj
      · omega
  own := fun i x o e => by
    rcases b.own i x o e with ⟨j, o', hj⟩ | hge
    · exact a.own j x o' hj
    · exact .inr (Nat.le_trans a.size hge)
  sm := a.sm.trans b.sm

theorem VB.ok_mono {W0 : World} {φ φ' : Phi} {f : Frag} {i : Nat} {vb : VB} (h : φ.le φ') (hh : vb.ok W0 φ f i) (hn : φ i = none → φ' i = none) : vb.ok W0 φ' f i := by
  cases vb with
  | hole => exact hn hh
  | emp => trivial
  | cells cs => obtain ⟨b, l, T, h1, h2, h3⟩ := hh; exact ⟨b, l, T, h _ _ h1, denL_mono h _ _ h2, h3⟩
  | arr esz xs tot => obtain ⟨b, l, r, T, h1, h2, h3, h4, h5⟩ := hh; exact ⟨b, l, r, T, h _ _ h1, denL_mono h _ _ h2, h3, Cap.tot_mono h h4, h5⟩
  | ro esz xs => obtain ⟨b, o, l, h1, h2, h3⟩ := hh; exact ⟨b, o, l, h _ _ h1, denL_mono h _ _ h2, h3⟩
  | abs R => obtain ⟨b, h1, h2⟩ := hh; exact ⟨b, h _ _ h1, h2⟩
  | chan cap xs => obtain ⟨b, l, s, r, h1, h2, h3⟩ := hh; exact ⟨b, l, s, r, h _ _ h1, denL_mono h _ _ h2, h3⟩
  | map ks vs => obtain ⟨b, l, m, es, k, h1, h2, h3, h4⟩ := hh; exact ⟨b, l, m, es, k, h _ _ h1, denL_mono h _ _ h2, denL_mono h _ _ h3, h4⟩
  | num => obtain ⟨c, h1⟩ := hh; exact ⟨c, h _ _ h1⟩

end Go.SL

/- A symbolic executor over the model: the small code that it runs, and the condition that it computes. -/
namespace Go.SL

/-- An operand. -/
inductive Rd where
  | t (n : Nat)
  | c (v : VV)

abbrev Env := Nat → VV

def Rd.ev (env : Env) : Rd → VV
  | .t n => env n
  | .c v => v
def evs (env : Env) : List Rd → List VV
  | [] => []
  | x :: l => x.ev env :: evs env l

/-- What one cell of a flat value is. -/
inductive Pr where
  | i (k : IntKind)
  | b
  | s
/-- Kinds of what is held against nil. -/
inductive PK where
  | bool | ptr | sl | map | fn | iface

/-- Operations, their types resolved. -/
inductive I where
  | mov (x : Rd)
  | pick (c a b : Rd)
  | new (zs : List VV)
  | box (x : Rd)
  | build (zero : List VV) (parts : List (Nat × Nat × Rd))
  | lit (esz len : Nat) (zero : List VV) (parts : List (Nat × Nat × Rd))
  | ld (n : Nat) (agg : Bool) (a : Rd)
  | st (n : Nat) (a v : Rd)
  | chk (x : Rd)
  | bin (op : BinOp) (x y : Rd)
  | eqp (pk : PK) (neg : Bool) (x y : Rd)
  | eqs (neg : Bool) (ps : List Pr) (x y : Rd)
  | mkc (bytes : Nat) (len : Rd)
  | clen (x : Rd)
  | mlen (x : Rd)
  | cpy (esz : Nat) (x y : Rd)
  | mkm
  | mlk (pr : Pr) (z : VV) (cok : Bool) (x k : Rd)
  | mup (pr : Pr) (x k v : Rd)
  | mdl (pr : Pr) (x k : Rd)
  | not (x : Rd)
  | neg (x : Rd)
  | conv (k : IntKind) (x : Rd)
  | iface (t : TypeId) (x : Rd)
  | fn (f : FuncId) (first cap : List Rd)
  | fad (off : Nat) (x : Rd)
  | fld (off n : Nat) (agg : Bool) (x : Rd)
  | iad (esz : Nat) (x i : Rd)
  | iada (esz len : Nat) (x i : Rd)
  | ext (x : Rd) (i : Nat)
  | len (x : Rd)
  | slen (x : Rd)
  | mk (esz bytes : Nat) (zero : List VV) (len : Rd)
  | sl (esz : Nat) (x : Rd) (lo hi : Option Rd)
  | mn (x y : Rd)
  | mx (x y : Rd)
  | app (esz bytes : Nat) (x y : Rd)
  | call (f : FuncId) (args : List Rd)
  | callv (x : Rd) (args : List Rd)
  | inv (x : Rd) (tbl : List (TypeId × FuncId)) (args : List Rd)

structure IOp where
  dst : Option Nat
  op : I
  guard : Option (Nat × Bool)
  after : List Nat

/- q: it looks at the heap alone; e: it may change it; f: it makes a block, and may be drawn ahead of what is not bound to it -/
inductive DK where
  | q | e | f
structure DS where
  k : DK
  j : Nat
  io : IOp


inductive IC where
  | skip
  | region (ops : List IOp)
  | draw (sch : List DS)
  | seq (a b : IC)
  | cond (c : Rd) (a b : IC)
  | block (id : Nat) (b : IC)
  | loop (b : IC)
  | exit (id : Nat)
  | ret
  | label

def isEq : BinOp → Bool
  | .eql => true | .neq => true | _ => false

/-- Integer arithmetic, as the model has it; the comparisons are `icmp`. -/
def arith (op : BinOp) (k : IntKind) (x y : Int) : Int :=
  match op with
  | .add => k.wrap (x + y)
  | .sub => k.wrap (x - y)
  | .mul => k.wrap (x * y)
  | .quo => k.wrap (x.tdiv y)
  | .rem => x.tmod y
  | .and => k.wrap (BitVec.ofInt k.bits x &&& BitVec.ofInt k.bits y).toNat
  | .or => k.wrap (BitVec.ofInt k.bits x ||| BitVec.ofInt k.bits y).toNat
  | .xor => k.wrap (BitVec.ofInt k.bits x ^^^ BitVec.ofInt k.bits y).toNat
  | .andNot => k.wrap (BitVec.ofInt k.bits x &&& ~~~BitVec.ofInt k.bits y).toNat
  | .shl => k.wrap (x * 2 ^ min y.toNat k.bits)
  | .shr => x.fdiv (2 ^ min y.toNat k.bits)
  | _ => 0
def icmp (op : BinOp) (x y : Int) : Bool :=
  match op with
  | .eql => x == y
  | .neq => x != y
  | .lss => decide (x < y)
  | .leq => decide (x ≤ y)
  | .gtr => decide (x > y)
  | .geq => decide (x ≥ y)
  | _ => false
/-- What must hold lest it panics; 'none': nothing. -/
def needs (op : BinOp) (_x y : Int) : Bool :=
  match op with
  | .quo => y != 0
  | .rem => y != 0
  | .shl => decide (0 ≤ y)
  | .shr => decide (0 ≤ y)
  | _ => true
inductive Sort3 | ar | arN | cmp
def sortOf : BinOp → Sort3
  | .add => .ar | .sub => .ar | .mul => .ar | .and => .ar | .or => .ar | .xor => .ar | .andNot => .ar
  | .quo => .arN | .rem => .arN | .shl => .arN | .shr => .arN
  | .eql => .cmp | .neq => .cmp | .lss => .cmp | .leq => .cmp | .gtr => .cmp | .geq => .cmp

def strEq (a b : ByteArray) : Bool := a.toList == b.toList

/-- Equality of values cell by cell (integers, bools, strings alone; else false: not used). -/
def eqV : VV → VV → Bool
  | .int _ a, .int _ b => a == b
  | .bool a, .bool b => a == b
  | .str a, .str b => strEq a b
  | _, _ => false
def eqL : List VV → List VV → Bool
  | [], [] => true
  | a :: l, b :: m => eqV a b && eqL l m
  | _, _ => false
def matV : List Pr → List VV → Bool
  | [], [] => true
  | .i k :: ps, .int k' _ :: l => match decide (k = k') with | true => matV ps l | false => false
  | .b :: ps, .bool _ :: l => matV ps l
  | .s :: ps, .str _ :: l => matV ps l
  | _, _ => false
/-- Elements laid over others from a place on. -/
def ovlF (xs : List (List VV)) (s : Nat) (ys : List (List VV)) (k : Nat) : List (List VV) := xs.take s ++ ys.take k ++ xs.drop (s + k)
/-! Maps: keys and values, in their order. -/
def keyOk : Pr → VV → Bool
  | .i k, .int k' _ => decide (k = k')
  | .b, .bool _ => true
  | .s, .str _ => true
  | _, _ => false
def kallF (pr : Pr) (ks : List VV) : Bool := ks.all (keyOk pr)
def kfind : List VV → VV → Option Nat
  | [], _ => none
  | e :: l, k => if eqV k e then some 0 else (kfind l k).map (· + 1)
def mvalF (ks vs : List VV) (k : VV) : Option VV := (kfind ks k).bind fun i => vs[i]?
def mksF (ks : List VV) (k : VV) : List VV := match kfind ks k with | some _ => ks | none => ks ++ [k]
def mvsF (ks vs : List VV) (k v : VV) : List VV := match kfind ks k with | some i => vs.set i v | none => vs ++ [v]
def dksF (ks : List VV) (k : VV) : List VV := match kfind ks k with | some i => ks.eraseIdx i | none => ks
def dvsF (ks vs : List VV) (k : VV) : List VV := match kfind ks k with | some i => vs.eraseIdx i | none => vs
def plainV : VV → Bool
  | .int _ _ => true | .bool _ => true | .str _ => true | _ => false
def samePlain : VV → VV → Bool
  | .int k _, .int k' _ => decide (k = k')
  | .bool _, .bool _ => true
  | .str _, .str _ => true
  | _, _ => false
def sameKinds : List VV → List VV → Bool
  | [], [] => true
  | a :: l, b :: m => match samePlain a b with | true => sameKinds l m | false => false
  | _, _ => false

/-- What the executor keeps closed; each field is said by its equation. -/
structure Ops (EV : FuncId → List VV → List VB → (VV → List VB → Prop) → Prop) (RE : (Env → List VB → Prop) → Env → List VB → Prop) where
  ar : BinOp → IntKind → Int → Int → Int
  cmp : BinOp → Int → Int → Bool
  need : BinOp → Int → Int → Bool
  wr : IntKind → Int → Int
  not : Bool → Bool
  beq : Bool → Bool → Bool
  sel : Bool → Bool → Bool → Bool
  steq : ByteArray → ByteArray → Bool
  eqs : List VV → List VV → Bool
  len : List VV → Nat
  nmn : Nat → Nat → Nat
  ovl : List (List VV) → Nat → List (List VV) → Nat → List (List VV)
  kall : Pr → List VV → Bool
  mval : List VV → List VV → VV → Option VV
  mks : List VV → VV → List VV
  mvs : List VV → List VV → VV → VV → List VV
  dks : List VV → VV → List VV
  dvs : List VV → List VV → VV → List VV
  inb : Int → Nat → Bool
  mn : Int → Int → Int
  mx : Int → Int → Int
  nat : Int → Nat
  nadd : Nat → Nat → Nat
  nmul : Nat → Nat → Nat
  nle : Nat → Nat → Bool
  get : List (List VV) → Nat → Option (List VV)
  set : List (List VV) → Nat → List VV → List (List VV)
  cat : List (List VV) → List (List VV) → List (List VV)
  rep : Nat → List VV → List (List VV)
  sub : List (List VV) → Nat → Nat → List (List VV)
  size : ByteArray → Nat
  nsub : Nat → Nat → Nat
  soff : Nat → Nat → Nat → Nat
  slb : Int → Int → Nat → Bool
  slv : Int → Int → Nat → Bool
  ll : List (List VV) → Nat
  all1 : List (List VV) → Bool
  re : (Env → List VB → Prop) → Env → List VB → Prop
  ev : FuncId → List VV → List VB → (VV → List VB → Prop) → Prop
  ar_eq : ar = arith
  cmp_eq : cmp = icmp
  need_eq : need = needs
  wr_eq : wr = IntKind.wrap
  not_eq : not = Bool.not
  beq_eq : beq = fun a b => a == b
  sel_eq : sel = fun c a b => match c with | true => a | false => b
  steq_eq : steq = strEq
  eqs_eq : eqs = eqL
  len_eq : len = List.length
  nmn_eq : nmn = Nat.min
  ovl_eq : ovl = ovlF
  kall_eq : kall = kallF
  mval_eq : mval = mvalF
  mks_eq : mks = mksF
  mvs_eq : mvs = mvsF
  dks_eq : dks = dksF
  dvs_eq : dvs = dvsF
  inb_eq : inb = fun (i : Int) (n : Nat) => decide (0 ≤ i ∧ i < (n : Int))
  mn_eq : mn = fun x y => if y < x then y else x
  mx_eq : mx = fun x y => if y > x then y else x
  nat_eq : nat = Int.toNat
  nadd_eq : nadd = fun a b => a + b
  nmul_eq : nmul = fun a b => a * b
  nle_eq : nle = fun a b => decide (a ≤ b)
  get_eq : get = fun l i => l[i]?
  set_eq : set = fun l i x => l.set i x
  cat_eq : cat = fun a b => a ++ b
  rep_eq : rep = List.replicate
  sub_eq : sub = fun l a n => (l.drop a).take n
  size_eq : size = ByteArray.size
  nsub_eq : nsub = fun a b => a - b
  soff_eq : soff = fun s l c => if c = l then s else s + l
  slb_eq : slb = fun (l h : Int) (c : Nat) => decide (0 ≤ l ∧ l ≤ h ∧ h ≤ (c : Int))
  slv_eq : slv = fun (l h : Int) (n : Nat) => decide (0 ≤ l ∧ l ≤ h ∧ h ≤ (n : Int) ∧ (l = 0 ∨ l < (n : Int)))
  ll_eq : ll = List.length
  all1_eq : all1 = fun l => l.all allOne
  re_eq : re = RE
  ev_eq : ev = EV

def ops (EV : FuncId → List VV → List VB → (VV → List VB → Prop) → Prop) (RE : (Env → List VB → Prop) → Env → List VB → Prop) : Ops EV RE :=
  { ar := _, cmp := _, need := _, wr := _, not := _, beq := _, sel := _, steq := _, eqs := _, len := _, nmn := _, ovl := _, kall := _, mval := _, mks := _, mvs := _, dks := _, dvs := _, inb := _, mn := _, mx := _, nat := _, nadd := _, nmul := _, nle := _, get := _, set := _, cat := _, rep := _, sub := _, size := _, nsub := _, soff := _, slb := _, slv := _, ll := _, all1 := _, re := _, ev := _
    ar_eq := rfl, cmp_eq := rfl, need_eq := rfl, wr_eq := rfl, not_eq := rfl, beq_eq := rfl, sel_eq := rfl, steq_eq := rfl, eqs_eq := rfl, len_eq := rfl, nmn_eq := rfl, ovl_eq := rfl, kall_eq := rfl, mval_eq := rfl, mks_eq := rfl, mvs_eq := rfl, dks_eq := rfl, dvs_eq := rfl, inb_eq := rfl, mn_eq := rfl, mx_eq := rfl, nat_eq := rfl, nadd_eq := rfl, nmul_eq := rfl, nle_eq := rfl, get_eq := rfl, set_eq := rfl, cat_eq := rfl, rep_eq := rfl, sub_eq := rfl, size_eq := rfl, nsub_eq := rfl, soff_eq := rfl, slb_eq := rfl, slv_eq := rfl, ll_eq := rfl, all1_eq := rfl, re_eq := rfl, ev_eq := rfl }

/-! Lists, by recursion that computes. -/
def lget {α : Type} : List α → Nat → Option α
  | [], _ => none
  | a :: _, 0 => some a
  | _ :: l, n + 1 => lget l n
def lset {α : Type} : List α → Nat → α → List α
  | [], _, _ => []
  | _ :: l, 0, x => x :: l
  | a :: l, n + 1, x => a :: lset l n x
def llen {α : Type} : List α → Nat
  | [] => 0
  | _ :: l => llen l + 1
def lapp {α : Type} : List α → List α → List α
  | [], m => m
  | a :: l, m => a :: lapp l m
/-- n cells from a place on. -/
def rdn (cs : List VV) (off n : Nat) : Option (List VV) :=
  match cs, off, n with
  | _, 0, 0 => some []
  | a :: l, 0, n + 1 => match rdn l 0 n with
    | some r => some (a :: r)
    | none => none
  | _ :: l, o + 1, n => rdn l o n
  | [], _ + 1, _ => none
  | [], 0, _ + 1 => none
/-- Cells laid over others from a place on. -/
def wrn (cs : List VV) (off : Nat) (xs : List VV) : Option (List VV) :=
  match cs, off, xs with
  | cs, 0, [] => some cs
  | _ :: l, 0, x :: xs => match wrn l 0 xs with
    | some r => some (x :: r)
    | none => none
  | a :: l, o + 1, xs => match wrn l o xs with
    | some r => some (a :: r)
    | none => none
  | [], _ + 1, _ => none
  | [], 0, _ :: _ => none
def pack (agg : Bool) (l : List VV) : Option VV :=
  match agg with
  | true => some (.agg l)
  | false => match l with
    | [v] => some v
    | _ => none
def fillV (env : Env) : List VV → List (Nat × Nat × Rd) → Option (List VV)
  | cells, [] => some cells
  | cells, (off, n, x) :: rest =>
    match Nat.beq (llen (x.ev env).cells) n with
    | true => match wrn cells off (x.ev env).cells with
      | some c => fillV env c rest
      | none => none
    | false => none

section
variable {EV : FuncId → List VV → List VB → (VV → List VB → Prop) → Prop} {RE : (Env → List VB → Prop) → Env → List VB → Prop} (o : Ops EV RE)

def eqNil : PK → VV → VV → Option Bool
  | .ptr, .nilPtr, .nilPtr => some true
  | .ptr, .nilPtr, .ptr _ _ => some false
  | .ptr, .nilPtr, .elt _ _ _ _ => some false
  | .ptr, .ptr _ _, .nilPtr => some false
  | .ptr, .elt _ _ _ _, .nilPtr => some false
  | .sl, .nilSl, .nilSl => some true
  | .sl, .sl _ _ _ _ _, .nilSl => some false
  | .iface, .nilIface, .iface _ _ => some false
  | .iface, .iface _ _, .nilIface => some false
  | .iface, .nilIface, .nilIface => some true
  | .fn, .nilFn, .nilFn => some true
  | .fn, .fn _ _ _, .nilFn => some false
  | .map, .nilMap, .nilMap => some true
  | .map, .map _, .nilMap => some false
  | _, _, _ => none

/-- What an operation yields that looks at its operands alone, and what must hold for that. -/
def pval (op : I) (env : Env) : Option (VV × Option Bool) :=
  match op with
  | .mov x => some (x.ev env, none)
  | .pick c a b => match c.ev env with
    | .bool t => match t with
      | true => some (a.ev env, none)
      | false => some (b.ev env, none)
    | _ => none
  | .build zero parts => match fillV env zero parts with
    | some cs => some (.agg cs, none)
    | none => none
  | .chk x => match x.ev env with
    | .ptr i f => some (.ptr i f, none)
    | .elt i e j f => some (.elt i e j f, none)
    | .fn f a b => some (.fn f a b, none)
    | _ => none
  | .bin op x y => match x.ev env, y.ev env with
    | .int k a, .int k' b => match sortOf op with
      | .ar => match decide (k = k') with
        | true => some (.int k (o.ar op k a b), none)
        | false => none
      | .arN => match op with
        | .shl => some (.int k (o.ar op k a b), some (o.need op a b))
        | .shr => some (.int k (o.ar op k a b), some (o.need op a b))
        | _ => match decide (k = k') with
          | true => some (.int k (o.ar op k a b), some (o.need op a b))
          | false => none
      | .cmp => match decide (k = k') with
        | true => some (.bool (o.cmp op a b), none)
        | false => none
    | .str a, .str b => match op with
      | .eql => some (.bool (o.steq a b), none)
      | .neq => some (.bool (o.not (o.steq a b)), none)
      | _ => none
    | _, _ => none
  | .eqp .bool neg x y => match x.ev env, y.ev env with
    | .bool a, .bool b => match neg with
      | true => some (.bool (o.not (o.beq a b)), none)
      | false => some (.bool (o.beq a b), none)
    | _, _ => none
  | .eqp pk neg x y => match eqNil pk (x.ev env) (y.ev env) with
    | some b => match neg with
      | true => some (.bool (o.not b), none)
      | false => some (.bool b, none)
    | none => none
  | .eqs neg ps x y => match x.ev env, y.ev env with
    | .agg a, .agg b => match matV ps a with
      | true => match matV ps b with
        | true => match neg with
          | true => some (.bool (o.not (o.eqs a b)), none)
          | false => some (.bool (o.eqs a b), none)
        | false => none
      | false => none
    | _, _ => none
  | .not x => match x.ev env with
    | .bool b => some (.bool (o.not b), none)
    | _ => none
  | .neg x => match x.ev env with
    | .int k n => some (.int k (o.ar .sub k 0 n), none)
    | _ => none
  | .conv k x => match x.ev env with
    | .int _ n => some (.int k (o.wr k n), none)
    | _ => none
  | .iface t x => some (.iface t (x.ev env), none)
  | .fn f a b => some (.fn f (evs env a) (evs env b), none)
  | .fad off x => match x.ev env with
    | .ptr i f => some (.ptr i (Nat.add f off), none)
    | .elt i e j f => some (.elt i e j (Nat.add f off), none)
    | _ => none
  | .fld off n agg x => match x.ev env with
    | .agg cs => match rdn cs off n with
      | some l => match pack agg l with
        | some v => some (v, none)
        | none => none
      | none => none
    | _ => none
  | .iad esz x i => match unO (x.ev env), i.ev env with
    | .sl id e s n _, .int _ j => match Nat.beq e esz with
      | true => some (.elt id e (o.nadd s (o.nat j)) 0, some (o.inb j n))
      | false => none
    | _, _ => none
  | .sl esz x lo hi => match x.ev env with
    | .sl id e s n (.v c) => match Nat.beq e esz with
      | true => match lo, hi with
        | none, none => some (.sl id e s n (.v c), none)
        | none, some h => match h.ev env with
          | .int _ h => some (.sl id e s (o.nat h) (.v c), some (o.slb 0 h n))
          | _ => none
        | some l, none => match l.ev env with
          | .int _ l => some (.sl id e (o.nadd s (o.nat l)) (o.nsub n (o.nat l)) (.v c), some (o.slv l (Int.ofNat n) n))
          | _ => none
        | some l, some h => match l.ev env, h.ev env with
          | .int _ l, .int _ h => some (.sl id e (o.nadd s (o.nat l)) (o.nsub (o.nat h) (o.nat l)) (.v c), some (o.slv l h n))
          | _, _ => none
      | false => none
    | .sl id e s n (.n c) => match Nat.beq e esz with
      | true => match lo, hi with
        | none, none => some (.sl id e s n (.n c), none)
        | none, some h => match h.ev env with
          | .int _ h => some (.sl id e s (o.nat h) (.n c), some (o.slb 0 h c))
          | _ => none
        | some l, none => match l.ev env with
          | .int _ l => some (.sl id e (o.soff s (o.nat l) c) (o.nsub n (o.nat l)) (.n (o.nsub c (o.nat l))), some (o.slb l (Int.ofNat n) c))
          | _ => none
        | some l, some h => match l.ev env, h.ev env with
          | .int _ l, .int _ h => some (.sl id e (o.soff s (o.nat l) c) (o.nsub (o.nat h) (o.nat l)) (.n (o.nsub c (o.nat l))), some (o.slb l h c))
          | _, _ => none
      | false => none
    | _ => none
  | .ext x i => match x.ev env with
    | .tup vs => match lget vs i with
      | some v => some (v, none)
      | none => none
    | _ => none
  | .len x => match x.ev env with
    | .sl _ _ _ n _ => some (.int .i64 (Int.ofNat n), none)
    | .osl _ _ _ n _ => some (.int .i64 (Int.ofNat n), none)
    | .nilSl => some (.int .i64 (Int.ofNat 0), none)
    | _ => none
  | .slen x => match x.ev env with
    | .str s => some (.int .i64 (Int.ofNat (o.size s)), none)
    | _ => none
  | .mn x y => match x.ev env, y.ev env with
    | .int k a, .int _ b => some (.int k (o.mn a b), none)
    | _, _ => none
  | .mx x y => match x.ev env, y.ev env with
    | .int k a, .int _ b => some (.int k (o.mx a b), none)
    | _, _ => none
  | _ => none

/-- What a load yields. -/
def lval (op : I) (env : Env) (V : List VB) : Option VV :=
  match op with
  | .ld n agg a => match a.ev env with
    | .ptr i off => match lget V i with
      | some (.cells cs) => match rdn cs off n with
        | some l => pack agg l
        | none => none
      | _ => none
    | .elt i e j off => match lget V i with
      | some (.arr e' xs _) => match Nat.beq e e' with
        | true => match o.get xs j with
          | some cs => match rdn cs off n with
            | some l => pack agg l
            | none => none
          | none => none
        | false => none
      | some (.ro e' xs) => match Nat.beq e e' with
        | true => match o.get xs j with
          | some cs => match rdn cs off n with
            | some l => pack agg l
            | none => none
          | none => none
        | false => none
      | _ => none
    | _ => none
  | _ => none

/-- What an operation makes that makes a block: the block, the value at its number, what must hold. -/
def litCells (env : Env) : List (List VV) → List (Nat × Nat × Rd) → Option (List (List VV))
  | xs, [] => some xs
  | xs, (i, n, x) :: rest =>
    match Nat.beq (llen (x.ev env).cells) n with
    | true => match lget xs i with
      | some _ => litCells env (lset xs i (x.ev env).cells) rest
      | none => none
    | false => none
def lrep {α : Type} : Nat → α → List α
  | 0, _ => []
  | n + 1, x => x :: lrep n x
def fresh (op : I) (env : Env) (n : Nat) : Option (VB × VV × Option Bool) :=
  match op with
  | .new zs => some (.cells zs, .ptr n 0, none)
  | .box x => some (.cells (x.ev env).cells, .ptr n 0, none)
  | .lit esz len zero parts => match litCells env (lrep len zero) parts with
    | some xs => some (.arr esz xs (.n (Nat.mul len esz)), .sl n esz 0 len (.n len), none)
    | none => none
  | .mk esz bytes zero len => match len.ev env with
    | .int _ k => some (.arr esz (o.rep (o.nat k) zero) (.n (o.nmul (o.nat k) esz)), .sl n esz 0 (o.nat k) (.n (o.nat k)), some (o.inb k bytes))
    | _ => none
  | .mkm => some (.map [] [], .map n, none)
  | .mkc bytes len => match len.ev env with
    | .int _ k => some (.chan (o.nat k) [], .chan n, some (o.inb k bytes))
    | _ => none
  | _ => none

/-- What is appended: its elements. -/
def appSrc (esz : Nat) (y : VV) (V : List VB) : Option (List (List VV) × Nat) :=
  match unO y with
  | .sl id e s m _ => match Nat.beq e esz with
    | true => match lget V id with
      | some (.arr e' ys _) => match Nat.beq e' esz with
        | true => some (o.sub ys s m, m)
        | false => none
      | some (.ro e' ys) => match Nat.beq e' esz with
        | true => some (o.sub ys s m, m)
        | false => none
      | _ => none
    | false => none
  | _ => none
/-- What changes the heap, or may. -/
def weff (op : I) (env : Env) (V : List VB) (K : VV → List VB → Prop) : Prop :=
  match op with
  | .st n a v => match Nat.beq (llen (v.ev env).cells) n with
    | true => match allOne (v.ev env).cells with
      | true => match a.ev env with
        | .ptr i off => match lget V i with
          | some (.cells cs) => match wrn cs off (v.ev env).cells with
            | some cs' => K vundef (lset V i (.cells cs'))
            | none => False
          | _ => False
        | .elt i e j off => match lget V i with
          | some (.arr e' xs tot) => match Nat.beq e e' with
            | true => match o.get xs j with
              | some cs => match wrn cs off (v.ev env).cells with
                | some cs' => K vundef (lset V i (.arr e' (o.set xs j cs') tot))
                | none => False
              | none => False
            | false => False
          | _ => False
        | _ => False
      | false => False
    | false => False
  | .app esz bytes x y => match appSrc o esz (y.ev env) V with
    | some (ys, m) => o.ll ys = m ∧ o.all1 ys = true ∧ (match x.ev env with
      | .nilSl => (o.nle 1 m = true ∧ o.nle (o.nmul m bytes) 140737488355328 = true) ∧ ((∀ c, o.nle m c = true → K (.sl (llen V) esz 0 m (.n c)) (lapp V [.arr esz ys (.n (o.nmul c esz))])) ∨ ∀ _ : Unit, K (.sl (Nat.succ (llen V)) esz 0 m (.v (llen V))) (lapp V [.num, .arr esz ys (.v (llen V))]))
      | .sl id e 0 n (.n c) => match lget V id with
        | some (.arr e' xs (.n tot)) => match Nat.beq e esz with
          | true => match Nat.beq e' esz with
            | true => (o.ll xs = n ∧ tot = o.nmul c esz ∧ o.nle (o.nmul (o.nadd n m) bytes) 140737488355328 = true) ∧
              ((∀ c', o.nle (o.nadd n m) c' = true → K (.sl (llen V) esz 0 (o.nadd n m) (.n c')) (lapp (lset V id .emp) [.arr esz (o.cat xs ys) (.n (o.nmul c' esz))])) ∨
              ∀ _ : Unit, K (.sl (Nat.succ (llen V)) esz 0 (o.nadd n m) (.v (llen V))) (lapp (lset V id .emp) [.num, .arr esz (o.cat xs ys) (.v (llen V))]))
            | false => False
          | false => False
        | _ => False
      | .sl id e 0 n (.v c) => match lget V id with
        | some (.arr e' xs (.v c')) => match Nat.beq e esz with
          | true => match Nat.beq e' esz with
            | true => match Nat.beq c c' with
              | true => (o.ll xs = n ∧ o.nle (o.nmul (o.nadd n m) bytes) 140737488355328 = true) ∧
                K (.sl (Nat.succ (llen V)) esz 0 (o.nadd n m) (.v (llen V))) (lapp (lset V id .emp) [.num, .arr esz (o.cat xs ys) (.v (llen V))])
              | false => False
            | false => False
          | false => False
        | _ => False
      | _ => False)
    | none => match y.ev env with
      | .nilSl => (match x.ev env with
        | .nilSl => K .nilSl V
        | .sl id e s n (.n c) => o.nle n c = true ∧ K (.sl id e s n (.n c)) V
        | _ => False)
      | _ => False
  | .clen x => match x.ev env with
    | .chan id => match lget V id with
      | some (.chan _ xs) => K (.int .i64 (Int.ofNat (o.len xs))) V
      | _ => False
    | .nilChan => K (.int .i64 0) V
    | _ => False
  | .cpy esz x y => match appSrc o esz (y.ev env) V with
    | some (ys, m) => match x.ev env with
      | .sl id e s n _ => match lget V id with
        | some (.arr e' xs tot) => match Nat.beq e esz with
          | true => match Nat.beq e' esz with
            | true => (o.ll ys = m ∧ o.all1 ys = true ∧ o.nle (o.nadd s n) (o.ll xs) = true) ∧ K (.int .i64 (Int.ofNat (o.nmn m n))) (lset V id (.arr e' (o.ovl xs s ys (o.nmn m n)) tot))
            | false => False
          | false => False
        | _ => False
      | _ => False
    | none => False
  | .mlen x => match x.ev env with
    | .map id => match lget V id with
      | some (.map ks _) => K (.int .i64 (Int.ofNat (o.len ks))) V
      | _ => False
    | .nilMap => K (.int .i64 0) V
    | _ => False
  | .mlk pr z cok x k => match keyOk pr (k.ev env) with
    | true => match x.ev env with
      | .nilMap => match cok with
        | true => K (.tup [z, .bool false]) V
        | false => K z V
      | .map id => match lget V id with
        | some (.map ks vs) => o.kall pr ks = true ∧ (match o.mval ks vs (k.ev env) with
          | some v => match cok with
            | true => K (.tup [v, .bool true]) V
            | false => K v V
          | none => match cok with
            | true => K (.tup [z, .bool false]) V
            | false => K z V)
        | _ => False
      | _ => False
    | false => False
  | .mup pr x k v => match keyOk pr (k.ev env) with
    | true => match VV.one (v.ev env) with
      | true => match x.ev env with
        | .map id => match lget V id with
          | some (.map ks vs) => o.kall pr ks = true ∧ K vundef (lset V id (.map (o.mks ks (k.ev env)) (o.mvs ks vs (k.ev env) (v.ev env))))
          | _ => False
        | _ => False
      | false => False
    | false => False
  | .mdl pr x k => match keyOk pr (k.ev env) with
    | true => match x.ev env with
      | .nilMap => K vundef V
      | .map id => match lget V id with
        | some (.map ks vs) => o.kall pr ks = true ∧ K vundef (lset V id (.map (o.dks ks (k.ev env)) (o.dvs ks vs (k.ev env))))
        | _ => False
      | _ => False
    | false => False
  | .call f args => o.ev f (evs env args) V K
  | .callv x args => match x.ev env with
    | .fn f first cap => o.ev f (lapp first (lapp (evs env args) cap)) V K
    | _ => False
  | .inv x tbl args => match x.ev env with
    | .iface t v => match tbl.find? (fun p => Nat.beq p.1 t) with
      | some (_, f) => o.ev f (v :: evs env args) V K
      | none => False
    | _ => False
  | _ => False

def ifB (b : Bool) (A B : Unit → Prop) : Prop :=
  match b with
  | true => A ()
  | false => B ()
theorem ifB_split {b : Bool} {A B : Unit → Prop} (h1 : b = true → A ()) (h2 : b = false → B ()) : ifB b A B := by
  cases b
  · exact h2 rfl
  · exact h1 rfl
abbrev mtP (b : Bool) (A B : Prop) : Prop :=
  match b with
  | true => A
  | false => B
theorem mt {b : Bool} {A B : Prop} (h1 : b = true → A) (h2 : b = false → B) : mtP b A B := by
  cases b
  · exact h2 rfl
  · exact h1 rfl
theorem ifB_true {b : Bool} {A B : Unit → Prop} (h : ifB b A B) (hb : b = true) : A () := by subst hb; exact h
theorem ifB_false {b : Bool} {A B : Unit → Prop} (h : ifB b A B) (hb : b = false) : B () := by subst hb; exact h

/-- The condition of one operation. -/
def wop (op : I) (env : Env) (V : List VB) (K : VV → List VB → Prop) : Prop :=
  match pval o op env with
  | some (v, none) => K v V
  | some (v, some b) => b = true ∧ K v V
  | none => match lval o op env V with
    | some v => K v V
    | none => match fresh o op env (llen V) with
      | some (vb, v, none) => K v (lapp V [vb])
      | some (vb, v, some b) => b = true ∧ K v (lapp V [vb])
      | none => weff o op env V K

def put (env : Env) (d : Option Nat) (v : VV) : Env :=
  match d with
  | some d => fun t => match Nat.beq t d with
    | true => v
    | false => env t
  | none => env

/-- One operation of a region, its guard looked at. -/
def wost (i : IOp) (rest : Env → List VB → Prop) (env : Env) (V : List VB) : Prop :=
  match i.guard with
    | none => wop o i.op env V fun v V => rest (put env i.dst v) V
    | some (g, want) => match env g with
      | .bool b => ifB b
        (fun _ => match want with
          | true => wop o i.op (put env (some g) (.bool true)) V fun v V => rest (put (put env (some g) (.bool true)) i.dst v) V
          | false => rest (put (put env (some g) (.bool true)) i.dst vundef) V)
        (fun _ => match want with
          | false => wop o i.op (put env (some g) (.bool false)) V fun v V => rest (put (put env (some g) (.bool false)) i.dst v) V
          | true => rest (put (put env (some g) (.bool false)) i.dst vundef) V)
      | .raw _ => False
      | _ => rest (put env i.dst vundef) V

def wops (K : Env → List VB → Prop) : Env → List VB → List IOp → Prop
  | env, V, [] => K env V
  | env, V, i :: l => wost o i (fun env V => wops K env V l) env V

/-- What was loaded, where: the operation's place, the pointer, how many cells, what they held. -/
structure Pin where
  j : Nat
  p : VV
  n : Nat
  agg : Bool
  v : VV
def ldAt (p : VV) (n : Nat) (agg : Bool) (V : List VB) : Option VV :=
  match p with
  | .ptr i off => match lget V i with
    | some (.cells cs) => match rdn cs off n with
      | some l => pack agg l
      | none => none
    | _ => none
  | .elt i e j off => match lget V i with
    | some (.arr e' xs _) => match Nat.beq e e' with
      | true => match o.get xs j with
        | some cs => match rdn cs off n with
          | some l => pack agg l
          | none => none
        | none => none
      | false => none
    | some (.ro e' xs) => match Nat.beq e e' with
      | true => match o.get xs j with
        | some cs => match rdn cs off n with
          | some l => pack agg l
          | none => none
        | none => none
      | false => none
    | _ => none
  | _ => none
def pinsOk : List Pin → List VB → Prop
  | [], _ => True
  | q :: l, V => ldAt o q.p q.n q.agg V = some q.v ∧ pinsOk l V
def hasNat : List Nat → Nat → Bool
  | [], _ => false
  | a :: l, x => match Nat.beq a x with
    | true => true
    | false => hasNat l x
def keepPins (after : List Nat) : List Pin → List Pin
  | [] => []
  | q :: l => match hasNat after q.j with
    | true => keepPins after l
    | false => q :: keepPins after l
def mkPin (j : Nat) (op : I) (env : Env) (v : VV) : Option Pin :=
  match op with
  | .ld n agg a => some ⟨j, a.ev env, n, agg, v⟩
  | _ => none
/-- One step of a region that draws its order, its guard decided. -/
def wdex (s : DS) (pins : List Pin) (rest : List Pin → Env → List VB → Prop) (env : Env) (V : List VB) : Prop :=
  match s.k with
  | .q => match pval o s.io.op env with
    | some (v, none) => rest pins (put env s.io.dst v) V
    | some (v, some b) => b = true ∧ rest pins (put env s.io.dst v) V
    | none => match lval o s.io.op env V with
      | some v => match mkPin s.j s.io.op env v with
        | some pin => rest (pin :: pins) (put env s.io.dst v) V
        | none => False
      | none => False
  | _ => wop o s.io.op env V fun v V' => pinsOk o (keepPins s.io.after pins) V' ∧ rest (keepPins s.io.after pins) (put env s.io.dst v) V'
def wdsk (s : DS) (pins : List Pin) (rest : List Pin → Env → List VB → Prop) (env : Env) (V : List VB) : Prop :=
  rest (match s.k with | .q => pins | _ => keepPins s.io.after pins) (put env s.io.dst vundef) V

/-- One step of it, its guard looked at. -/
def wdst (s : DS) (pins : List Pin) (rest : List Pin → Env → List VB → Prop) (env : Env) (V : List VB) : Prop :=
  match s.io.guard with
    | none => wdex o s pins rest env V
    | some (g, want) => match env g with
      | .bool b => ifB b
        (fun _ => match want with
          | true => wdex o s pins rest (put env (some g) (.bool true)) V
          | false => wdsk s pins rest (put env (some g) (.bool true)) V)
        (fun _ => match want with
          | false => wdex o s pins rest (put env (some g) (.bool false)) V
          | true => wdsk s pins rest (put env (some g) (.bool false)) V)
      | .raw _ => False
      | _ => wdsk s pins rest env V

def anyNat (js : List Nat) : List Nat → Bool
  | [] => false
  | p :: l => match hasNat js p with
    | true => true
    | false => anyNat js l
def jsOf : List DS → List Nat
  | [] => []
  | s :: l => s.j :: jsOf l
/-- What may be drawn early, it will run. -/
def earlyB (env : Env) (n : Nat) (js : List Nat) : List DS → Bool
  | [] => true
  | y :: l => match y.k with
    | .f => match anyNat js y.io.after with
      | true => earlyB env n js l
      | false => match fresh o y.io.op env n with
        | some (_, _, none) => earlyB env n js l
        | some (_, _, some b) => match b with
          | true => earlyB env n js l
          | false => false
        | none => false
    | _ => earlyB env n js l
/-- A region that draws its order, in one order. -/
def wdr (K : Env → List VB → Prop) : List Pin → Env → List VB → List DS → Prop
  | _, env, V, [] => K env V
  | pins, env, V, s :: l => match s.k with
    | .q => wdst o s pins (fun pins env V => wdr K pins env V l) env V
    | _ => match earlyB o env (llen V) (s.j :: jsOf l) l with
      | true => wdst o s pins (fun pins env V => wdr K pins env V l) env V
      | false => False

inductive VX where
  | normal
  | exit (id : Nat)
  | ret

def wpI : IC → (VX → Env → List VB → Prop) → Env → List VB → Prop
  | .skip, K, env, V => K .normal env V
  | .region l, K, env, V => wops o (K .normal) env V l
  | .draw l, K, env, V => wdr o (K .normal) [] env V l
  | .seq a b, K, env, V => wpI a (fun x env V => match x with
    | .normal => wpI b K env V
    | .exit i => K (.exit i) env V
    | .ret => K .ret env V) env V
  | .cond c a b, K, env, V => match c.ev env with
    | .bool t => ifB t (fun _ => wpI a K env V) (fun _ => wpI b K env V)
    | _ => False
  | .block id b, K, env, V => wpI b (fun x env V => match x with
    | .normal => K .normal env V
    | .exit i => match Nat.beq i id with
      | true => K .normal env V
      | false => K (.exit i) env V
    | .ret => K .ret env V) env V
  | .loop b, K, env, V => ∃ (Inv : Nat → Env → List VB → Prop), (∃ m, o.re (Inv m) env V) ∧ ∀ m env V, Inv m env V →
    wpI b (fun x env' V' => match x with
      | .normal => ∃ m', m' < m ∧ o.re (Inv m') env' V'
      | .exit i => K (.exit i) env' V'
      | .ret => K .ret env' V') env V
  | .exit i, K, env, V => K (.exit i) env V
  | .ret, K, env, V => K .ret env V
  | .label, K, env, V => K .normal env V
end
end Go.SL

/- A symbolic executor over the model: from the model's code to the small code; the operations that only compute. -/
namespace Go.SL

def vvOf : Value → Option VV
  | .int k n => some (.int k n)
  | .bool b => some (.bool b)
  | .string s => some (.str s)
  | .pointer none => some .nilPtr
  | .slice none 0 0 => some .nilSl
  | .map none => some .nilMap
  | .chan none => some .nilChan
  | .nilFunc => some .nilFn
  | .nilIface => some .nilIface
  | _ => none
def vvList : List Value → Option (List VV)
  | [] => some []
  | v :: l => match vvOf v, vvList l with
    | some x, some r => some (x :: r)
    | _, _ => none
def vvAny : Value → Option VV
  | .agg cs => (vvList cs.toList).map .agg
  | v => vvOf v
theorem vvOf_den {v : Value} {x : VV} (h : vvOf v = some x) (φ : Phi) : den φ x = some v := by
  unfold vvOf at h
  split at h <;> first | (cases h; rfl) | cases h
theorem vvList_den : ∀ {l : List Value} {r : List VV}, vvList l = some r → ∀ φ : Phi, denL φ r = some l
  | [], r, h, φ => by simp [vvList] at h; subst h; rfl
  | v :: l, r, h, φ => by
    simp only [vvList] at h
    split at h
    · rename_i x s hx hs
      cases h
      exact denL_cons.2 ⟨v, l, vvOf_den hx φ, vvList_den hs φ, rfl⟩
    · cases h
theorem vvAny_den {v : Value} {x : VV} (h : vvAny v = some x) (φ : Phi) : den φ x = some v := by
  unfold vvAny at h
  split at h
  · rename_i cs
    simp only [Option.map_eq_some_iff] at h
    obtain ⟨r, hr, rfl⟩ := h
    have := vvList_den hr φ
    simp [den, this]
  · exact vvOf_den h φ

def rd (N : Nat) : Operand → Option Rd
  | .tmp t => if t < N then some (.t t) else none
  | .const v => (vvAny v).map .c
  | .func f => some (.c (.fn f [] []))
  | .global _ => none
def rds (N : Nat) : List Operand → Option (List Rd)
  | [] => some []
  | x :: l => match rd N x, rds N l with
    | some a, some r => some (a :: r)
    | _, _ => none

def rdo (N : Nat) : Option Operand → Option (Option Rd)
  | none => some none
  | some x => (rd N x).map some

def isAggB (P : Program) (t : TypeId) : Option Bool :=
  match P.underlying t with
  | some (.struct _) => some true
  | some (.array _ _) => some true
  | some _ => some false
  | none => none
def sizeB (P : Program) (t : TypeId) : Option Nat := (P.info? t).map (·.size)
def zeroB (P : Program) (t : TypeId) : Option (List VV) :=
  match P.info? t with
  | some i => match i.zero with
    | some z => vvList z.cells.toList
    | none => none
  | none => none

/-- Parts of a struct or of an array, with their places. -/
def partsB (place : Nat → Option (Nat × Nat)) (N : Nat) : List (Nat × Operand) → Option (List (Nat × Nat × Rd))
  | [] => some []
  | (i, x) :: l => match place i, rd N x, partsB place N l with
    | some (off, n), some r, some s => some ((off, n, r) :: s)
    | _, _, _ => none
def structPlace (P : Program) (fields : Array Field) (i : Nat) : Option (Nat × Nat) :=
  match fields[i]? with
  | some f => (sizeB P f.type).map fun n => (f.offset, n)
  | none => none

/-- A type whose values are compared cell by cell, all of whose parts are integers, bools or strings. -/
def plainT (P : Program) : Nat → TypeId → Bool
  | 0, _ => false
  | d + 1, t => match P.underlying t with
    | some .bool => true
    | some (.int _) => true
    | some .string => true
    | some (.struct fs) => !P.stoodInHeld t && fs.toList.all fun f => f.name != "_" && plainT P d f.type
    | _ => false

def eqFs (fl : TypeId → Option (List Pr)) : Nat → List Field → Option (List Pr)
  | _, [] => some []
  | off, f :: l => match fl f.type with
    | some ps => if f.offset = off ∧ f.name ≠ "_" ∧ ps.length ≠ 0 then match eqFs fl (off + ps.length) l with
      | some qs => some (ps ++ qs)
      | none => none
      else none
    | none => none
/-- A struct's cells, if these are integers, bools and strings. -/
def eqT (P : Program) : Nat → TypeId → Option (List Pr)
  | 0, _ => none
  | d + 1, t => match P.underlying t with
    | some (.int k) => if sizeB P t = some 1 then some [.i k] else none
    | some .bool => if sizeB P t = some 1 then some [.b] else none
    | some .string => if sizeB P t = some 1 then some [.s] else none
    | some (.struct fs) => match eqFs (eqT P d) 0 fs.toList with
      | some ps => if sizeB P t = some ps.length ∧ P.stoodInHeld t = false then some ps else none
      | none => none
    | _ => none
def eqsI (P : Program) (op : BinOp) (t : TypeId) (x y : Rd) : Option I :=
  match eqT P 8 t with
  | some ps => if P.eqGuardType P.depth t = false then match op with
    | .eql => some (.eqs false ps x y)
    | .neq => some (.eqs true ps x y)
    | _ => none
    else none
  | none => none
theorem eqsI_is {P : Program} {op : BinOp} {t : TypeId} {x y : Rd} {i : I} (h : eqsI P op t x y = some i) : ∃ neg ps, i = .eqs neg ps x y := by
  unfold eqsI at h
  split at h
  · split at h
    · split at h <;> cases h <;> exact ⟨_, _, rfl⟩
    · cases h
  · cases h
def prT (P : Program) (t : TypeId) : Option Pr :=
  match P.underlying t with
  | some (.int k) => some (.i k)
  | some .bool => some .b
  | some .string => some .s
  | _ => none
def zeroV (P : Program) (t : TypeId) : Option VV :=
  match P.info? t with
  | some i => match i.zero with
    | some z => vvOf z
    | none => none
  | none => none
def mapI (P : Program) (t : TypeId) (f : Pr → TypeId → Option I) : Option I :=
  match P.underlying t with
  | some (.map kt et) => match prT P kt with
    | some pr => f pr et
    | none => none
  | _ => none
def mlkI (P : Program) (cok : Bool) (x k : Rd) (pr : Pr) (et : TypeId) : Option I := match zeroV P et with | some z => some (.mlk pr z cok x k) | none => none
def mupI (x k v : Rd) (pr : Pr) (_ : TypeId) : Option I := some (.mup pr x k v)
def mdlI (x k : Rd) (pr : Pr) (_ : TypeId) : Option I := some (.mdl pr x k)
theorem mapI_is {P : Program} {t : TypeId} {f : Pr → TypeId → Option I} {i : I} (h : mapI P t f = some i) : ∃ kt et pr, P.underlying t = some (.map kt et) ∧ prT P kt = some pr ∧ f pr et = some i := by
  unfold mapI at h
  split at h
  · rename_i kt et hu
    split at h
    · rename_i pr hp; exact ⟨kt, et, pr, hu, hp, h⟩
    · cases h
  · cases h
theorem mlkI_is {P : Program} {cok : Bool} {x k : Rd} {pr : Pr} {et : TypeId} {i : I} (h : mlkI P cok x k pr et = some i) : ∃ z, zeroV P et = some z ∧ i = .mlk pr z cok x k := by
  unfold mlkI at h
  split at h
  · rename_i z hz; cases h; exact ⟨z, hz, rfl⟩
  · cases h
def sameTmp : Operand → Operand → Bool
  | .tmp a, .tmp b => a == b
  | .const (.int _ a), .const (.int _ b) => a == b
  | _, _ => false

def methodB (P : Program) (name : String) (t : TypeId) : Option (TypeId × FuncId) :=
  match P.info? t, P.underlying t with
  | some i, some (.pointer _) => match i.methods.find? (·.name == name) with
    | some m => match m.path.toList, m.func with
      | [], some (f, true) => some (t, f)
      | _, _ => none
    | none => none
  | _, _ => none

def isConst : Operand → Bool
  | .const _ => true
  | _ => false
def eqI (pk : PK) (op : BinOp) (x y : Rd) : Option I :=
  match op with
  | .eql => some (.eqp pk false x y)
  | .neq => some (.eqp pk true x y)
  | _ => none

def compOp (P : Program) (cand : List TypeId) (N : Nat) (o : Oper) : Option I :=
  match o.op with
  | .move x => (rd N x).map .mov
  | .assign x => (rd N x).map .mov
  | .pick c a b => match rd N c, rd N a, rd N b with
    | some c, some a, some b => some (.pick c a b)
    | _, _, _ => none
  | .alloc t => (zeroB P t).map .new
  | .box _ x => (rd N x).map .box
  | .build t parts => match P.underlying t, zeroB P t with
    | some (.struct fs), some z => if fs.toList.all (fun f => (sizeB P f.type).isSome) then (partsB (structPlace P fs) N parts.toList).map (.build z) else none
    | some (.array _ e), some z => match sizeB P e with
      | some n => (partsB (fun i => some (i * n, n)) N parts.toList).map (.build z)
      | none => none
    | _, _ => none
  | .buildSlice t len parts => match P.underlying t with
    | some (.slice e) => match sizeB P e, zeroB P e with
      | some n, some z => if n = z.length ∧ n ≠ 0 ∧ len * n ≤ 2 ^ 24 then (partsB (fun i => some (i, n)) N parts.toList).map (.lit n len z) else none
      | _, _ => none
    | _ => none
  | .load t a => match isAggB P t, sizeB P t, rd N a with
    | some g, some n, some a => if g = true ∨ n = 1 then some (.ld n g a) else none
    | _, _, _ => none
  | .store t a v => match sizeB P t, rd N a, rd N v with
    | some n, some a, some v => some (.st n a v)
    | _, _, _ => none
  | .nilCheck x => (rd N x).map .chk
  | .binOp op t x' y' _ => match rd N x', rd N y' with
    | some x, some y => match P.underlying t with
      | some (.int _) => some (.bin op x y)
      | some .string => some (.bin op x y)
      | some (.struct _) => eqsI P op t x y
      | some .bool => eqI .bool op x y
      | some (.pointer _) => eqI .ptr op x y
      | some (.slice _) => eqI .sl op x y
      | some (.map _ _) => eqI .map op x y
      | some (.func _ _ _) => eqI .fn op x y
      | some (.interface _) => if isConst x' || isConst y' then eqI .iface op x y else none
      | _ => none
    | _, _ => none
  | .unOp op _ x => match op, rd N x with
    | .not, some x => some (.not x)
    | .neg, some x => some (.neg x)
    | _, _ => none
  | .convert s d x => match P.underlying s, P.underlying d, rd N x with
    | some (.int _), some (.int k), some x => some (.conv k x)
    | _, _, _ => none
  | .makeInterface t x => match P.underlying t, rd N x with
    | some (.interface _), _ => none
    | some _, some x => some (.iface t x)
    | _, _ => none
  | .makeFunc fn first cap => match fn with
    | .func f => match rds N first.toList, rds N cap.toList with
      | some a, some b => some (.fn f a b)
      | _, _ => none
    | _ => none
  | .makeSlice t l c => match P.underlying t, rd N l with
    | some (.slice e), some l' => match P.info? e, zeroB P e with
      | some i, some z => if sameTmp l c ∧ i.size = z.length ∧ i.size ≠ 0 then some (.mk i.size (281474976710656 / (i.bytes + 1)) z l') else none
      | _, _ => none
    | _, _ => none
  | .makeMap _ r => match r with
    | none => some .mkm
    | some _ => none
  | .lookup t x k cok => match rd N x, rd N k with
    | some x, some k => mapI P t (mlkI P cok x k)
    | _, _ => none
  | .mapUpdate t m k v => match rd N m, rd N k, rd N v with
    | some m, some k, some v => mapI P t (mupI m k v)
    | _, _, _ => none
  | .insert t m k v => match rd N m, rd N k, rd N v with
    | some m, some k, some v => mapI P t (mupI m k v)
    | _, _, _ => none
  | .makeChan t l => match P.underlying t, rd N l with
    | some (.chan _ e), some l' => match P.info? e with
      | some i => some (.mkc (281474976710000 / (i.bytes + 1)) l')
      | none => none
    | _, _ => none
  | .fieldAddr s x f => match P.underlying s, rd N x with
    | some (.struct fs), some x => match fs[f]? with
      | some fd => match sizeB P fd.type with
        | some n => if n = 0 then none else some (.fad fd.offset x)
        | none => none
      | none => none
    | _, _ => none
  | .field s x f => match P.underlying s, rd N x with
    | some (.struct fs), some x => match fs[f]? with
      | some fd => match sizeB P fd.type, isAggB P fd.type with
        | some n, some g => if g = true ∨ n = 1 then some (.fld fd.offset n g x) else none
        | _, _ => none
      | none => none
    | _, _ => none
  | .indexAddr t x i => match P.underlying t, rd N x, rd N i with
    | some (.slice e), some x, some i => (sizeB P e).map fun n => .iad n x i
    | some (.array len e), some x, some i => match sizeB P e with
      | some n => if len ≤ 1 ∨ n = 0 then none else some (.iada n len x i)
      | none => none
    | _, _, _ => none
  | .extract x i => (rd N x).map fun x => .ext x i
  | .slice t x lo hi mx => match P.underlying t, mx, rd N x, rdo N lo, rdo N hi with
    | some (.slice e), none, some x, some lo, some hi => (sizeB P e).map fun n => .sl n x lo hi
    | _, _, _, _, _ => none
  | .call c => match rds N c.args.toList with
    | none => none
    | some args => match c.callee with
      | .value (.func f) => some (.call f args)
      | .value (.tmp t) => (rd N (.tmp t)).map fun x => .callv x args
      | .invoke r name => (rd N r).map fun x => .inv x (cand.filterMap (methodB P name)) args
      | .builtin .len => match args, c.argTypes[0]? with
        | [x], some t => match P.underlying t with
          | some (.slice _) => some (.len x)
          | some .string => some (.slen x)
          | some (.chan _ _) => some (.clen x)
          | some (.map _ _) => some (.mlen x)
          | _ => none
        | _, _ => none
      | .builtin .copy => match args, c.argTypes[0]?, c.argTypes[1]? with
        | [x, y], some t, some u => match P.underlying t, P.underlying u with
          | some (.slice e), some (.slice e') => match sizeB P e with
            | some n => if e = e' ∧ n ≠ 0 then some (.cpy n x y) else none
            | none => none
          | _, _ => none
        | _, _, _ => none
      | .builtin .delete => match args, c.argTypes[0]? with
        | [x, k], some t => mapI P t (mdlI x k)
        | _, _ => none
      | .builtin .min => match args with | [x, y] => some (.mn x y) | _ => none
      | .builtin .max => match args with | [x, y] => some (.mx x y) | _ => none
      | .builtin .append => match args, c.argTypes[0]?, c.argTypes[1]? with
        | [x, y], some t, some u => match P.underlying t, P.underlying u with
          | some (.slice e), some (.slice e') => match P.info? e with
            | some i => if e = e' ∧ t = u ∧ i.size ≠ 0 ∧ i.bytes ≠ 0 ∧ (i.zero.map fun z => decide (z.cells.size = i.size)) = some true then some (.app i.size i.bytes x y) else none
            | none => none
          | _, _ => none
        | _, _, _ => none
      | _ => none
  | _ => none

def bindsB (e : Edge) : Bool := Region.binds .any e

def dstB (N : Nat) : Option Tmp → Bool
  | some d => decide (d < N)
  | none => true

def compOps (P : Program) (cand : List TypeId) (N : Nat) (all : Array Oper) : List Oper → Option (List IOp)
  | [] => some []
  | o :: l => match compOp P cand N o, compOps P cand N all l with
    | some i, some r =>
      if dstB N o.dst = true then
        match o.guard with
        | none => some ({ dst := o.dst, op := i, guard := none, after := (o.after.toList.filter bindsB).map (·.on) } :: r)
        | some (j, want) => match (all[j]?).bind (·.dst) with
          | some d => if d < N then some ({ dst := o.dst, op := i, guard := some (d, want), after := (o.after.toList.filter bindsB).map (·.on) } :: r) else none
          | none => none
      else none
    | _, _ => none

/-- Which ops come ahead of which, by their edges: for each a number whose bits are the ops. -/
def masks : List IOp → List Nat → List Nat
  | [], acc => acc
  | i :: l, acc => masks l (acc ++ [i.after.foldl (fun s p => s ||| 2 ^ p ||| (acc[p]?).getD 0) 0])
/-- Does it change the heap, or may? -/
def kindOf : I → DK
  | .st .. => .e | .call .. => .e | .callv .. => .e | .inv .. => .e | .app .. => .e
  | .new .. => .e | .box .. => .e | .lit .. => .e | .mk .. => .e | .mkc .. => .e | .clen .. => .e | .mlen .. => .e | .cpy .. => .e | .mkm => .e | .mlk .. => .e | .mup .. => .e | .mdl .. => .e
  | _ => .q
def number : List IOp → Nat → List DS
  | [], _ => []
  | i :: l, n => ⟨kindOf i.op, n, i⟩ :: number l (n + 1)
/-- The steps that may be taken early first: whatever only looks goes ahead of the next change. -/
def pickQ (ms : List Nat) (todo : List DS) (s : DS) : Bool :=
  match s.k with
  | .q => todo.all fun t => t.j == s.j || !(((ms[s.j]?).getD 0).testBit t.j)
  | _ => false
def freeF : I → Bool
  | .new _ => true | .box _ => true | .lit .. => true | .mkm => true | .mk .. => true | _ => false
def unord (ms : List Nat) (a b : Nat) : Bool := !(((ms[a]?).getD 0).testBit b) && !(((ms[b]?).getD 0).testBit a)
def isEK (s : DS) : Bool := match s.k with | .e => true | _ => false
def markF (ms : List Nat) (all : List DS) : List DS → List Nat → List DS
  | [], _ => []
  | s :: t, mk =>
    if freeF s.io.op && s.io.guard.isNone && (all.any fun y => isEK y && y.j != s.j && unord ms s.j y.j) && !(mk.any fun m => ((ms[s.j]?).getD 0).testBit m)
    then { s with k := .f } :: markF ms all t (s.j :: mk) else s :: markF ms all t mk
def readyB (ms : List Nat) (todo : List DS) (s : DS) : Bool := todo.all fun u => u.j == s.j || !(((ms[s.j]?).getD 0).testBit u.j)
def sched (ms : List Nat) : Nat → List DS → List DS
  | 0, _ => []
  | fuel + 1, todo => match todo.find? (pickQ ms todo) with
    | some s => s :: sched ms fuel (todo.filter fun t => t.j != s.j)
    | none => match todo.find? (fun s => isEK s && readyB ms todo s) with
      | some s => s :: sched ms fuel (todo.filter fun t => t.j != s.j)
      | none => match todo.find? (readyB ms todo) with
        | some s => s :: sched ms fuel (todo.filter fun t => t.j != s.j)
        | none => []
def isF (s : DS) : Bool := match s.k with | .f => true | _ => false
def apartB (all : Array Oper) (x y : DS) : Bool := ((all[x.j]?).bind fun a => (all[y.j]?).map fun b => Oper.apart all a b).getD false
/-- Is this order one that stands for all? -/
def chk (all : Array Oper) : List DS → Bool
  | [] => true
  | s :: t =>
    !(anyNat (s.j :: jsOf t) s.io.after) &&
    t.all (fun y => y.j != s.j &&
      (match s.k with
        | .q => hasNat y.io.after s.j || apartB all s y
        | _ => isF y || anyNat (s.j :: jsOf (t.filter fun z => !isF z)) y.io.after) &&
      (!isF y || ((hasNat y.io.after s.j || apartB all s y) && !(isF s && hasNat y.io.after s.j)))) &&
    (!isF s || (s.io.guard.isNone && freeF s.io.op)) && chk all t
def schedOk (all : Array Oper) (l : List IOp) (sch : List DS) : Bool :=
  chk all sch && sch.length == l.length && sch.all (fun s => decide (s.j < l.length)) &&
  (List.range l.length).all (fun j => sch.any fun s => s.j == j) && Region.noSelect all &&
  l.all (fun i => i.after.all fun p => decide (p < l.length))
def order (l : List IOp) : List DS :=
  let ms := masks l []
  let ds := number l 0
  sched ms (l.length + 1) (markF ms ds ds [])

def comp (P : Program) (cand : List TypeId) (N : Nat) : Code → Option IC
  | .skip => some .skip
  | .region _ ops draw => match compOps P cand N ops ops.toList with
    | some l => match draw with
      | true =>
        if schedOk ops l (order l) = true then some (.draw (order l)) else none
      | false => some (.region l)
    | none => none
  | .seq a b => match comp P cand N a, comp P cand N b with
    | some x, some y => some (.seq x y)
    | _, _ => none
  | .cond c a b => match rd N c, comp P cand N a, comp P cand N b with
    | some c, some x, some y => some (.cond c x y)
    | _, _, _ => none
  | .block id b => (comp P cand N b).map (.block id)
  | .scope b => comp P cand N b
  | .loop b => (comp P cand N b).map .loop
  | .exit id => some (.exit id)
  | .ret => some .ret
  | .label _ => some .label
  | _ => none

/-! ### What the operations yield that look at their operands alone -/

/-- An operand's value stands for what the frame holds. -/
def RdR (φ : Phi) (N : Nat) (env : Env) (a : Act) (x : Operand) : Prop := ∀ r, rd N x = some r → den φ (r.ev env) = some (a.eval x)

theorem rds_den {φ : Phi} {N : Nat} {env : Env} {a : Act} : ∀ {l : List Operand} {r : List Rd}, rds N l = some r → (∀ x ∈ l, RdR φ N env a x) → denL φ (evs env r) = some (l.map a.eval)
  | [], r, h, _ => by simp [rds] at h; subst h; rfl
  | x :: l, r, h, hx => by
    simp only [rds] at h
    split at h
    · rename_i y s hy hs
      cases h
      exact denL_cons.2 ⟨_, _, hx x (by simp) y hy, rds_den hs (fun z hz => hx z (by simp [hz])), rfl⟩
    · cases h

theorem rdn_spec : ∀ {cs : List VV} {off n : Nat} {l : List VV}, rdn cs off n = some l → off + n ≤ cs.length ∧ l = (cs.drop off).take n
  | _, 0, 0, l, h => by simp [rdn] at h; subst h; simp
  | a :: cs, 0, n + 1, l, h => by
    simp only [rdn] at h
    split at h
    · rename_i r hr
      cases h
      obtain ⟨h1, h2⟩ := rdn_spec hr
      refine ⟨by simp; omega, ?_⟩
      simpa using h2
    · cases h
  | [], 0, n + 1, l, h => by simp [rdn] at h
  | a :: cs, o + 1, n, l, h => by
    simp only [rdn] at h
    obtain ⟨h1, h2⟩ := rdn_spec h
    exact ⟨by simp; omega, by simpa using h2⟩
  | [], o + 1, n, l, h => by simp [rdn] at h

theorem wrn_spec : ∀ {cs : List VV} {off : Nat} {xs l : List VV}, wrn cs off xs = some l → off + xs.length ≤ cs.length ∧ l = cs.take off ++ xs ++ cs.drop (off + xs.length)
  | cs, 0, [], l, h => by simp [wrn] at h; subst h; simp
  | a :: cs, 0, x :: xs, l, h => by
    simp only [wrn] at h
    split at h
    · rename_i r hr
      cases h
      obtain ⟨h1, h2⟩ := wrn_spec hr
      refine ⟨by simp at h1 ⊢; omega, ?_⟩
      subst h2
      simp [Nat.add_comm]
    · cases h
  | [], 0, x :: xs, l, h => by simp [wrn] at h
  | a :: cs, o + 1, xs, l, h => by
    simp only [wrn] at h
    split at h
    · rename_i r hr
      cases h
      obtain ⟨h1, h2⟩ := wrn_spec hr
      refine ⟨by simp; omega, ?_⟩
      subst h2
      have : o + 1 + xs.length = (o + xs.length) + 1 := by omega
      rw [this]
      simp
    · cases h
  | [], o + 1, xs, l, h => by simp [wrn] at h

theorem llen_eq {α : Type} : ∀ l : List α, llen l = l.length
  | [] => rfl
  | _ :: l => by simp [llen, llen_eq l]
theorem lget_eq {α : Type} : ∀ (l : List α) (n : Nat), lget l n = l[n]?
  | [], n => by simp [lget]
  | a :: l, 0 => by simp [lget]
  | a :: l, n + 1 => by simp [lget, lget_eq l n]
theorem lset_eq {α : Type} : ∀ (l : List α) (n : Nat) (x : α), lset l n x = l.set n x
  | [], n, x => by simp [lset]
  | a :: l, 0, x => by simp [lset]
  | a :: l, n + 1, x => by simp [lset, lset_eq l n x]
theorem lapp_eq {α : Type} : ∀ (l m : List α), lapp l m = l ++ m
  | [], m => rfl
  | a :: l, m => by simp [lapp, lapp_eq l m]
theorem lrep_eq {α : Type} : ∀ (n : Nat) (x : α), lrep n x = List.replicate n x
  | 0, x => rfl
  | n + 1, x => by simp [lrep, lrep_eq n x, List.replicate_succ]

end Go.SL

/- A symbolic executor over the model: the operations that look at their operands alone yield what it says. -/
namespace Go.SL
section
variable {EV : FuncId → List VV → List VB → (VV → List VB → Prop) → Prop} {RE : (Env → List VB → Prop) → Env → List VB → Prop} {o : Ops EV RE} {P : Program} {cand : List TypeId} {N : Nat} {φ : Phi} {env : Env} {a : Act}

theorem RdR.get {x : Operand} {r : Rd} (h : RdR φ N env a x) (hr : rd N x = some r) : den φ (r.ev env) = some (a.eval x) := h r hr

theorem den_int {k : IntKind} {n : Int} {x : Value} : den φ (.int k n) = some x ↔ x = .int k n := by simp [den, eq_comm]
theorem den_bool {b : Bool} {x : Value} : den φ (.bool b) = some x ↔ x = .bool b := by simp [den, eq_comm]
theorem den_str {b : ByteArray} {x : Value} : den φ (.str b) = some x ↔ x = .string b := by simp [den, eq_comm]
theorem den_agg {cs : List VV} {x : Value} : den φ (.agg cs) = some x ↔ ∃ l, denL φ cs = some l ∧ x = .agg l.toArray := by
  simp only [den]; cases denL φ cs <;> simp [eq_comm]
theorem den_tup {cs : List VV} {x : Value} : den φ (.tup cs) = some x ↔ ∃ l, denL φ cs = some l ∧ x = .tuple l.toArray := by
  simp only [den]; cases denL φ cs <;> simp [eq_comm]
theorem den_ptr {i off : Nat} {x : Value} : den φ (.ptr i off) = some x ↔ ∃ b s, φ i = some (b, s) ∧ x = .pointer (some ⟨b, s + off, none⟩) := by
  simp only [den, Option.map_eq_some_iff, Prod.exists]
  constructor
  · rintro ⟨b, s, h, rfl⟩; exact ⟨b, s, h, rfl⟩
  · rintro ⟨b, s, h, rfl⟩; exact ⟨b, s, h, rfl⟩
theorem den_elt {i e j off : Nat} {x : Value} : den φ (.elt i e j off) = some x ↔ ∃ b s, φ i = some (b, s) ∧ x = .pointer (some ⟨b, s + (j * e + off), none⟩) := by
  simp only [den, Option.map_eq_some_iff, Prod.exists]
  constructor
  · rintro ⟨b, s, h, rfl⟩; exact ⟨b, s, h, rfl⟩
  · rintro ⟨b, s, h, rfl⟩; exact ⟨b, s, h, rfl⟩
theorem den_slc {i e st n : Nat} {c : Cap} {x : Value} : den φ (.sl i e st n c) = some x ↔ ∃ b s k, φ i = some (b, s) ∧ c.cap φ st n = some k ∧ x = .slice (some ⟨b, s + st * e, none⟩) n k := by
  simp only [den]
  constructor
  · intro h
    split at h
    · rename_i p k hp hk; cases h; exact ⟨p.1, p.2, k, hp, hk, rfl⟩
    · cases h
  · rintro ⟨b, s, k, h1, h2, rfl⟩; rw [h1, h2]
theorem den_sl {i e st n c : Nat} {x : Value} : den φ (.sl i e st n (.n c)) = some x ↔ ∃ b s, φ i = some (b, s) ∧ x = .slice (some ⟨b, s + st * e, none⟩) n c := by
  rw [den_slc]
  simp [Cap.cap]
theorem den_fn {f : FuncId} {u v : List VV} {x : Value} : den φ (.fn f u v) = some x ↔ ∃ l m, denL φ u = some l ∧ denL φ v = some m ∧ x = .func (.func f) l.toArray m.toArray := by
  simp only [den]; cases denL φ u <;> cases denL φ v <;> simp [eq_comm]
theorem den_iface {t : TypeId} {v : VV} {x : Value} : den φ (.iface t v) = some x ↔ ∃ y, den φ v = some y ∧ x = .iface t y := by
  simp only [den]; cases den φ v <;> simp [eq_comm]

theorem run_typeInfo' {t : TypeId} {i : TypeInfo} (h : P.info? t = some i) (w : World) : (typeInfo t).run P w = .ok i w := by simp [typeInfo, h]
theorem run_sizeOf' {t : TypeId} {n : Nat} (h : sizeB P t = some n) (w : World) : (sizeOf t).run P w = .ok n w := by
  unfold sizeB at h
  simp only [Option.map_eq_some_iff] at h
  obtain ⟨i, hi, rfl⟩ := h
  simp [sizeOf, run_typeInfo' hi]
theorem run_zeroValue' {t : TypeId} {z : List VV} (h : zeroB P t = some z) (w : World) (φ : Phi) : ∃ v, (zeroValue t).run P w = .ok v w ∧ denL φ z = some v.cells.toList := by
  unfold zeroB at h
  split at h
  · rename_i i hi
    split at h
    · rename_i v hv
      exact ⟨v, by simp [zeroValue, run_typeInfo' hi, hv], vvList_den h φ⟩
    · cases h
  · cases h
theorem run_isAgg' {t : TypeId} {g : Bool} (h : isAggB P t = some g) (w : World) : (isAgg t).run P w = .ok g w := by
  unfold isAggB at h
  unfold isAgg
  split at h
  · rename_i fs hu; cases h; simp [run_underlying hu]
  · rename_i n e hu; cases h; simp [run_underlying hu]
  · rename_i d h1 h2 hu
    cases h
    simp only [Sem.run_bind, run_underlying hu, Result.andThen_ok]
    rfl
  · cases h

theorem run_part' {t : TypeId} {g : Bool} {n off : Nat} (hg : isAggB P t = some g) (hn : sizeB P t = some n) (h1 : g = true ∨ n = 1) {cs l : List VV} {v : VV} {rs : List Value}
    (hcs : denL φ cs = some rs) (hl : rdn cs off n = some l) (hv : pack g l = some v) (w : World) : ∃ x, den φ v = some x ∧ (part t rs.toArray off).run P w = .ok x w := by
  obtain ⟨hlen, rfl⟩ := rdn_spec hl
  have hd := denL_take n (denL_drop off hcs)
  unfold part
  simp only [Sem.run_bind, run_isAgg' hg, Result.andThen_ok]
  cases g with
  | true =>
    simp only [pack] at hv
    cases hv
    refine ⟨_, den_agg.2 ⟨_, hd, rfl⟩, ?_⟩
    simp [run_sizeOf' hn, List.take_drop, Nat.add_comm]
  | false =>
    have hn1 : n = 1 := by simpa using h1
    subst hn1
    simp only [pack] at hv
    split at hv
    · rename_i u hu
      cases hv
      rw [hu] at hd
      obtain ⟨x, s, hx, hs, he⟩ := denL_cons.1 hd
      have : rs[off]? = some x := by
        have h4 : ((rs.drop off).take 1)[0]? = some x := by rw [he]; rfl
        simpa using h4
      exact ⟨x, hx, by simp [this]⟩
    · cases hv

theorem fillV_ok {place : Nat → Option (Nat × Nat)} : ∀ {parts : List (Nat × Operand)} {ps : List (Nat × Nat × Rd)} {cells out : List VV} {rs : List Value},
    partsB place N parts = some ps → (∀ p ∈ parts, RdR φ N env a p.2) → denL φ cells = some rs → fillV env cells ps = some out →
    ∃ l, denL φ out = some l ∧ Instr.fill place rs.toArray (parts.map fun p => (p.1, a.eval p.2)) = some l.toArray
  | [], ps, cells, out, rs, hp, _, hc, hf => by
    simp [partsB] at hp; subst hp
    simp [fillV] at hf; subst hf
    exact ⟨rs, hc, by simp [Instr.fill]⟩
  | (i, x) :: parts, ps, cells, out, rs, hp, hr, hc, hf => by
    simp only [partsB] at hp
    split at hp
    · rename_i off n r s hpl hrd hps
      cases hp
      simp only [fillV] at hf
      split at hf
      · rename_i hbeq
        split at hf
        · rename_i c hw
          have hx := (hr (i, x) (by simp)).get hrd
          have hcx := cells_den hx
          obtain ⟨hle, rfl⟩ := wrn_spec hw
          have hlen := denL_length hcx
          rw [llen_eq] at hbeq
          have hn : (r.ev env).cells.length = n := Nat.eq_of_beq_eq_true hbeq
          have hcl := denL_length hc
          have hc' : denL φ (cells.take off ++ (r.ev env).cells ++ cells.drop (off + (r.ev env).cells.length)) = some (rs.take off ++ (a.eval x).cells.toList ++ rs.drop (off + (r.ev env).cells.length)) :=
            denL_append.2 ⟨_, _, denL_append.2 ⟨_, _, denL_take off hc, hcx, rfl⟩, denL_drop _ hc, rfl⟩
          obtain ⟨l, h1, h2⟩ := fillV_ok hps (fun p hp => hr p (by simp [hp])) hc' hf
          refine ⟨l, h1, ?_⟩
          simp only [List.map_cons, Instr.fill, hpl]
          have hsz : (a.eval x).cells.size = n := by rw [← hn, ← hlen]; simp
          rw [if_neg (by simp [hsz]; omega)]
          rw [← h2]
          congr 1
          -- the fold lays the cells
          have key : ∀ (xs : List Value) (k : Nat) (base : List Value), off + k + xs.length ≤ base.length →
              (xs.zipIdx k).foldl (fun cs (p : Value × Nat) => cs.setIfInBounds (off + p.2) p.1) base.toArray = (base.take (off + k) ++ xs ++ base.drop (off + k + xs.length)).toArray := by
            intro xs
            induction xs with
            | nil => intro k base _; simp
            | cons y ys ih =>
              intro k base hb
              simp only [List.zipIdx_cons, List.foldl_cons]
              have hset : base.toArray.setIfInBounds (off + k) y = (base.set (off + k) y).toArray := by simp
              rw [hset, ih (k + 1) _ (by simp at hb ⊢; omega)]
              congr 1
              have := list_seg_step base (off + k) y ys (by simpa [Nat.add_assoc] using hb)
              simpa [Nat.add_assoc, Nat.add_comm, Nat.add_left_comm] using this
          have := key (a.eval x).cells.toList 0 rs (by simp [hsz]; omega)
          simp only [Nat.add_zero] at this
          have hsz2 : (a.eval x).cells.toList.length = (r.ev env).cells.length := by rw [hlen]
          rw [hsz2] at this
          rw [← this]
          conv => lhs; rw [← Array.foldl_toList]
          simp
        · cases hf
      · cases hf
    · cases hp
end
end Go.SL

/- A symbolic executor over the model: the operations that look at their operands alone, joined. -/
namespace Go.SL
section
variable {EV : FuncId → List VV → List VB → (VV → List VB → Prop) → Prop} {RE : (Env → List VB → Prop) → Env → List VB → Prop} {o : Ops EV RE} {P : Program} {cand : List TypeId} {N : Nat} {φ : Phi} {env : Env} {a : Act}

/-- It yields this in every world. -/
def Yld (P : Program) (a : Act) (op : Oper) (φ : Phi) (v : VV) : Prop := ∃ x, den φ v = some x ∧ ∀ w, (execOp a.eval op).run P w = .ok (.value x) w

theorem eqGuard_int {op : BinOp} {t : TypeId} {x y : Operand} {k k' : IntKind} {m n : Int} (w : World) : (eqGuard op t x y (.int k m) (.int k' n)).run P w = .ok () w := by
  unfold eqGuard; split <;> simp

theorem bin_run {op : BinOp} {k k' : IntKind} {x y : Int} {t : TypeId} (h : match sortOf op with
      | .ar => k = k' | .arN => needs op x y = true ∧ (op ≠ .shl → op ≠ .shr → k = k') | .cmp => k = k') (w : World) :
    (binOp op t (.int k x) (.int k' y)).run P w = .ok (match sortOf op with | .cmp => .bool (icmp op x y) | _ => .int k (arith op k x y)) w := by
  cases op <;> simp only [sortOf] at h ⊢
  case add | sub | mul => subst h; simp [binOp, Op.intArith, arith]
  case and | or | xor | andNot => subst h; simp [binOp, Op.intBits, arith]
  case quo | rem =>
    obtain ⟨h1, h2⟩ := h
    have h3 := h2 (by simp) (by simp)
    subst h3
    have hy : y ≠ 0 := by simpa [needs] using h1
    simp [binOp, Op.intDiv, arith, hy]
  case shl | shr =>
    obtain ⟨h1, _⟩ := h
    have hy : ¬ y < 0 := by simp [needs] at h1; omega
    simp [binOp, Op.shift, arith, hy]
  case eql | neq | lss | leq | gtr | geq => subst h; simp [binOp, Op.intCmp, icmp]

theorem str_run {op : BinOp} {x y : ByteArray} {t : TypeId} (w : World) :
    (op = .eql → (binOp op t (.string x) (.string y)).run P w = .ok (.bool (strEq x y)) w) ∧
    (op = .neq → (binOp op t (.string x) (.string y)).run P w = .ok (.bool (!strEq x y)) w) := by
  constructor <;> rintro rfl <;> simp [binOp, Op.stringOp, strEq]

def PK.fits : PK → TypeDesc → Bool
  | .bool, .bool => true
  | .ptr, .pointer _ => true
  | .sl, .slice _ => true
  | .map, .map _ _ => true
  | .fn, .func _ _ _ => true
  | .iface, .interface _ => true
  | _, _ => false

theorem equal_nil {pk : PK} {u v : VV} {b : Bool} (h : eqNil pk u v = some b) {x y : Value} (hx : den φ u = some x) (hy : den φ v = some y) {t : TypeId} {d : TypeDesc} (ht : P.underlying t = some d)
    (hd : pk.fits d = true) (w : World) : (Op.equal t x y).run P w = .ok b w := by
  rw [show Op.equal t x y = Op.equalIn (9999 + 1) t x y from rfl, Op.equalIn]
  simp only [Sem.run_bind, run_underlying ht, Result.andThen_ok]
  unfold eqNil at h
  split at h <;> cases h <;> (cases d <;> simp [PK.fits] at hd) <;> (try simp only [den_ptr, den_elt, den_slc, den_fn, den_iface] at hx hy) <;> (try simp only [den, Option.some.injEq, Option.map_eq_some_iff] at hx hy)
  all_goals
    (try obtain ⟨_, _, _, rfl⟩ := hx)
    (try obtain ⟨_, _, _, rfl⟩ := hy)
    (try obtain ⟨_, _, _, _, _, rfl⟩ := hx)
    (try obtain ⟨_, _, _, _, _, rfl⟩ := hy)
    (try obtain ⟨_, _, _, _, rfl⟩ := hx)
    (try obtain ⟨_, _, _, _, rfl⟩ := hy)
    (try obtain ⟨_, _, rfl⟩ := hx)
    (try obtain ⟨_, _, rfl⟩ := hy)
    (try subst hx)
    (try subst hy)
    (try rfl)

theorem bin_eqp {pk : PK} {neg : Bool} {u v : VV} {b : Bool} (hv : eqNil pk u v = some b) {x y : Value} (hx : den φ u = some x) (hy : den φ v = some y) {t : TypeId} {d : TypeDesc} (ht : P.underlying t = some d)
    (hd : pk.fits d = true) (w : World) : (binOp (if neg then .neq else .eql) t x y).run P w = .ok (.bool (if neg then !b else b)) w := by
  have he := equal_nil hv hx hy ht hd w
  unfold eqNil at hv
  split at hv <;> cases hv <;> (try simp only [den_ptr, den_elt, den_slc, den_fn, den_iface] at hx hy) <;> (try simp only [den, Option.some.injEq, Option.map_eq_some_iff] at hx hy)
  all_goals
    (try obtain ⟨_, _, _, rfl⟩ := hx)
    (try obtain ⟨_, _, _, rfl⟩ := hy)
    (try obtain ⟨_, _, _, _, _, rfl⟩ := hx)
    (try obtain ⟨_, _, _, _, _, rfl⟩ := hy)
    (try obtain ⟨_, _, _, _, rfl⟩ := hx)
    (try obtain ⟨_, _, _, _, rfl⟩ := hy)
    (try obtain ⟨_, _, rfl⟩ := hx)
    (try obtain ⟨_, _, rfl⟩ := hy)
    (try subst hx)
    (try subst hy)
    (cases neg <;> simp [binOp, he])

theorem guard_eqp {pk : PK} {op : BinOp} {u v : VV} {b : Bool} (hv : eqNil pk u v = some b) {x y : Value} (hx : den φ u = some x) (hy : den φ v = some y) {t : TypeId} {ox oy : Operand}
    (hc : (match pk with | .iface => isConst ox || isConst oy | _ => true) = true) (w : World) : (eqGuard op t ox oy x y).run P w = .ok () w := by
  unfold eqNil at hv
  split at hv <;> cases hv <;> (try simp only [den_ptr, den_elt, den_slc, den_fn, den_iface] at hx hy) <;> (try simp only [den, Option.some.injEq, Option.map_eq_some_iff] at hx hy)
  all_goals
    (try obtain ⟨_, _, _, rfl⟩ := hx)
    (try obtain ⟨_, _, _, rfl⟩ := hy)
    (try obtain ⟨_, _, _, _, _, rfl⟩ := hx)
    (try obtain ⟨_, _, _, _, _, rfl⟩ := hy)
    (try obtain ⟨_, _, _, _, rfl⟩ := hx)
    (try obtain ⟨_, _, _, _, rfl⟩ := hy)
    (try obtain ⟨_, _, rfl⟩ := hx)
    (try obtain ⟨_, _, rfl⟩ := hy)
    (try subst hx)
    (try subst hy)
    (unfold eqGuard; split <;> first | rfl | (cases ox <;> cases oy <;> first | rfl | (simp [isConst] at hc; done) | simp [isConst]))

/-! ### Structs made of integers, bools and strings -/
theorem matV_len : ∀ {ps : List Pr} {l : List VV}, matV ps l = true → l.length = ps.length
  | [], [], _ => rfl
  | .i k :: ps, .int k' n :: l, h => by
    simp only [matV] at h
    split at h
    · simp [matV_len h]
    · cases h
  | .b :: ps, .bool _ :: l, h => by simp only [matV] at h; simp [matV_len h]
  | .s :: ps, .str _ :: l, h => by simp only [matV] at h; simp [matV_len h]
theorem matV_app : ∀ {ps qs : List Pr} {l : List VV}, matV (ps ++ qs) l = true → matV ps (l.take ps.length) = true ∧ matV qs (l.drop ps.length) = true
  | [], qs, l, h => by simpa [matV] using h
  | .i k :: ps, qs, .int k' n :: l, h => by
    simp only [List.cons_append, matV] at h
    split at h
    · rename_i hk
      obtain ⟨h1, h2⟩ := matV_app h
      simp only [List.length_cons, List.take_succ_cons, List.drop_succ_cons, matV, hk]
      exact ⟨h1, h2⟩
    · cases h
  | .b :: ps, qs, .bool _ :: l, h => by
    simp only [List.cons_append, matV] at h
    obtain ⟨h1, h2⟩ := matV_app h
    simp only [List.length_cons, List.take_succ_cons, List.drop_succ_cons, matV]
    exact ⟨h1, h2⟩
  | .s :: ps, qs, .str _ :: l, h => by
    simp only [List.cons_append, matV] at h
    obtain ⟨h1, h2⟩ := matV_app h
    simp only [List.length_cons, List.take_succ_cons, List.drop_succ_cons, matV]
    exact ⟨h1, h2⟩
theorem eqL_app : ∀ {a b c d : List VV}, a.length = b.length → eqL (a ++ c) (b ++ d) = (eqL a b && eqL c d)
  | [], [], _, _, _ => rfl
  | x :: a, y :: b, c, d, h => by
    simp only [List.cons_append, eqL]
    rw [eqL_app (by simpa using h), Bool.and_assoc]
theorem rdn_of : ∀ {cs : List VV} {off n : Nat}, off + n ≤ cs.length → rdn cs off n = some ((cs.drop off).take n)
  | _, 0, 0, _ => by simp [rdn]
  | a :: cs, 0, n + 1, h => by
    have := rdn_of (cs := cs) (off := 0) (n := n) (by simp at h; omega)
    simp only [rdn, this]
    simp
  | a :: cs, off + 1, n, h => by
    have := rdn_of (cs := cs) (off := off) (n := n) (by simp at h; omega)
    simp only [rdn, this]
    simp
  | [], off + 1, 0, h => by simp at h
  | [], 0, n + 1, h => by simp at h
  | [], off + 1, n + 1, h => by simp at h
theorem eqFs_ok {fl : TypeId → Option (List Pr)} {D : Nat} {w : World} {a b : List VV} {xs ys : List Value} (ha : denL φ a = some xs) (hb : denL φ b = some ys)
    (hsz : ∀ t ps, fl t = some ps → sizeB P t = some ps.length ∧ ∃ g, isAggB P t = some g ∧ (g = true ∨ ps.length = 1))
    (ih : ∀ t ps g a b u v xu xv, fl t = some ps → isAggB P t = some g → pack g a = some u → pack g b = some v → matV ps a = true → matV ps b = true → den φ u = some xu → den φ v = some xv → (Op.equalIn D t xu xv).run P w = .ok (eqL a b) w) :
    ∀ {l : List Field} {off : Nat} {ps : List Pr}, eqFs fl off l = some ps → matV ps (a.drop off) = true → matV ps (b.drop off) = true → (Op.eqFields D xs.toArray ys.toArray l).run P w = .ok (eqL (a.drop off) (b.drop off)) w
  | [], off, ps, h, m1, m2 => by
    simp [eqFs] at h; subst h
    have h1 := matV_len m1
    have h2 := matV_len m2
    rw [List.eq_nil_of_length_eq_zero h1, List.eq_nil_of_length_eq_zero h2]
    simp [Op.eqFields, eqL]
  | f :: l, off, ps, h, m1, m2 => by
    simp only [eqFs] at h
    split at h
    · rename_i ps1 h1
      split at h
      · rename_i hc
        split at h
        · rename_i ps2 h2
          cases h
          obtain ⟨hoff, hname, hne⟩ := hc
          obtain ⟨g1, g2⟩ := matV_app m1
          obtain ⟨k1, k2⟩ := matV_app m2
          rw [List.drop_drop] at g2 k2
          obtain ⟨s1, g, s2, s3⟩ := hsz _ _ h1
          have lena := matV_len m1
          have lenb := matV_len m2
          simp only [List.length_append, List.length_drop] at lena lenb
          have ra : rdn a off ps1.length = some ((a.drop off).take ps1.length) := rdn_of (by omega)
          have rb : rdn b off ps1.length = some ((b.drop off).take ps1.length) := rdn_of (by omega)
          have pk : ∀ m : List VV, m.length = ps1.length → ∃ u, pack g m = some u := by
            intro m hm
            cases g with
            | true => exact ⟨.agg m, rfl⟩
            | false =>
              have : m.length = 1 := by rcases s3 with h | h; cases h; omega
              match m, this with
              | [u], _ => exact ⟨u, rfl⟩
          obtain ⟨u, hu⟩ := pk _ (matV_len g1)
          obtain ⟨v, hv⟩ := pk _ (matV_len k1)
          obtain ⟨xu, du, pu⟩ := run_part' s2 s1 s3 ha ra hu w
          obtain ⟨xv, dv, pv⟩ := run_part' s2 s1 s3 hb rb hv w
          have hq := ih _ _ _ _ _ _ _ _ _ h1 s2 hu hv g1 k1 du dv
          have hrest := eqFs_ok ha hb hsz ih h2 g2 k2
          have hsplit : eqL (a.drop off) (b.drop off) = (eqL ((a.drop off).take ps1.length) ((b.drop off).take ps1.length) && eqL (a.drop (off + ps1.length)) (b.drop (off + ps1.length))) := by
            rw [← eqL_app (by rw [matV_len g1, matV_len k1]), ← List.drop_drop, ← List.drop_drop, List.take_append_drop, List.take_append_drop]
          rw [Op.eqFields, if_pos hname, hsplit]
          rw [hoff]
          simp only [Sem.run_bind, pu, pv, hq, Result.andThen_ok]
          cases he : eqL ((a.drop off).take ps1.length) ((b.drop off).take ps1.length)
          · simp
          · simp only [Bool.not_true, Bool.false_eq_true, if_false, Bool.true_and]
            exact hrest
        · cases h
      · cases h
    · cases h
theorem eqT_size : ∀ (d : Nat) (t : TypeId) (ps : List Pr), eqT P d t = some ps → sizeB P t = some ps.length ∧ ∃ g, isAggB P t = some g ∧ (g = true ∨ ps.length = 1)
  | 0, t, ps, h => by simp [eqT] at h
  | d + 1, t, ps, h => by
    simp only [eqT] at h
    split at h
    · rename_i k hu; split at h
      · rename_i hs; cases h; exact ⟨hs, false, by simp [isAggB, hu], .inr rfl⟩
      · cases h
    · rename_i hu; split at h
      · rename_i hs; cases h; exact ⟨hs, false, by simp [isAggB, hu], .inr rfl⟩
      · cases h
    · rename_i hu; split at h
      · rename_i hs; cases h; exact ⟨hs, false, by simp [isAggB, hu], .inr rfl⟩
      · cases h
    · rename_i fs hu
      split at h
      · split at h
        · rename_i hs; cases h; exact ⟨hs.1, true, by simp [isAggB, hu], .inl rfl⟩
        · cases h
      · cases h
    · cases h
theorem equal_flat : ∀ (d D : Nat) (t : TypeId) (ps : List Pr) (g : Bool) (a b : List VV) (u v : VV) (xu xv : Value) (w : World), d ≤ D → eqT P d t = some ps → isAggB P t = some g → pack g a = some u → pack g b = some v → matV ps a = true → matV ps b = true →
    den φ u = some xu → den φ v = some xv → (Op.equalIn D t xu xv).run P w = .ok (eqL a b) w
  | 0, _, t, ps, _, _, _, _, _, _, _, _, _, h, _, _, _, _, _, _, _ => by simp [eqT] at h
  | d + 1, 0, _, _, _, _, _, _, _, _, _, _, hle, _, _, _, _, _, _, _, _ => by omega
  | d + 1, D + 1, t, ps, g, a, b, u, v, xu, xv, w, hle, h, hg, pa, pb, ma, mb, du, dv => by
    simp only [eqT] at h
    split at h
    · rename_i k hu
      split at h
      · cases h
        rw [isAggB, hu] at hg; cases hg
        match a, b, ma, mb, pa, pb with
        | [.int ka m], [.int kb n], ma, mb, pa, pb =>
          cases pa; cases pb
          simp only [matV] at ma mb
          split at ma
          · rename_i e1
            split at mb
            · rename_i e2
              have e1 := of_decide_eq_true e1
              have e2 := of_decide_eq_true e2
              subst e1; subst e2
              simp only [den, Option.some.injEq] at du dv
              subst du; subst dv
              rw [run_equalIn_int _ _ _ _ _ _ _ hu]
              simp [eqL, eqV]
            · cases mb
          · cases ma
      · cases h
    · rename_i hu
      split at h
      · cases h
        rw [isAggB, hu] at hg; cases hg
        match a, b, ma, mb, pa, pb with
        | [.bool m], [.bool n], ma, mb, pa, pb =>
          cases pa; cases pb
          simp only [den, Option.some.injEq] at du dv
          subst du; subst dv
          rw [run_equalIn_bool' _ _ _ _ _ hu]
          simp [eqL, eqV]
      · cases h
    · rename_i hu
      split at h
      · cases h
        rw [isAggB, hu] at hg; cases hg
        match a, b, ma, mb, pa, pb with
        | [.str m], [.str n], ma, mb, pa, pb =>
          cases pa; cases pb
          simp only [den, Option.some.injEq] at du dv
          subst du; subst dv
          rw [run_equalIn_string _ _ _ _ _ hu]
          simp [eqL, eqV, strEq]
      · cases h
    · rename_i fs hu
      split at h
      · rename_i qs hq
        split at h
        · rename_i hc
          cases h
          rw [isAggB, hu] at hg; cases hg
          simp only [pack, Option.some.injEq] at pa pb
          subst pa; subst pb
          obtain ⟨xs, dxs, rfl⟩ := den_agg.1 du
          obtain ⟨ys, dys, rfl⟩ := den_agg.1 dv
          have hfo : P.fieldsOf t = fs := by simp [Program.fieldsOf, hu]
          rw [run_equalIn_struct _ _ _ _ _ (by rw [hfo]; exact hu) hc.2, hfo]
          have := eqFs_ok (P := P) (D := D) (w := w) dxs dys (eqT_size d) (fun t ps g a b u v xu xv h1 h2 h3 h4 h5 h6 h7 h8 => equal_flat d D t ps g a b u v xu xv w (by omega) h1 h2 h3 h4 h5 h6 h7 h8) hq (by simpa using ma) (by simpa using mb)
          simpa using this
        · cases h
      · cases h
    · cases h
end
end Go.SL

/- A symbolic executor over the model: what looks at its operands alone yields what the executor says. -/
namespace Go.SL
section
variable {EV : FuncId → List VV → List VB → (VV → List VB → Prop) → Prop} {RE : (Env → List VB → Prop) → Env → List VB → Prop} {o : Ops EV RE} {P : Program} {cand : List TypeId} {N : Nat} {φ : Phi} {env : Env} {a : Act}

theorem mem_parts {parts : Array (Nat × Operand)} {p : Nat × Operand} (h : p ∈ parts.toList) : p.2 ∈ ((parts.toList.map (·.2)).toArray) := by
  simp only [List.mem_toArray, List.mem_map]
  exact ⟨p, h, rfl⟩

theorem run_places (w : World) : ∀ (l : List Field), (∀ f ∈ l, (sizeB P f.type).isSome = true) →
    (l.mapM fun f => (do pure (f.offset, ← sizeOf f.type) : Sem (Nat × Nat))).run P w = .ok (l.map fun f => (f.offset, (sizeB P f.type).getD 0)) w
  | [], _ => by simp
  | f :: l, h => by
    have hf := h f (by simp)
    obtain ⟨n, hn⟩ := Option.isSome_iff_exists.1 hf
    rw [List.mapM_cons]
    simp only [Sem.run_bind, run_sizeOf' hn, Result.andThen_ok, Sem.run_pure, run_places w l (fun g hg => h g (by simp [hg])), List.map_cons, hn, Option.getD_some]

theorem place_eq {fs : Array Field} (h : fs.toList.all (fun f => (sizeB P f.type).isSome) = true) : ((fs.toList.map fun f => (f.offset, (sizeB P f.type).getD 0)).toArray[·]?) = structPlace P fs := by
  funext i
  unfold structPlace
  simp only [List.getElem?_toArray, List.getElem?_map, Array.getElem?_toList]
  cases hi : fs[i]? with
  | none => rfl
  | some f =>
    have hm : f ∈ fs.toList := by
      rw [← Array.getElem?_toList] at hi
      exact List.mem_of_getElem? hi
    have := (List.all_eq_true.1 h) f hm
    obtain ⟨n, hn⟩ := Option.isSome_iff_exists.1 this
    simp [hn]

theorem cells_toList_inj {u v : Value} (h : u.cells.toList = v.cells.toList) : u.cells = v.cells := Array.toList_inj.1 h

theorem asInt_run {v : Value} {k : IntKind} {n : Int} (h : v = .int k n) (w : World) : (asIntOf v).run P w = .ok (k, n) w := by subst h; rfl

theorem run_sliceBound {v : Value} {k : IntKind} {i : Int} {y : Nat} {code : BoundsCode} (hv : v = .int k i) (h0 : 0 ≤ i) (h1 : i ≤ (y : Int)) (w : World) : (Instr.sliceBound v y code).run P w = .ok i.toNat w := by
  subst hv
  simp [Instr.sliceBound, asIntOf, h0, h1]

theorem run_slice' {t e : TypeId} {sz : Nat} {low high : Option Value} {l h len cap : Nat} {ad : Option Addr} (hu : P.underlying t = some (.slice e)) (hn : sizeB P e = some sz) (w : World)
    (hb : (Instr.sliceBounds true len cap low high none).run P w = .ok (l, h, cap) w) :
    (Instr.slice t (.slice ad len cap) low high none).run P w = .ok (.slice (if cap = l then ad else ad.map (·.add (l * sz))) (h - l) (cap - l)) w := by
  unfold Instr.slice
  simp only [Sem.run_bind, run_underlying hu, Result.andThen_ok, hb, run_sizeOf' hn, Sem.run_pure]

theorem den_sliced {i e st s l cap n c b : Nat} (hφ : φ i = some (b, st)) : den φ (.sl i e (if cap = l then s else s + l) n (.n c)) = some (.slice (if cap = l then some ⟨b, st + s * e, none⟩ else (some ⟨b, st + s * e, none⟩ : Option Addr).map (·.add (l * e))) n c) := by
  refine den_sl.2 ⟨b, st, hφ, ?_⟩
  split
  · rfl
  · simp [Addr.add_lit, Nat.add_mul, Nat.add_assoc]

theorem cap_v {φ : Phi} {s n i k : Nat} (h : (Cap.v i).cap φ s n = some k) : ∃ p, φ i = some p ∧ s + n ≤ p.1 ∧ k = p.1 - s := by
  simp only [Cap.cap] at h
  split at h
  · rename_i p hp
    split at h
    · rename_i hl; cases h; exact ⟨p, hp, hl, rfl⟩
    · cases h
  · cases h
theorem den_slicedv {i e st s l k h n b cid : Nat} (hφ : φ i = some (b, st)) (hc : (Cap.v cid).cap φ s n = some k) (h1 : l ≤ h) (h2 : h ≤ n) (h3 : l = 0 ∨ l < n) :
    den φ (.sl i e (s + l) (h - l) (.v cid)) = some (.slice (if k = l then some ⟨b, st + s * e, none⟩ else (some ⟨b, st + s * e, none⟩ : Option Addr).map (·.add (l * e))) (h - l) (k - l)) := by
  obtain ⟨p, hp, hle, rfl⟩ := cap_v hc
  refine den_slc.2 ⟨b, st, p.1 - s - l, hφ, ?_, ?_⟩
  · simp only [Cap.cap, hp]
    rw [if_pos (by omega)]
    congr 1; omega
  · split
    · have : l = 0 := by omega
      subst this
      rfl
    · simp [Addr.add_lit, Nat.add_mul, Nat.add_assoc]

theorem rdo_ok {x : Option Operand} {r : Option Rd} (h : rdo N x = some r) (hr : ∀ y ∈ x, RdR φ N env a y) : (x = none ∧ r = none) ∨ ∃ y z, x = some y ∧ r = some z ∧ den φ (z.ev env) = some (a.eval y) := by
  cases x with
  | none => simp [rdo] at h; exact .inl ⟨rfl, h.symm⟩
  | some y =>
    simp only [rdo, Option.map_eq_some_iff] at h
    obtain ⟨z, hz, rfl⟩ := h
    exact .inr ⟨y, z, rfl, rfl, (hr y rfl).get hz⟩

theorem pval_ok {op : Oper} {i : I} (hc : compOp P cand N op = some i) (hr : ∀ x ∈ op.op.operands, RdR φ N env a x) {v : VV} {c : Option Bool} (hv : pval o i env = some (v, c)) (hb : c = none ∨ c = some true) :
    Yld P a op φ v := by
  obtain ⟨dst, op, ty, pos, after, gd⟩ := op
  cases op <;> simp only [compOp] at hc <;> simp only [Op.operands] at hr
  case move x | assign x =>
    simp only [Option.map_eq_some_iff] at hc
    obtain ⟨r, hx, rfl⟩ := hc
    simp only [pval] at hv
    cases hv
    exact ⟨_, (hr x (by simp)).get hx, fun w => by simp [execOp]⟩
  case pick c a' b =>
    split at hc
    · rename_i rc ra rb h1 h2 h3
      cases hc
      simp only [pval] at hv
      have d1 := (hr c (by simp)).get h1
      have d2 := (hr a' (by simp)).get h2
      have d3 := (hr b (by simp)).get h3
      split at hv
      · rename_i t ht
        rw [ht, den_bool.2 rfl] at d1
        injection d1 with d1
        cases t <;> simp only at hv <;> cases hv
        · exact ⟨_, d3, fun w => by simp [execOp, ← d1, asBool]⟩
        · exact ⟨_, d2, fun w => by simp [execOp, ← d1, asBool]⟩
      · cases hv
    · cases hc
  case build t parts =>
    split at hc
    · rename_i fs z hu hz
      split at hc
      · rename_i hall
        simp only [Option.map_eq_some_iff] at hc
        obtain ⟨ps, hp, rfl⟩ := hc
        simp only [pval] at hv
        split at hv
        · rename_i cs hcs
          cases hv
          obtain ⟨zv0, _, hzv⟩ := run_zeroValue' hz default φ
          obtain ⟨l, hl, hf⟩ := fillV_ok hp (fun p hp => hr _ (mem_parts hp)) hzv hcs
          refine ⟨_, den_agg.2 ⟨l, hl, rfl⟩, fun w => ?_⟩
          obtain ⟨zv, hzr, hzv2⟩ := run_zeroValue' hz w φ
          have hsame : zv.cells = zv0.cells := by
            rw [hzv] at hzv2
            injection hzv2 with h
            exact cells_toList_inj h.symm
          simp only [execOp, Instr.build, Sem.run_bind, hzr, Result.andThen_ok, run_underlying hu, Array.mapM_eq_mapM_toList, Sem.run_map]
          rw [run_places w fs.toList (List.all_eq_true.1 hall)]
          simp only [Result.andThen_ok, place_eq hall, hsame]
          simp only [Array.toArray_toList] at hf
          rw [Array.toList_map, hf]
          rfl
        · cases hv
      · cases hc
    · rename_i n e z hu hz
      split at hc
      · rename_i sz hsz
        simp only [Option.map_eq_some_iff] at hc
        obtain ⟨ps, hp, rfl⟩ := hc
        simp only [pval] at hv
        split at hv
        · rename_i cs hcs
          cases hv
          obtain ⟨zv0, _, hzv⟩ := run_zeroValue' hz default φ
          obtain ⟨l, hl, hf⟩ := fillV_ok hp (fun p hp => hr _ (mem_parts hp)) hzv hcs
          refine ⟨_, den_agg.2 ⟨l, hl, rfl⟩, fun w => ?_⟩
          obtain ⟨zv, hzr, hzv2⟩ := run_zeroValue' hz w φ
          have hsame : zv.cells = zv0.cells := by
            rw [hzv] at hzv2
            injection hzv2 with h
            exact cells_toList_inj h.symm
          simp only [execOp, Instr.build, Sem.run_bind, hzr, Result.andThen_ok, run_underlying hu, run_sizeOf' hsz, hsame]
          simp only [Array.toArray_toList] at hf
          rw [Array.toList_map, hf]
          rfl
        · cases hv
      · cases hc
    · cases hc
  case nilCheck x =>
    simp only [Option.map_eq_some_iff] at hc
    obtain ⟨r, hx, rfl⟩ := hc
    simp only [pval] at hv
    have d1 := (hr x (by simp)).get hx
    split at hv <;> cases hv <;> rename_i hev <;> rw [hev] at d1
    · obtain ⟨b, s, h1, h2⟩ := den_ptr.1 d1
      exact ⟨_, d1, fun w => by simp [execOp, h2]⟩
    · obtain ⟨b, s, h1, h2⟩ := den_elt.1 d1
      exact ⟨_, d1, fun w => by simp [execOp, h2]⟩
    · obtain ⟨l, m, h1, h2, h3⟩ := den_fn.1 d1
      exact ⟨_, d1, fun w => by simp [execOp, h3]⟩
  case binOp op t x y ty2 =>
    split at hc
    · rename_i rx ry h1 h2
      have d1 := (hr x (by simp)).get h1
      have d2 := (hr y (by simp)).get h2
      have eqp : ∀ (pk : PK) (d : TypeDesc), P.underlying t = some d → pk.fits d = true → (match pk with | .iface => isConst x || isConst y | _ => true) = true → eqI pk op rx ry = some i → Yld P a ⟨dst, .binOp op t x y ty2, ty, pos, after, gd⟩ φ v := by
        intro pk d hu hf hcst hi
        have main : ∀ neg : Bool, op = (if neg then .neq else .eql) → i = .eqp pk neg rx ry → Yld P a ⟨dst, .binOp op t x y ty2, ty, pos, after, gd⟩ φ v := by
          intro neg hop hi
          subst hi
          cases pk with
          | bool =>
            simp only [pval] at hv
            split at hv
            · rename_i p q hp hq
              rw [hp] at d1
              rw [hq] at d2
              have e1 := den_bool.1 d1
              have e2 := den_bool.1 d2
              cases d <;> simp [PK.fits] at hf
              have he : ∀ w, (Op.equal t (.bool p) (.bool q)).run P w = .ok (p == q) w := fun w => by
                rw [show Op.equal t (.bool p) (.bool q) = Op.equalIn (9999 + 1) t (.bool p) (.bool q) from rfl, Op.equalIn]
                simp [run_underlying hu]
              cases neg <;> simp only at hv <;> cases hv
              · refine ⟨_, den_bool.2 rfl, fun w => ?_⟩
                subst hop
                simp [execOp, e1, e2, eqGuard, binOp, he, o.beq_eq]
              · refine ⟨_, den_bool.2 rfl, fun w => ?_⟩
                subst hop
                simp [execOp, e1, e2, eqGuard, binOp, he, o.beq_eq, o.not_eq]
            · cases hv
          | ptr | sl | map | fn | iface =>
            simp only [pval] at hv
            split at hv
            · rename_i b hn
              refine ⟨.bool (if neg then !b else b), ?_, fun w => ?_⟩
              · cases neg <;> simp only at hv <;> cases hv
                · exact den_bool.2 rfl
                · rw [o.not_eq]; exact den_bool.2 rfl
              · subst hop
                simp only [execOp, Sem.run_bind, guard_eqp hn d1 d2 hcst w, Result.andThen_ok, bin_eqp hn d1 d2 hu hf w, Sem.run_pure]
            · cases hv
        unfold eqI at hi
        split at hi <;> cases hi
        · exact main false rfl rfl
        · exact main true rfl rfl
      have bins : i = .bin op rx ry → Yld P a ⟨dst, .binOp op t x y ty2, ty, pos, after, gd⟩ φ v := by
        intro hi
        subst hi
        simp only [pval] at hv
        split at hv
        · rename_i k m k' n hm hn
          rw [hm] at d1
          rw [hn] at d2
          have e1 := den_int.1 d1
          have e2 := den_int.1 d2
          have fin : ∀ (hcond : match sortOf op with | .ar => k = k' | .arN => needs op m n = true ∧ (op ≠ .shl → op ≠ .shr → k = k') | .cmp => k = k')
              (hval : v = match sortOf op with | .cmp => .bool (icmp op m n) | _ => .int k (arith op k m n)), Yld P a ⟨dst, .binOp op t x y ty2, ty, pos, after, gd⟩ φ v := by
            intro hcond hval
            refine ⟨match sortOf op with | .cmp => .bool (icmp op m n) | _ => .int k (arith op k m n), ?_, fun w => ?_⟩
            · subst hval; split <;> simp [den]
            · simp only [execOp, e1, e2, Sem.run_bind, eqGuard_int, Result.andThen_ok, bin_run hcond w, Sem.run_pure]
              try rfl
          split at hv
          · rename_i hs
            split at hv
            · rename_i hk
              cases hv
              exact fin (by rw [hs]; simpa using hk) (by rw [hs, o.ar_eq])
            · cases hv
          · rename_i hs
            split at hv
            · cases hv
              have hne := hb.resolve_left (by simp)
              simp only [o.need_eq, Option.some.injEq] at hne
              exact fin (by rw [hs]; exact ⟨hne, fun h => absurd rfl h⟩) (by rw [hs, o.ar_eq])
            · cases hv
              have hne := hb.resolve_left (by simp)
              simp only [o.need_eq, Option.some.injEq] at hne
              exact fin (by rw [hs]; exact ⟨hne, fun _ h => absurd rfl h⟩) (by rw [hs, o.ar_eq])
            · split at hv
              · rename_i hk
                cases hv
                have hne := hb.resolve_left (by simp)
                simp only [o.need_eq, Option.some.injEq] at hne
                exact fin (by rw [hs]; exact ⟨hne, fun _ _ => by simpa using hk⟩) (by rw [hs, o.ar_eq])
              · cases hv
          · rename_i hs
            split at hv
            · rename_i hk
              cases hv
              exact fin (by rw [hs]; simpa using hk) (by rw [hs, o.cmp_eq])
            · cases hv
        · rename_i p q hp hq
          rw [hp] at d1
          rw [hq] at d2
          have e1 := den_str.1 d1
          have e2 := den_str.1 d2
          split at hv
          · cases hv
            exact ⟨_, den_bool.2 rfl, fun w => by simp [execOp, e1, e2, eqGuard, (str_run w).1, o.steq_eq]⟩
          · cases hv
            exact ⟨_, den_bool.2 rfl, fun w => by simp [execOp, e1, e2, eqGuard, (str_run w).2, o.steq_eq, o.not_eq]⟩
          · cases hv
        · cases hv
      have strs : isAggB P t = some true → eqsI P op t rx ry = some i → Yld P a ⟨dst, .binOp op t x y ty2, ty, pos, after, gd⟩ φ v := by
        intro hag hi
        unfold eqsI at hi
        split at hi
        · rename_i ps hps
          split at hi
          · rename_i hgd
            obtain ⟨hsz, g, hg, hg1⟩ := eqT_size 8 t ps hps
            have main : ∀ neg : Bool, op = (if neg then .neq else .eql) → i = .eqs neg ps rx ry → Yld P a ⟨dst, .binOp op t x y ty2, ty, pos, after, gd⟩ φ v := by
              intro neg hop hi
              subst hi
              simp only [pval] at hv
              split at hv
              · rename_i ca cb ha hb'
                rw [ha] at d1
                rw [hb'] at d2
                obtain ⟨xs, dxs, e1⟩ := den_agg.1 d1
                obtain ⟨ys, dys, e2⟩ := den_agg.1 d2
                split at hv
                · rename_i ma
                  split at hv
                  · rename_i mb
                    have hgt : g = true := by rw [hag] at hg; cases hg; rfl
                    subst hgt
                    have he : ∀ w, (Op.equalIn 10000 t (.agg xs.toArray) (.agg ys.toArray)).run P w = .ok (eqL ca cb) w := fun w =>
                      equal_flat 8 10000 t ps true ca cb (.agg ca) (.agg cb) _ _ w (by omega) hps hg rfl rfl ma mb (den_agg.2 ⟨xs, dxs, rfl⟩) (den_agg.2 ⟨ys, dys, rfl⟩)
                    cases neg <;> simp only at hv <;> cases hv
                    · refine ⟨_, den_bool.2 rfl, fun w => ?_⟩
                      subst hop
                      simp only [execOp, e1, e2, Sem.run_bind, run_eqGuard_agg _ _ _ _ _ _ _ hgd, Result.andThen_ok, Bool.false_eq_true, if_false, run_eql_struct, he w, o.eqs_eq, Sem.run_pure]
                    · refine ⟨_, den_bool.2 rfl, fun w => ?_⟩
                      subst hop
                      simp only [execOp, e1, e2, Sem.run_bind, run_eqGuard_agg _ _ _ _ _ _ _ hgd, Result.andThen_ok, if_true, run_neq_struct, he w, o.eqs_eq, o.not_eq, Sem.run_pure]
                  · cases hv
                · cases hv
              · cases hv
            split at hi
            · cases hi; exact main false rfl rfl
            · cases hi; exact main true rfl rfl
            · cases hi
          · cases hi
        · cases hi
      split at hc
      · cases hc; exact bins rfl
      · cases hc; exact bins rfl
      · rename_i hu
        have hcs : isAggB P t = some true := by simp [isAggB, hu]
        exact strs hcs hc
      · rename_i hu; exact eqp .bool _ hu rfl rfl hc
      · rename_i e hu; exact eqp .ptr _ hu rfl rfl hc
      · rename_i e hu; exact eqp .sl _ hu rfl rfl hc
      · rename_i e1 e2 hu; exact eqp .map _ hu rfl rfl hc
      · rename_i e1 e2 e3 hu; exact eqp .fn _ hu rfl rfl hc
      · rename_i ms hu
        split at hc
        · rename_i hcst; exact eqp .iface _ hu rfl hcst hc
        · cases hc
      · cases hc
    · cases hc
  case unOp op t x =>
    split at hc
    · rename_i r h1
      cases hc
      have d1 := (hr x (by simp)).get h1
      simp only [pval] at hv
      split at hv
      · rename_i b hbv
        cases hv
        rw [hbv] at d1
        have e1 := den_bool.1 d1
        exact ⟨_, den_bool.2 rfl, fun w => by simp [execOp, e1, Op.unary, o.not_eq]⟩
      · cases hv
    · rename_i r h1
      cases hc
      have d1 := (hr x (by simp)).get h1
      simp only [pval] at hv
      split at hv
      · rename_i k n hn
        cases hv
        rw [hn] at d1
        have e1 := den_int.1 d1
        exact ⟨_, den_int.2 rfl, fun w => by simp [execOp, e1, Op.unary, Op.intArith, o.ar_eq, arith]⟩
      · cases hv
    · cases hc
  case convert s d x =>
    split at hc
    · rename_i k1 k2 r hs hd h1
      cases hc
      have d1 := (hr x (by simp)).get h1
      simp only [pval] at hv
      split at hv
      · rename_i k n hn
        cases hv
        rw [hn] at d1
        have e1 := den_int.1 d1
        exact ⟨_, den_int.2 rfl, fun w => by simp [execOp, e1, convert, run_underlying hs, run_underlying hd, Conv.intToInt, o.wr_eq]⟩
      · cases hv
    · cases hc
  case makeInterface t x =>
    split at hc
    · cases hc
    · rename_i d r hni hd h1
      cases hc
      have d1 := (hr x (by simp)).get h1
      simp only [pval] at hv
      cases hv
      refine ⟨_, den_iface.2 ⟨_, d1, rfl⟩, fun w => ?_⟩
      simp only [execOp, Instr.makeInterface, Sem.run_bind, run_underlying hd, Result.andThen_ok]
      cases d <;> first | rfl | exact absurd hd (hni _)
    · cases hc
  case makeFunc fn first cap =>
    split at hc
    · rename_i f
      split at hc
      · rename_i ra rb h1 h2
        cases hc
        simp only [pval] at hv
        cases hv
        have e1 := rds_den h1 (fun x hx => hr x (by simp only [Array.mem_append]; exact .inl (by simpa using hx)))
        have e2 := rds_den h2 (fun x hx => hr x (by simp only [Array.mem_append]; exact .inr (by simpa using hx)))
        refine ⟨_, den_fn.2 ⟨_, _, e1, e2, rfl⟩, fun w => ?_⟩
        simp only [execOp, Instr.makeFunc, Sem.run_bind, Sem.run_pure, Result.andThen_ok]
        rw [← Array.toList_map, ← Array.toList_map, Array.toArray_toList, Array.toArray_toList]
      · cases hc
    · cases hc
  case fieldAddr s x f =>
    split at hc
    · rename_i fs r hu h1
      split at hc
      · rename_i fd hf
        split at hc
        · rename_i n hn
          split at hc
          · cases hc
          · rename_i hn0
            cases hc
            have d1 := (hr x (by simp)).get h1
            simp only [pval] at hv
            have hrun : ∀ (b s' off : Nat) (w : World), (Instr.fieldAt s (.pointer (some ⟨b, off, none⟩)) f).run P w = .ok (.pointer (some ⟨b, off + fd.offset, none⟩)) w := by
              intro b s' off w
              simp only [Instr.fieldAt, Sem.run_bind, run_underlying hu, Result.andThen_ok, hf, Instr.sureAddr, Sem.run_pure, fieldPlace, run_sizeOf' hn, Sem.run_ite, if_neg hn0]
              unfold Addr.add
              split <;> simp_all
            split at hv
            · rename_i id off hid
              cases hv
              rw [hid] at d1
              obtain ⟨b, s', hφ, he⟩ := den_ptr.1 d1
              refine ⟨_, den_ptr.2 ⟨b, s', hφ, rfl⟩, fun w => ?_⟩
              simp [execOp, he, hrun b s', Nat.add_assoc]
            · rename_i id e j off hid
              cases hv
              rw [hid] at d1
              obtain ⟨b, s', hφ, he⟩ := den_elt.1 d1
              refine ⟨_, den_elt.2 ⟨b, s', hφ, rfl⟩, fun w => ?_⟩
              simp [execOp, he, hrun b s', Nat.add_assoc]
            · cases hv
        · cases hc
      · cases hc
    · cases hc
  case field s x f =>
    split at hc
    · rename_i fs r hu h1
      split at hc
      · rename_i fd hf
        split at hc
        · rename_i n g hn hg
          split at hc
          · rename_i hgn
            cases hc
            have d1 := (hr x (by simp)).get h1
            simp only [pval] at hv
            split at hv
            · rename_i cs hcs
              rw [hcs] at d1
              obtain ⟨l, hl, he⟩ := den_agg.1 d1
              split at hv
              · rename_i q hq
                split at hv
                · rename_i u hpk
                  cases hv
                  obtain ⟨y, hy, _⟩ := run_part' hg hn hgn hl hq hpk default
                  refine ⟨y, hy, fun w => ?_⟩
                  obtain ⟨y', hy', hrun⟩ := run_part' hg hn hgn hl hq hpk w
                  rw [hy] at hy'
                  injection hy' with hy'
                  subst hy'
                  simp [execOp, Instr.field, run_underlying hu, he, hf, asAgg, hrun]
                · cases hv
              · cases hv
            · cases hv
          · cases hc
        · cases hc
      · cases hc
    · cases hc
  case indexAddr t x ix =>
    split at hc
    · rename_i e rx ri hu h1 h2
      simp only [Option.map_eq_some_iff] at hc
      obtain ⟨n, hn, rfl⟩ := hc
      have d1 := (hr x (by simp)).get h1
      have d2 := (hr ix (by simp)).get h2
      simp only [pval] at hv
      split at hv
      · rename_i id es s len cap k j hs hj
        split at hv
        · rename_i hbe
          cases hv
          have hes : es = n := Nat.eq_of_beq_eq_true hbe
          subst hes
          rw [← den_unO, hs] at d1
          rw [hj] at d2
          obtain ⟨b, s', kc, hφ, hkc, he⟩ := den_slc.1 d1
          have e2 := den_int.1 d2
          have hin := hb.resolve_left (by simp)
          simp only [o.inb_eq, Option.some.injEq, decide_eq_true_eq] at hin
          refine ⟨_, den_elt.2 ⟨b, s', hφ, rfl⟩, fun w => ?_⟩
          simp only [execOp, he, e2, Instr.indexAt, asIntOf, Sem.run_bind, Sem.run_pure, Result.andThen_ok, run_underlying hu, Sem.run_ite, if_pos hin, run_sizeOf' hn, o.nadd_eq, o.nat_eq]
          congr 3
          unfold Addr.add
          simp only [Nat.add_zero, Nat.add_mul]
          split
          · rename_i h0; simp [h0]
          · simp [Nat.add_assoc]
        · cases hv
      · cases hv
    · rename_i len e rx ri hu h1 h2
      split at hc
      · split at hc
        · cases hc
        · cases hc; simp [pval] at hv
      · cases hc
    · cases hc
  case extract x ix =>
    simp only [Option.map_eq_some_iff] at hc
    obtain ⟨r, hx, rfl⟩ := hc
    have d1 := (hr x (by simp)).get hx
    simp only [pval] at hv
    split at hv
    · rename_i vs hvs
      rw [hvs] at d1
      obtain ⟨l, hl, he⟩ := den_tup.1 d1
      split at hv
      · rename_i u hu
        cases hv
        rw [lget_eq] at hu
        obtain ⟨y, hy, hyl⟩ := denL_get hl hu
        exact ⟨y, hy, fun w => by simp [execOp, Instr.extract, he, hyl]⟩
      · cases hv
    · cases hv
  case call c =>
    split at hc
    · cases hc
    · rename_i args hargs
      have hops : ∀ x ∈ c.args.toList, RdR φ N env a x := fun x hx => hr x (by simp only [Call.operands, Array.mem_append]; exact .inr (by simpa using hx))
      have dargs := rds_den hargs hops
      split at hc
      · cases hc; simp [pval] at hv
      · simp only [Option.map_eq_some_iff] at hc; obtain ⟨_, _, rfl⟩ := hc; simp [pval] at hv
      · simp only [Option.map_eq_some_iff] at hc; obtain ⟨_, _, rfl⟩ := hc; simp [pval] at hv
      · rename_i hcal
        split at hc
        · rename_i x t ht
          have hl1 : c.args.toList.map a.eval = [((c.args.toList.map a.eval).head?).getD undef] ∧ den φ (x.ev env) = some (((c.args.toList.map a.eval).head?).getD undef) := by
            simp only [evs] at dargs
            obtain ⟨y, s, hy, hs, he⟩ := denL_cons.1 dargs
            simp [denL] at hs; subst hs
            rw [he]; exact ⟨rfl, hy⟩
          obtain ⟨hl1, hl2⟩ := hl1
          generalize (((c.args.toList.map a.eval).head?).getD undef) = y at hl1 hl2
          have hmap : c.args.map a.eval = #[y] := by
            apply Array.toList_inj.1; rw [Array.toList_map, hl1]
          have base : ∀ (m : Nat), v = .int .i64 (Int.ofNat m) → (∀ w, (Builtin.len_ c.argTypes ty #[y]).run P w = .ok (.int .i64 (m : Int)) w) → Yld P a ⟨dst, .call c, ty, pos, after, gd⟩ φ v := by
            intro m hvm hrun
            refine ⟨_, by rw [hvm]; exact den_int.2 rfl, fun w => ?_⟩
            simp [execOp, resolve, hcal, hmap, invoke, builtin, hrun w]
          have hty : (c.argTypes[0]? : Option TypeId) = some t := ht
          split at hc
          · rename_i e hu
            cases hc
            simp only [pval] at hv
            split at hv <;> cases hv <;> rename_i hev <;> rw [hev] at hl2
            · obtain ⟨b, s', kc, hφ, hkc, he⟩ := den_slc.1 hl2
              subst he
              exact base _ rfl fun w => by simp [Builtin.len_, hty, run_underlying hu, goInt]
            · rename_i oid _ _ _ _
              cases oid with
              | none =>
                simp only [den] at hl2
                split at hl2 <;> cases hl2
                rename_i hz
                exact base _ rfl fun w => by simp [Builtin.len_, hty, run_underlying hu, goInt, hz.1]
              | some id =>
                simp only [den, Option.map_eq_some_iff] at hl2
                obtain ⟨p, _, rfl⟩ := hl2
                exact base _ rfl fun w => by simp [Builtin.len_, hty, run_underlying hu, goInt]
            · simp only [den, Option.some.injEq] at hl2
              subst hl2
              exact base _ rfl fun w => by simp [Builtin.len_, hty, run_underlying hu, goInt]
          · rename_i hu
            cases hc
            simp only [pval] at hv
            split at hv <;> cases hv
            rename_i hev
            rw [hev] at hl2
            have he := den_str.1 hl2
            subst he
            exact base _ (by rw [o.size_eq]) fun w => by simp [Builtin.len_, hty, run_underlying hu, goInt]
          · cases hc
            simp only [pval] at hv
            cases hv
          · cases hc
            simp only [pval] at hv
            cases hv
          · cases hc
        · cases hc
      · -- copy
        split at hc
        · split at hc
          · split at hc
            · split at hc
              · cases hc
                simp only [pval] at hv
                cases hv
              · cases hc
            · cases hc
          · cases hc
        · cases hc
      · split at hc
        · obtain ⟨_, _, _, _, _, h2⟩ := mapI_is hc
          simp only [mdlI] at h2
          cases h2
          simp only [pval] at hv
          cases hv
        · cases hc
      · rename_i hcal
        split at hc
        · rename_i x y
          cases hc
          simp only [evs] at dargs
          obtain ⟨u, s, hu, hs, he⟩ := denL_cons.1 dargs
          obtain ⟨u2, s2, hu2, hs2, he2⟩ := denL_cons.1 hs
          simp [denL] at hs2; subst hs2; subst he2
          have hmap : c.args.map a.eval = #[u, u2] := by
            apply Array.toList_inj.1; rw [Array.toList_map, he]
          simp only [pval] at hv
          split at hv
          · rename_i k m k' n hm hn
            cases hv
            rw [hm] at hu
            rw [hn] at hu2
            have e1 := den_int.1 hu
            have e2 := den_int.1 hu2
            subst e1
            subst e2
            exact ⟨_, den_int.2 rfl, fun w => by simp [execOp, resolve, hcal, hmap, invoke, builtin, Builtin.min_, Builtin.min2, o.mn_eq]⟩
          · cases hv
        · cases hc
      · rename_i hcal
        split at hc
        · rename_i x y
          cases hc
          simp only [evs] at dargs
          obtain ⟨u, s, hu, hs, he⟩ := denL_cons.1 dargs
          obtain ⟨u2, s2, hu2, hs2, he2⟩ := denL_cons.1 hs
          simp [denL] at hs2; subst hs2; subst he2
          have hmap : c.args.map a.eval = #[u, u2] := by
            apply Array.toList_inj.1; rw [Array.toList_map, he]
          simp only [pval] at hv
          split at hv
          · rename_i k m k' n hm hn
            cases hv
            rw [hm] at hu
            rw [hn] at hu2
            have e1 := den_int.1 hu
            have e2 := den_int.1 hu2
            subst e1
            subst e2
            exact ⟨_, den_int.2 rfl, fun w => by simp [execOp, resolve, hcal, hmap, invoke, builtin, Builtin.max_, Builtin.max2, o.mx_eq]⟩
          · cases hv
        · cases hc
      all_goals
        repeat' split at hc
        all_goals (cases hc; try (simp [pval] at hv))
  case alloc | box =>
    simp only [Option.map_eq_some_iff] at hc
    obtain ⟨r, hx, rfl⟩ := hc
    simp [pval] at hv
  case slice t x low high mx =>
    split at hc
    · rename_i e rx lo hi hu hx hlo hhi
      simp only [Option.map_eq_some_iff] at hc
      obtain ⟨sz, hsz, rfl⟩ := hc
      have d1 := (hr x (by simp)).get hx
      have dlo := rdo_ok hlo (fun y hy => hr y (by cases hy; simp))
      have dhi := rdo_ok hhi (fun y hy => hr y (by cases hy; simp))
      simp only [pval] at hv
      split at hv
      · rename_i id e' s n cid hev
        rw [hev] at d1
        obtain ⟨b, st, k, hφ, hkc, hex⟩ := den_slc.1 d1
        obtain ⟨p, _, hpl, hpk⟩ := cap_v hkc
        split at hv
        · rename_i hbe
          have hee : e' = sz := Nat.eq_of_beq_eq_true hbe
          subst hee
          have fin : ∀ {l h : Nat} {v : VV}, (∀ w, (Instr.sliceBounds true n k (low.map a.eval) (high.map a.eval) none).run P w = .ok (l, h, k) w) → l ≤ h → h ≤ n → (l = 0 ∨ l < n) → v = .sl id e' (s + l) (h - l) (.v cid) → Yld P a ⟨dst, .slice t x low high none, ty, pos, after, gd⟩ φ v := by
            rintro l h v hb h1 h2 h3 rfl
            refine ⟨_, den_slicedv hφ hkc h1 h2 h3, fun w => ?_⟩
            simp only [execOp, hex, Instr.sliceAt, Sem.run_bind, Option.map_none, run_underlying hu, Result.andThen_ok]
            rw [run_slice' hu hsz w (hb w)]
            rfl
          split at hv
          · rcases dlo with ⟨rfl, _⟩ | ⟨_, _, _, h0, _⟩
            rotate_left
            · cases h0
            rcases dhi with ⟨rfl, _⟩ | ⟨_, _, _, h0, _⟩
            rotate_left
            · cases h0
            cases hv
            exact fin (l := 0) (h := n) (fun w => by simp [Instr.sliceBounds]) (Nat.zero_le _) (Nat.le_refl _) (.inl rfl) rfl
          · rename_i h
            rcases dlo with ⟨rfl, _⟩ | ⟨_, _, _, h0, _⟩
            rotate_left
            · cases h0
            rcases dhi with ⟨_, h0⟩ | ⟨y, z, rfl, h0, dh⟩ <;> cases h0
            split at hv
            · rename_i kk m hm
              cases hv
              rw [hm] at dh
              have e1 := den_int.1 dh
              simp [o.slb_eq] at hb
              refine fin (l := 0) (h := m.toNat) (fun w => ?_) (Nat.zero_le _) (by omega) (.inl rfl) ?_
              · simp [Instr.sliceBounds, run_sliceBound (P := P) e1 hb.1 (show m ≤ (k : Int) by omega)]
              · simp [o.nat_eq]
            · cases hv
          · rename_i l
            rcases dhi with ⟨rfl, _⟩ | ⟨_, _, _, h0, _⟩
            rotate_left
            · cases h0
            rcases dlo with ⟨_, h0⟩ | ⟨y, z, rfl, h0, dl⟩ <;> cases h0
            split at hv
            · rename_i kk m hm
              cases hv
              rw [hm] at dl
              have e1 := den_int.1 dl
              simp [o.slv_eq] at hb
              refine fin (l := m.toNat) (h := n) (fun w => ?_) (by omega) (Nat.le_refl _) (by omega) ?_
              · simp [Instr.sliceBounds, run_sliceBound (P := P) e1 hb.1 hb.2.1]
              · simp [o.nat_eq, o.nsub_eq, o.nadd_eq]
            · cases hv
          · rename_i l h
            rcases dlo with ⟨_, h0⟩ | ⟨y, z, rfl, h0, dl⟩ <;> cases h0
            rcases dhi with ⟨_, h0⟩ | ⟨y', z', rfl, h0, dh⟩ <;> cases h0
            split at hv
            · rename_i kk m k' m' hm hm'
              cases hv
              rw [hm] at dl
              rw [hm'] at dh
              have e1 := den_int.1 dl
              have e2 := den_int.1 dh
              simp [o.slv_eq] at hb
              refine fin (l := m.toNat) (h := m'.toNat) (fun w => ?_) (by omega) (by omega) (by omega) ?_
              · have h3 : m ≤ (m'.toNat : Int) := by omega
                simp [Instr.sliceBounds, run_sliceBound (P := P) e1 hb.1 h3, run_sliceBound (P := P) e2 (show (0 : Int) ≤ m' by omega) (show m' ≤ (k : Int) by omega)]
              · simp [o.nat_eq, o.nsub_eq, o.nadd_eq]
            · cases hv
        · cases hv
      · rename_i id e' s n cap hev
        rw [hev] at d1
        obtain ⟨b, st, hφ, hex⟩ := den_sl.1 d1
        split at hv
        · rename_i hbe
          have hee : e' = sz := Nat.eq_of_beq_eq_true hbe
          subst hee
          have fin : ∀ {l h : Nat} {v : VV}, (∀ w, (Instr.sliceBounds true n cap (low.map a.eval) (high.map a.eval) none).run P w = .ok (l, h, cap) w) → v = .sl id e' (if cap = l then s else s + l) (h - l) (cap - l) → Yld P a ⟨dst, .slice t x low high none, ty, pos, after, gd⟩ φ v := by
            rintro l h v hb rfl
            refine ⟨_, den_sliced hφ, fun w => ?_⟩
            simp only [execOp, hex, Instr.sliceAt, Sem.run_bind, Option.map_none, run_underlying hu, Result.andThen_ok]
            rw [run_slice' hu hsz w (hb w)]
            rfl
          split at hv
          · rcases dlo with ⟨rfl, _⟩ | ⟨_, _, _, h0, _⟩
            rotate_left
            · cases h0
            rcases dhi with ⟨rfl, _⟩ | ⟨_, _, _, h0, _⟩
            rotate_left
            · cases h0
            cases hv
            refine fin (l := 0) (h := n) (fun w => by simp [Instr.sliceBounds]) ?_
            split <;> simp
          · rename_i h
            rcases dlo with ⟨rfl, _⟩ | ⟨_, _, _, h0, _⟩
            rotate_left
            · cases h0
            rcases dhi with ⟨_, h0⟩ | ⟨y, z, rfl, h0, dh⟩ <;> cases h0
            split at hv
            · rename_i k m hm
              cases hv
              rw [hm] at dh
              have e1 := den_int.1 dh
              simp [o.slb_eq] at hb
              refine fin (l := 0) (h := m.toNat) (fun w => ?_) ?_
              · simp [Instr.sliceBounds, run_sliceBound (P := P) e1 hb.1 hb.2]
              · simp [o.nat_eq]
            · cases hv
          · rename_i l
            rcases dhi with ⟨rfl, _⟩ | ⟨_, _, _, h0, _⟩
            rotate_left
            · cases h0
            rcases dlo with ⟨_, h0⟩ | ⟨y, z, rfl, h0, dl⟩ <;> cases h0
            split at hv
            · rename_i k m hm
              cases hv
              rw [hm] at dl
              have e1 := den_int.1 dl
              simp [o.slb_eq] at hb
              refine fin (l := m.toNat) (h := n) (fun w => ?_) ?_
              · simp [Instr.sliceBounds, run_sliceBound (P := P) e1 hb.1 hb.2.1]
              · simp [o.nat_eq, o.nsub_eq, o.soff_eq]
            · cases hv
          · rename_i l h
            rcases dlo with ⟨_, h0⟩ | ⟨y, z, rfl, h0, dl⟩ <;> cases h0
            rcases dhi with ⟨_, h0⟩ | ⟨y', z', rfl, h0, dh⟩ <;> cases h0
            split at hv
            · rename_i k m k' m' hm hm'
              cases hv
              rw [hm] at dl
              rw [hm'] at dh
              have e1 := den_int.1 dl
              have e2 := den_int.1 dh
              simp [o.slb_eq] at hb
              refine fin (l := m.toNat) (h := m'.toNat) (fun w => ?_) ?_
              · have h3 : m ≤ (m'.toNat : Int) := by omega
                simp [Instr.sliceBounds, run_sliceBound (P := P) e2 (by omega : 0 ≤ m') hb.2.2, run_sliceBound (P := P) e1 hb.1 h3]
              · simp [o.nat_eq, o.nsub_eq, o.soff_eq]
            · cases hv
        · cases hv
      · cases hv
    · cases hc
  all_goals
    repeat' split at hc
    all_goals first
      | (cases hc; done)
      | (cases hc; simp [pval] at hv; done)
      | (simp only [Option.map_eq_some_iff] at hc; obtain ⟨_, _, rfl⟩ := hc; simp [pval] at hv; done)
      | (obtain ⟨_, _, _, _, _, h2⟩ := mapI_is hc; obtain ⟨_, _, rfl⟩ := mlkI_is h2; simp only [pval] at hv; cases hv)
      | (obtain ⟨_, _, _, _, _, h2⟩ := mapI_is hc; simp only [mupI] at h2; cases h2; simp only [pval] at hv; cases hv)
end
end Go.SL

/- A symbolic executor over the model: loads, blocks that are made, stores, calls. -/
namespace Go.SL

def okFn (P : Program) (f : FuncId) : Bool :=
  match P.funcs[f]? with
  | some fn => fn.name != "runtime.NumGoroutine" && fn.body.isSome
  | none => false

/-- A call that ends, whatever real world the virtual heap lies in. -/
def Ev (P : Program) (W0 : World) (f : FuncId) (args : List VV) (V : List VB) (Q : VV → List VB → Prop) : Prop :=
  okFn P f = true ∧ ∀ φ h w, Emb W0 φ V h w → ∀ rargs, denL φ args = some rargs →
    Calls P f rargs.toArray w fun e w' => ∃ v x V' φ' h', e = .returned x ∧ den φ' v = some x ∧ Q v V' ∧ φ.le φ' ∧ Emb W0 φ' V' h' w' ∧ Fr h h' w w'

theorem Ev.mono {P : Program} {W0 : World} {f : FuncId} {args : List VV} {V : List VB} {Q Q' : VV → List VB → Prop} (h : Ev P W0 f args V Q) (hq : ∀ v V', Q v V' → Q' v V') : Ev P W0 f args V Q' :=
  ⟨h.1, fun φ hh w he rargs hr => (h.2 φ hh w he rargs hr).mono fun _ _ ⟨v, x, V', φ', h', h1, h2, h3, h4⟩ => ⟨v, x, V', φ', h', h1, h2, hq _ _ h3, h4⟩⟩

structure EnvR (φ : Phi) (N : Nat) (env : Env) (a : Act) : Prop where
  size : a.tmps.size = N
  val : ∀ t, t < N → ∃ x, den φ (env t) = some x ∧ a.tmps[t]? = some x

section
variable {P : Program} {W0 : World} {RE : (Env → List VB → Prop) → Env → List VB → Prop} {o : Ops (Ev P W0) RE} {cand : List TypeId} {N : Nat} {φ : Phi} {env : Env} {a : Act} {V : List VB} {h : Nat → Frag} {w : World}

theorem EnvR.rd (hE : EnvR φ N env a) (x : Operand) : RdR φ N env a x := by
  intro r hr
  cases x with
  | tmp t =>
    simp only [SL.rd] at hr
    split at hr
    · rename_i ht
      cases hr
      obtain ⟨x, h1, h2⟩ := hE.val t ht
      simp only [Rd.ev, h1, Act.eval, Array.getD_eq_getD_getElem?, h2, Option.getD_some]
    · cases hr
  | const v =>
    simp only [SL.rd, Option.map_eq_some_iff] at hr
    obtain ⟨y, hy, rfl⟩ := hr
    exact vvAny_den hy φ
  | global g => simp [SL.rd] at hr
  | func f =>
    simp only [SL.rd] at hr
    cases hr
    rfl

theorem EnvR.mono {φ' : Phi} (hE : EnvR φ N env a) (hle : φ.le φ') : EnvR φ' N env a :=
  ⟨hE.size, fun t ht => let ⟨x, h1, h2⟩ := hE.val t ht; ⟨x, den_mono hle _ _ h1, h2⟩⟩

theorem EnvR.put {d : Option Tmp} {v : VV} {x : Value} (hE : EnvR φ N env a) (hv : den φ v = some x) (hd : ∀ t, d = some t → t < N) : EnvR φ N (put env d v) (a.put d x) := by
  cases d with
  | none => exact hE
  | some t0 =>
    have ht0 := hd t0 rfl
    refine ⟨by simp [Act.put, hE.size], fun t ht => ?_⟩
    simp only [SL.put, Act.put]
    by_cases e : t = t0
    · subst e
      have e0 : Nat.beq t t = true := Nat.beq_refl t
      rw [e0]
      exact ⟨x, hv, by rw [Array.getElem?_setIfInBounds]; simp [hE.size, ht]⟩
    · have e0 : Nat.beq t t0 = false := by
        cases h : Nat.beq t t0 with
        | false => rfl
        | true => exact absurd (Nat.eq_of_beq_eq_true h) e
      rw [e0]
      obtain ⟨y, h1, h2⟩ := hE.val t ht
      refine ⟨y, h1, ?_⟩
      rw [Array.getElem?_setIfInBounds_ne (by omega)]
      exact h2

/-! ### Loads -/
def holdsAt (w : World) (b off : Nat) (l : List Value) : Prop := ∀ (j : Nat) (v : Value), l[j]? = some v → w.cell? ⟨b, off + j, none⟩ = some v

theorem flatten_get {xs : List (List VV)} {e : Nat} : ∀ {j : Nat} {cs : List VV}, (∀ x ∈ xs, x.length = e) → xs[j]? = some cs → ∀ (k : Nat) (v : VV), cs[k]? = some v → xs.flatten[j * e + k]? = some v := by
  induction xs with
  | nil => intro j cs _ h; simp at h
  | cons x xs ih =>
    intro j cs hl hj k v hk
    have hx := hl x (by simp)
    cases j with
    | zero =>
      simp at hj; subst hj
      have : k < x.length := (List.getElem?_eq_some_iff.1 hk).1
      simp only [Nat.zero_mul, Nat.zero_add, List.flatten_cons]
      rw [List.getElem?_append_left this]; exact hk
    | succ j =>
      have := ih (fun y hy => hl y (by simp [hy])) (by simpa using hj) k v hk
      rw [List.flatten_cons, List.getElem?_append_right (by rw [hx, Nat.succ_mul]; omega)]
      rw [hx]
      have e1 : (j + 1) * e + k - e = j * e + k := by rw [Nat.succ_mul]; omega
      rw [e1]; exact this

theorem run_loadVar' {t : TypeId} {g : Bool} {n b off : Nat} (hg : isAggB P t = some g) (hn : sizeB P t = some n) (h1 : g = true ∨ n = 1) {l : List VV} {v : VV} {rs : List Value}
    (hl : denL φ l = some rs) (hlen : l.length = n) (hv : pack g l = some v) (w : World) (hw : holdsAt w b off rs) :
    ∃ x, den φ v = some x ∧ (loadVar t ⟨b, off, none⟩).run P w = .ok x w := by
  have hadd : ∀ j, (⟨b, off, none⟩ : Addr).add j = ⟨b, off + j, none⟩ := fun j => by unfold Addr.add; split <;> simp_all
  unfold loadVar
  simp only [Sem.run_bind, run_isAgg' hg, Result.andThen_ok]
  have hrl := denL_length hl
  cases g with
  | true =>
    simp only [pack] at hv
    cases hv
    refine ⟨_, den_agg.2 ⟨_, hl, rfl⟩, ?_⟩
    have := run_loadCells_list (P := P) w ⟨b, off, none⟩ rs (fun j v hj => by rw [hadd]; exact hw j v hj)
    simp only [if_true, Sem.run_bind, run_sizeOf' hn, Result.andThen_ok]
    rw [show n = rs.length by omega, this]
    rfl
  | false =>
    have hn1 : n = 1 := by simpa using h1
    simp only [pack] at hv
    split at hv
    · rename_i u
      cases hv
      obtain ⟨x, s, hx, hs, rfl⟩ := denL_cons.1 hl
      refine ⟨x, hx, ?_⟩
      have := hw 0 x (by simp)
      simp only [Nat.add_zero] at this
      simp [this]
    · cases hv

/-- Where a load reads, what it finds there; the same in every world that has it there. -/
theorem lval_pin {op : Oper} {i : I} (hc : compOp P cand N op = some i) (hr : ∀ x ∈ op.op.operands, RdR φ N env a x) {v : VV} (hv : lval o i env V = some v) (hE : Emb W0 φ V h w) :
    ∃ b off l x, den φ v = some x ∧ holdsAt w b off l ∧ ∀ w', holdsAt w' b off l → (execOp a.eval op).run P w' = .ok (.value x) w' := by
  have none_of : (∀ n g r, i ≠ .ld n g r) → False := by
    intro hne
    cases i <;> simp [lval] at hv
    rename_i n g r
    exact hne n g r rfl
  obtain ⟨dst, op, ty, pos, after, gd⟩ := op
  cases op <;> simp only [compOp] at hc <;> simp only [Op.operands] at hr
  case load t x =>
    split at hc
    · rename_i g n rx hg hn hx
      split at hc
      · rename_i hgn
        cases hc
        have d1 := (hr x (by simp)).get hx
        simp only [lval] at hv
        have fin : ∀ (b off : Nat) (l' : List VV) (rs : List Value), den φ (rx.ev env) = some (.pointer (some ⟨b, off, none⟩)) → denL φ l' = some rs → l'.length = n → pack g l' = some v → holdsAt w b off rs →
            ∃ b off l x', den φ v = some x' ∧ holdsAt w b off l ∧ ∀ w', holdsAt w' b off l → (execOp a.eval ⟨dst, .load t x, ty, pos, after, gd⟩).run P w' = .ok (.value x') w' := by
          intro b off l' rs hp hl hlen hpk hw
          obtain ⟨x', hx', _⟩ := run_loadVar' (b := b) (off := off) hg hn hgn hl hlen hpk w hw
          refine ⟨b, off, rs, x', hx', hw, fun w' hw' => ?_⟩
          obtain ⟨x'', hx'', hrun⟩ := run_loadVar' (b := b) (off := off) hg hn hgn hl hlen hpk w' hw'
          rw [hx'] at hx''
          injection hx'' with hx''
          subst hx''
          rw [hp] at d1
          injection d1 with d1
          simp [execOp, Instr.loadAt, Instr.sureAddr, ← d1, hrun]
        have arrs : ∀ (id e e' j off : Nat) (xs : List (List VV)) (cs l' : List VV), rx.ev env = .elt id e j off → Nat.beq e e' = true → (∃ b s rs, φ id = some (b, s) ∧ denL φ xs.flatten = some rs ∧ (∀ x ∈ xs, x.length = e') ∧ holdsAt w b s rs) →
            o.get xs j = some cs → rdn cs off n = some l' → pack g l' = some v → ∃ b off l x', den φ v = some x' ∧ holdsAt w b off l ∧ ∀ w', holdsAt w' b off l → (execOp a.eval ⟨dst, .load t x, ty, pos, after, gd⟩).run P w' = .ok (.value x') w' := by
          rintro id e e' j off xs cs l' hev hbe ⟨b, s, rs, hφ, hrs, hlen, hw⟩ hget hrd hpk
          have hee : e = e' := Nat.eq_of_beq_eq_true hbe
          subst hee
          rw [o.get_eq] at hget
          obtain ⟨hle, rfl⟩ := rdn_spec hrd
          have hcl : cs.length = e := hlen cs (List.mem_of_getElem? hget)
          -- the cells of the element within the row
          have hcs : cs = (xs.flatten.drop (j * e)).take e := by
            apply List.ext_getElem?
            intro k
            rw [List.getElem?_take, List.getElem?_drop]
            by_cases hk : k < e
            · rw [if_pos hk]
              obtain ⟨u, hu⟩ : ∃ u, cs[k]? = some u := ⟨cs[k]'(by omega), by simp [hcl, hk]⟩
              rw [hu, flatten_get hlen hget k u hu]
            · rw [if_neg hk]; exact List.getElem?_eq_none (by omega)
          have hdc : denL φ cs = some ((rs.drop (j * e)).take e) := by
            rw [hcs]; exact denL_take e (denL_drop _ hrs)
          have hdl := denL_take n (denL_drop off hdc)
          refine fin b (s + (j * e + off)) _ _ ?_ hdl (by simp; omega) hpk ?_
          · rw [hev]; exact den_elt.2 ⟨b, s, hφ, rfl⟩
          · intro k u hk
            rw [List.getElem?_take] at hk
            split at hk
            · rw [List.getElem?_drop, List.getElem?_take] at hk
              split at hk
              · rw [List.getElem?_drop] at hk
                have := hw _ u hk
                rw [show s + (j * e + (off + k)) = s + (j * e + off) + k by omega] at this
                exact this
              · cases hk
            · cases hk
        split at hv
        · rename_i id off hev
          split at hv
          · rename_i cs hV
            split at hv
            · rename_i l' hrd
              rw [lget_eq] at hV
              obtain ⟨b, rs, T, hφ, hrs, hf⟩ := hE.sat id _ hV
              obtain ⟨hle, rfl⟩ := rdn_spec hrd
              have hdl := denL_take n (denL_drop off hrs)
              refine fin b (0 + off) _ _ ?_ hdl (by simp; omega) hv ?_
              · rw [hev]; exact den_ptr.2 ⟨b, 0, hφ, rfl⟩
              · intro k u hk
                rw [List.getElem?_take] at hk
                split at hk
                · rw [List.getElem?_drop] at hk
                  have hw := (hE.sub id b _ hf).2
                  simp only [World.cell?, hw]
                  simpa using hk
                · cases hk
            · cases hv
          · cases hv
        · rename_i id e j off hev
          split at hv
          · rename_i e' xs tot hV
            split at hv
            · rename_i hbe
              split at hv
              · rename_i cs hget
                split at hv
                · rename_i l' hrd
                  rw [lget_eq] at hV
                  obtain ⟨b, rs, rest, T, hφ, hrs, hf, _, hlen⟩ := hE.sat id _ hV
                  refine arrs id e e' j off xs cs l' hev hbe ⟨b, 0, rs, hφ, hrs, hlen, ?_⟩ hget hrd hv
                  intro k u hk
                  have hw := (hE.sub id b _ hf).2
                  have hkl : k < rs.length := (List.getElem?_eq_some_iff.1 hk).1
                  simp only [World.cell?, hw]
                  simp [List.getElem?_append_left hkl, hk]
                · cases hv
              · cases hv
            · cases hv
          · rename_i e' xs hV
            split at hv
            · rename_i hbe
              split at hv
              · rename_i cs hget
                split at hv
                · rename_i l' hrd
                  rw [lget_eq] at hV
                  obtain ⟨b, s, rs, hφ, hrs, hlen, hw⟩ := hE.sat id _ hV
                  refine arrs id e e' j off xs cs l' hev hbe ⟨b, s, rs, hφ, hrs, hlen, ?_⟩ hget hrd hv
                  intro k u hk
                  have := hw k u hk
                  have hlt : b < W0.heap.size := by
                    unfold World.cell? at this
                    split at this
                    · rename_i hb; exact (Array.getElem?_eq_some_iff.1 hb).1
                    · cases this
                  unfold World.cell? at this ⊢
                  rw [hE.old b hlt]
                  exact this
                · cases hv
              · cases hv
            · cases hv
          · cases hv
        · cases hv
      · cases hc
    · cases hc
  all_goals
    exfalso
    apply none_of
    intro n g r hi
    subst hi
    first
      | (simp only [Option.map_eq_some_iff] at hc; obtain ⟨_, _, hh⟩ := hc; cases hh; done)
      | (repeat' split at hc
         all_goals first | (cases hc; done) | (simp only [Option.map_eq_some_iff] at hc; obtain ⟨_, _, hh⟩ := hc; cases hh; done) | (simp only [eqI] at hc; split at hc <;> cases hc; done) | (obtain ⟨_, _, hh⟩ := eqsI_is hc; cases hh; done) | (obtain ⟨_, _, _, _, _, h2⟩ := mapI_is hc; first | (obtain ⟨_, _, hh⟩ := mlkI_is h2; cases hh; done) | (simp only [mupI] at h2; cases h2; done) | (simp only [mdlI] at h2; cases h2; done)))
end
end Go.SL

/- A symbolic executor over the model: how a world that a virtual heap lies in is changed. -/
namespace Go.SL

def Phi.set (φ : Phi) (n : Nat) (p : Nat × Nat) : Phi := fun i => if i = n then some p else φ i
def hset (h : Nat → Frag) (n : Nat) (f : Frag) : Nat → Frag := fun i => if i = n then f else h i
def single (b : Nat) (o : Obj) : Frag := fun x => if x = b then some o else none

theorem Phi.le_set {φ : Phi} {n : Nat} {p : Nat × Nat} (h : φ n = none) : φ.le (φ.set n p) := by
  intro i x hx
  unfold Phi.set
  split
  · rename_i e; subst e; rw [h] at hx; cases hx
  · exact hx
theorem Phi.set_self (φ : Phi) (n : Nat) (p : Nat × Nat) : (φ.set n p) n = some p := by simp [Phi.set]

section
variable {P : Program} {W0 : World} {φ : Phi} {V : List VB} {h : Nat → Frag} {w : World}

/-- The world with one block more. -/
def wpush (w : World) (ob : Obj) : World := { w with heap := w.heap.push ob }

theorem Emb.born {n : Nat} {ob : Obj} {vb : VB} {V' : List VB} (hE : Emb W0 φ V h w) (hn : φ n = none) (hlen : V.length ≤ V'.length) (h1 : V'[n]? = some vb) (h2 : ∀ i, i ≠ n → V'[i]? = V[i]?)
    (hok : vb.ok W0 (φ.set n (w.heap.size, 0)) (single w.heap.size ob) n) :
    Emb W0 (φ.set n (w.heap.size, 0)) V' (hset h n (single w.heap.size ob)) (wpush w ob) ∧ Fr h (hset h n (single w.heap.size ob)) w (wpush w ob) := by
  have hlt : ∀ i b o', h i b = some o' → b < w.heap.size := fun i b o' hb => (Array.getElem?_eq_some_iff.1 (hE.sub i b o' hb).2).1
  have hget : ∀ b, b < w.heap.size → (wpush w ob).heap[b]? = w.heap[b]? := fun b hb => by
    simp only [wpush, Array.getElem?_push]; rw [if_neg (by omega)]
  refine ⟨⟨?_, ?_, ?_, ?_, ?_, ?_⟩, ⟨?_, ?_, ?_, ⟨rfl, rfl, rfl⟩⟩⟩
  · simp [wpush]; have := hE.size; omega
  · intro b hb; rw [hget b (Nat.lt_of_lt_of_le hb hE.size)]; exact hE.old b hb
  · intro i b o' hb
    unfold hset at hb
    split at hb
    · unfold single at hb
      split at hb
      · rename_i e; subst e; cases hb; exact ⟨hE.size, by simp only [wpush, Array.getElem?_push]; simp⟩
      · cases hb
    · obtain ⟨g1, g2⟩ := hE.sub i b o' hb
      exact ⟨g1, by rw [hget b (hlt i b o' hb)]; exact g2⟩
  · intro i j b hij
    unfold hset
    by_cases e1 : i = n
    · by_cases e2 : j = n
      · omega
      · rw [if_pos e1, if_neg e2]
        unfold single
        split
        · rename_i e; right
          cases hb : h j b with
          | none => rfl
          | some o' => have := hlt j b o' hb; omega
        · left; rfl
    · by_cases e2 : j = n
      · rw [if_neg e1, if_pos e2]
        unfold single
        split
        · rename_i e; left
          cases hb : h i b with
          | none => rfl
          | some o' => have := hlt i b o' hb; omega
        · right; rfl
      · rw [if_neg e1, if_neg e2]; exact hE.disj i j b hij
  · intro i hi
    have hne : i ≠ n := by
      rintro rfl
      rw [List.getElem?_eq_none hi] at h1; cases h1
    simp only [Phi.set, if_neg hne]
    exact hE.dom i (by omega)
  · intro i vb' hi
    by_cases e : i = n
    · subst e
      rw [h1] at hi; cases hi
      simpa [hset] using hok
    · rw [h2 i e] at hi
      have := hE.sat i vb' hi
      simp only [hset, if_neg e]
      exact VB.ok_mono (Phi.le_set hn) this (by intro h0; simp [Phi.set, e, h0])
  · simp [wpush]
  · intro x hx _; exact hget x hx
  · intro i b o' hb
    unfold hset at hb
    split at hb
    · unfold single at hb
      split at hb
      · rename_i e; right; omega
      · cases hb
    · exact .inl ⟨i, o', hb⟩

theorem Emb.obj {i b : Nat} {old new : Obj} {vb' : VB} {w' : World} (hE : Emb W0 φ V h w) (hi : i < V.length) (hb : h i b = some old)
    (hok : vb'.ok W0 φ (fun x => if x = b then some new else h i x) i) (hw : w'.heap = w.heap.setIfInBounds b new) (hs : Sm w w') :
    Emb W0 φ (V.set i vb') (hset h i (fun x => if x = b then some new else h i x)) w' ∧
      Fr h (hset h i (fun x => if x = b then some new else h i x)) w w' := by
  obtain ⟨hb1, hb2⟩ := hE.sub i b _ hb
  have hlt : b < w.heap.size := (Array.getElem?_eq_some_iff.1 hb2).1
  have hself : w'.heap[b]? = some new := by rw [hw]; simp [hlt]
  have hoth : ∀ x, x ≠ b → w'.heap[x]? = w.heap[x]? := fun x hx => by rw [hw, Array.getElem?_setIfInBounds_ne (Ne.symm hx)]
  have hsz : w'.heap.size = w.heap.size := by rw [hw]; simp
  refine ⟨⟨?_, ?_, ?_, ?_, ?_, ?_⟩, ⟨?_, ?_, ?_, hs⟩⟩
  · rw [hsz]; exact hE.size
  · intro x hx; rw [hoth x (by omega)]; exact hE.old x hx
  · intro j x o' hx
    unfold hset at hx
    split at hx
    · dsimp only at hx
      split at hx
      · rename_i e; subst e; cases hx; exact ⟨hb1, hself⟩
      · rename_i e; obtain ⟨g1, g2⟩ := hE.sub i x o' hx; exact ⟨g1, by rw [hoth x e]; exact g2⟩
    · rename_i hj
      obtain ⟨g1, g2⟩ := hE.sub j x o' hx
      have hne : x ≠ b := by
        rintro rfl
        rcases hE.disj j i x hj with h0 | h0
        · rw [h0] at hx; cases hx
        · rw [h0] at hb; cases hb
      exact ⟨g1, by rw [hoth x hne]; exact g2⟩
  · intro j k x hjk
    unfold hset
    have key : ∀ m, m ≠ i → h m x = none ∨ (if x = b then some new else h i x) = none := by
      intro m hm
      split
      · rename_i e; subst e
        rcases hE.disj m i x hm with h0 | h0
        · exact .inl h0
        · rw [h0] at hb; cases hb
      · exact hE.disj m i x hm
    by_cases e1 : j = i
    · by_cases e2 : k = i
      · omega
      · rw [if_pos e1, if_neg e2]; exact (key k e2).symm
    · by_cases e2 : k = i
      · rw [if_neg e1, if_pos e2]; exact key j e1
      · rw [if_neg e1, if_neg e2]; exact hE.disj j k x hjk
  · intro j hj; exact hE.dom j (by simpa using hj)
  · intro j vb hj
    by_cases e : j = i
    · subst e
      rw [List.getElem?_set_self hi] at hj; cases hj
      simpa [hset] using hok
    · rw [List.getElem?_set_ne (Ne.symm e)] at hj
      simp only [hset, if_neg e]
      exact hE.sat j vb hj
  · rw [hsz]; exact Nat.le_refl _
  · intro x hx hn
    have : x ≠ b := by rintro rfl; rw [hn i] at hb; cases hb
    exact hoth x this
  · intro j x o' hx
    left
    unfold hset at hx
    split at hx
    · dsimp only at hx
      split at hx
      · rename_i e; subst e; exact ⟨i, _, hb⟩
      · exact ⟨i, o', hx⟩
    · exact ⟨j, o', hx⟩

theorem born_last {vb : VB} (n : Nat) (hn : n = V.length) : (V ++ [vb])[n]? = some vb ∧ ∀ i, i ≠ n → (V ++ [vb])[i]? = V[i]? := by
  subst hn
  refine ⟨by simp, fun i hi => ?_⟩
  by_cases h : i < V.length
  · rw [List.getElem?_append_left h]
  · rw [List.getElem?_eq_none (by simp; omega), List.getElem?_eq_none (by omega)]

/-- An entry's own block gets another content. -/
theorem Emb.upd {i b : Nat} {old new : Array Value} {T : TypeId} {fr : Nat × Nat} {vb' : VB} (hE : Emb W0 φ V h w) (hi : i < V.length) (hb : h i b = some (.cells old T fr))
    (hok : vb'.ok W0 φ (fun x => if x = b then some (.cells new T fr) else h i x) i) :
    Emb W0 φ (V.set i vb') (hset h i (fun x => if x = b then some (.cells new T fr) else h i x)) (w.setRow b new) ∧
      Fr h (hset h i (fun x => if x = b then some (.cells new T fr) else h i x)) w (w.setRow b new) := by
  obtain ⟨hb1, hb2⟩ := hE.sub i b _ hb
  have hself : (w.setRow b new).heap[b]? = some (.cells new T fr) := setRow_heap w b old new T fr hb2
  have hoth : ∀ x, x ≠ b → (w.setRow b new).heap[x]? = w.heap[x]? := fun x hx => setRow_other w b x new hx
  refine ⟨⟨?_, ?_, ?_, ?_, ?_, ?_⟩, ⟨?_, ?_, ?_, ⟨setRow_os .., setRow_tape .., setRow_output ..⟩⟩⟩
  · rw [setRow_size]; exact hE.size
  · intro x hx; rw [hoth x (by omega)]; exact hE.old x hx
  · intro j x o' hx
    unfold hset at hx
    split at hx
    · dsimp only at hx
      split at hx
      · rename_i e; subst e; cases hx; exact ⟨hb1, hself⟩
      · rename_i e; obtain ⟨g1, g2⟩ := hE.sub i x o' hx; exact ⟨g1, by rw [hoth x e]; exact g2⟩
    · rename_i hj
      obtain ⟨g1, g2⟩ := hE.sub j x o' hx
      have hne : x ≠ b := by
        rintro rfl
        rcases hE.disj j i x hj with h0 | h0
        · rw [h0] at hx; cases hx
        · rw [h0] at hb; cases hb
      exact ⟨g1, by rw [hoth x hne]; exact g2⟩
  · intro j k x hjk
    unfold hset
    have key : ∀ m, m ≠ i → h m x = none ∨ (if x = b then some (Obj.cells new T fr) else h i x) = none := by
      intro m hm
      split
      · rename_i e; subst e
        rcases hE.disj m i x hm with h0 | h0
        · exact .inl h0
        · rw [h0] at hb; cases hb
      · exact hE.disj m i x hm
    by_cases e1 : j = i
    · by_cases e2 : k = i
      · omega
      · rw [if_pos e1, if_neg e2]; exact (key k e2).symm
    · by_cases e2 : k = i
      · rw [if_neg e1, if_pos e2]; exact key j e1
      · rw [if_neg e1, if_neg e2]; exact hE.disj j k x hjk
  · intro j hj; exact hE.dom j (by simpa using hj)
  · intro j vb hj
    by_cases e : j = i
    · subst e
      rw [List.getElem?_set_self hi] at hj; cases hj
      simpa [hset] using hok
    · rw [List.getElem?_set_ne (Ne.symm e)] at hj
      simp only [hset, if_neg e]
      exact hE.sat j vb hj
  · rw [setRow_size]; exact Nat.le_refl _
  · intro x hx hn
    have : x ≠ b := by rintro rfl; rw [hn i] at hb; cases hb
    exact hoth x this
  · intro j x o' hx
    left
    unfold hset at hx
    split at hx
    · dsimp only at hx
      split at hx
      · rename_i e; subst e; exact ⟨i, _, hb⟩
      · exact ⟨i, o', hx⟩
    · exact ⟨j, o', hx⟩

theorem Emb.forget {i : Nat} (hE : Emb W0 φ V h w) : Emb W0 φ (V.set i .emp) h w :=
  ⟨hE.size, hE.old, hE.sub, hE.disj, fun j hj => hE.dom j (by simpa using hj), fun j vb hj => by
    by_cases e : i = j
    · subst e
      by_cases hlt : i < V.length
      · rw [List.getElem?_set_self hlt] at hj; cases hj; trivial
      · rw [List.getElem?_eq_none (by simp; omega)] at hj; cases hj
    · rw [List.getElem?_set_ne e] at hj; exact hE.sat j vb hj⟩

/-- A number more. -/
theorem Emb.num (C : Nat) (hE : Emb W0 φ V h w) : Emb W0 (φ.set V.length (C, 0)) (V ++ [.num]) h w := by
  have hnone : φ V.length = none := hE.dom _ (Nat.le_refl _)
  have hle := Phi.le_set (p := (C, 0)) hnone
  obtain ⟨hl1, hl2⟩ := born_last (V := V) (vb := .num) V.length rfl
  refine ⟨hE.size, hE.old, hE.sub, hE.disj, fun j hj => ?_, fun j vb hj => ?_⟩
  · have : j ≠ V.length := by rintro rfl; simp at hj; omega
    simp only [Phi.set, if_neg this]
    exact hE.dom j (by simp at hj; omega)
  · by_cases e : j = V.length
    · subst e
      rw [hl1] at hj; cases hj
      exact ⟨C, Phi.set_self ..⟩
    · rw [hl2 j e] at hj
      refine VB.ok_mono hle (hE.sat j vb hj) fun hn => ?_
      simp only [Phi.set, if_neg e]
      exact hn

/-- A row takes another number. -/
theorem Emb.shift {i n : Nat} {e : Nat} {tot : Cap} {xs : List (List VV)} {p : Nat × Nat} (hE : Emb W0 φ V h w) (hi : V[i]? = some (.arr e xs tot)) (hp : φ i = some p) (hn : n = V.length) :
    Emb W0 (φ.set n p) (V.set i .emp ++ [.arr e xs tot]) (hset (hset h i (fun _ => none)) n (h i)) w ∧ Fr h (hset (hset h i (fun _ => none)) n (h i)) w w := by
  have hnone : φ n = none := hE.dom n (by omega)
  have hlt : i < V.length := (List.getElem?_eq_some_iff.1 hi).1
  have hle := Phi.le_set (p := p) hnone
  obtain ⟨hl1, hl2⟩ := born_last (V := V.set i .emp) (vb := .arr e xs tot) n (by simpa using hn)
  have own : ∀ j b o', hset (hset h i (fun _ => none)) n (h i) j b = some o' → ∃ k, h k b = some o' ∧ (j = n → k = i) ∧ (j ≠ n → k = j ∧ j ≠ i) := by
    intro j b o' hb
    unfold hset at hb
    split at hb
    · rename_i ej; exact ⟨i, hb, fun _ => rfl, fun h => absurd ej h⟩
    · split at hb
      · cases hb
      · rename_i h1 h2; exact ⟨j, hb, fun h => absurd h h1, fun _ => ⟨rfl, h2⟩⟩
  refine ⟨⟨hE.size, hE.old, ?_, ?_, ?_, ?_⟩, ⟨Nat.le_refl _, fun _ _ _ => rfl, ?_, Sm.refl w⟩⟩
  · intro j b o' hb
    obtain ⟨k, hk, _⟩ := own j b o' hb
    exact hE.sub k b o' hk
  · intro j k b hjk
    cases hb : hset (hset h i (fun _ => none)) n (h i) j b with
    | none => exact .inl rfl
    | some o1 =>
      right
      cases hc : hset (hset h i (fun _ => none)) n (h i) k b with
      | none => rfl
      | some o2 =>
        obtain ⟨j', hj1, hj2, hj3⟩ := own j b o1 hb
        obtain ⟨k', hk1, hk2, hk3⟩ := own k b o2 hc
        have hne : j' ≠ k' := by
          by_cases e1 : j = n
          · have e2 : k ≠ n := by omega
            rw [hj2 e1, (hk3 e2).1]; exact Ne.symm (hk3 e2).2
          · by_cases e2 : k = n
            · rw [hk2 e2, (hj3 e1).1]; exact (hj3 e1).2
            · rw [(hj3 e1).1, (hk3 e2).1]; exact hjk
        rcases hE.disj j' k' b hne with h0 | h0
        · rw [h0] at hj1; cases hj1
        · rw [h0] at hk1; cases hk1
  · intro j hj
    have : j ≠ n := by simp at hj; omega
    simp only [Phi.set, if_neg this]
    exact hE.dom j (by simp at hj; omega)
  · intro j vb hj
    by_cases e1 : j = n
    · subst e1
      rw [hl1] at hj; cases hj
      obtain ⟨b, l, rest, T, g1, g2, g3, g4, g5⟩ := hE.sat i _ hi
      rw [hp] at g1; cases g1
      exact ⟨b, l, rest, T, Phi.set_self .., denL_mono hle _ _ g2, by simpa [hset] using g3, Cap.tot_mono hle g4, g5⟩
    · rw [hl2 j e1] at hj
      by_cases e2 : i = j
      · subst e2
        rw [List.getElem?_set_self hlt] at hj; cases hj; trivial
      · rw [List.getElem?_set_ne e2] at hj
        have := hE.sat j vb hj
        have e3 : ¬ j = i := fun h => e2 h.symm
        simp only [hset, if_neg e1, if_neg e3]
        exact VB.ok_mono hle this (by intro h0; simp [Phi.set, e1, h0])
  · intro j b o' hb
    obtain ⟨k, hk, _⟩ := own j b o' hb
    exact .inl ⟨k, o', hk⟩

theorem Emb.heap {w' : World} (hE : Emb W0 φ V h w) (hw : w'.heap = w.heap) : Emb W0 φ V h w' :=
  ⟨by rw [hw]; exact hE.size, by rw [hw]; exact hE.old, by rw [hw]; exact hE.sub, hE.disj, hE.dom, hE.sat⟩
theorem Fr.heap {h' : Nat → Frag} {w1 w2 w2' : World} (hF : Fr h h' w1 w2) (hw : w2'.heap = w2.heap) (hs : Sm w2 w2') : Fr h h' w1 w2' :=
  ⟨by rw [hw]; exact hF.size, by rw [hw]; exact hF.keep, hF.own, hF.sm.trans hs⟩
theorem Fr.heapl {h' : Nat → Frag} {w1 w1' w2 : World} (hF : Fr h h' w1 w2) (hw : w1'.heap = w1.heap) (hs : Sm w1' w1) : Fr h h' w1' w2 :=
  ⟨by rw [hw]; exact hF.size, by rw [hw]; exact hF.keep, by rw [hw]; exact hF.own, hs.trans hF.sm⟩
end

section
variable {P : Program} {W0 : World} {RE : (Env → List VB → Prop) → Env → List VB → Prop} {o : Ops (Ev P W0) RE} {cand : List TypeId} {N : Nat} {φ : Phi} {env : Env} {a : Act} {V : List VB} {h : Nat → Frag} {w : World}

theorem flatten_set {xs : List (List VV)} {e : Nat} : ∀ {j : Nat} {cs cs' : List VV}, (∀ x ∈ xs, x.length = e) → xs[j]? = some cs → cs'.length = e →
    (xs.set j cs').flatten = xs.flatten.take (j * e) ++ cs' ++ xs.flatten.drop (j * e + e) := by
  induction xs with
  | nil => intro j cs cs' _ h; simp at h
  | cons x xs ih =>
    intro j cs cs' hl hj hc
    have hx := hl x (by simp)
    cases j with
    | zero => simp [← hx]
    | succ j =>
      have := ih (fun y hy => hl y (by simp [hy])) (by simpa using hj) hc
      rw [List.set_cons_succ, List.flatten_cons, this, List.flatten_cons]
      have e1 : (j + 1) * e = x.length + j * e := by rw [Nat.succ_mul, hx]; omega
      rw [e1, Nat.add_assoc, List.take_length_add_append, List.drop_length_add_append]
      simp [List.append_assoc]

/-- A store, carried out. -/
theorem store_run {t : TypeId} {n b off : Nat} (hn : sizeB P t = some n) {x : Value} {v : VV} (hx : den φ v = some x) (hlen : v.cells.length = n) (h1 : allOne v.cells = true)
    {cur : Array Value} {T : TypeId} (hb : w.heap[b]? = some (.cells cur T (0, 0))) (hfit : off + n ≤ cur.size) :
    (Instr.storeAt t (.pointer (some ⟨b, off, none⟩)) x).run P w = .ok () (w.setRow b (cur.toList.take off ++ x.cells.toList ++ cur.toList.drop (off + n)).toArray) := by
  have hc := cells_den hx
  have hl := denL_length hc
  have hs : x.cells.size = n := by rw [← hlen, ← hl]; simp
  have hone := allOne_den hc h1
  have := run_storeCells_at (P := P) b off T x.cells.toList 0 cur w hb (by simp [hs]; exact hfit) hone
  simp only [Instr.storeAt, Instr.sureAddr, storeVar, Sem.run_bind, Sem.run_pure, Result.andThen_ok, run_sizeOf' hn, Sem.run_ite, if_neg (show ¬ x.cells.size ≠ n by simp [hs])]
  rw [this]
  simp [hs]

theorem st_ok {ty : TypeId} {dst : Option Tmp} {pos : String} {after : Array Edge} {gd : Option (Nat × Bool)} {t : TypeId} {x y : Operand} {n : Nat} {rx ry : Rd}
    (hn : sizeB P t = some n) (hx : den φ (rx.ev env) = some (a.eval x)) (hy : den φ (ry.ev env) = some (a.eval y)) (hE : Emb W0 φ V h w) {K : VV → List VB → Prop}
    (hk : weff o (.st n rx ry) env V K) :
    ∃ V' h' w', K vundef V' ∧ Emb W0 φ V' h' w' ∧ Fr h h' w w' ∧ (execOp a.eval ⟨dst, .store t x y, ty, pos, after, gd⟩).run P w = .ok .skip w' := by
  simp only [weff] at hk
  split at hk
  · rename_i hlen
    have hlen' : (ry.ev env).cells.length = n := by rw [llen_eq] at hlen; exact Nat.eq_of_beq_eq_true hlen
    split at hk
    · rename_i hone
      have hyc := cells_den hy
      have hyl := denL_length hyc
      have hys : (a.eval y).cells.size = n := by rw [← hlen', ← hyl]; simp
      split at hk
      · rename_i i off hev
        rw [hev] at hx
        obtain ⟨b', s, hφ, hex⟩ := den_ptr.1 hx
        split at hk
        · rename_i cs hV
          split at hk
          · rename_i cs' hw
            rw [lget_eq] at hV
            rw [lset_eq] at hk
            obtain ⟨b, l, T, hφ', hl, hf⟩ := hE.sat i _ hV
            rw [hφ'] at hφ; injection hφ with hφ; injection hφ with hbb hss; subst hbb; subst hss
            obtain ⟨hle, rfl⟩ := wrn_spec hw
            have hcl := denL_length hl
            rw [hlen'] at hle
            have hrun := store_run (P := P) (w := w) (off := 0 + off) hn hy hlen' hone (hE.sub i b _ hf).2 (by simp; omega)
            have hlt : i < V.length := (List.getElem?_eq_some_iff.1 hV).1
            have hu := hE.upd (new := (l.take (0 + off) ++ (a.eval y).cells.toList ++ l.drop (0 + off + n)).toArray) (vb' := .cells (cs.take off ++ (ry.ev env).cells ++ cs.drop (off + (ry.ev env).cells.length))) hlt hf
              ⟨b, _, T, hφ', denL_append.2 ⟨_, _, denL_append.2 ⟨_, _, denL_take off hl, hyc, rfl⟩, denL_drop _ hl, rfl⟩, by simp [hlen']⟩
            refine ⟨_, _, _, hk, hu.1, hu.2, ?_⟩
            simp only [execOp, hex, Sem.run_bind]
            rw [hrun]
            simp
          · exact hk.elim
        · exact hk.elim
      · rename_i i e j off hev
        rw [hev] at hx
        obtain ⟨b', s, hφ, hex⟩ := den_elt.1 hx
        split at hk
        · rename_i e' xs tot hV
          split at hk
          · rename_i hbe
            have hee : e = e' := Nat.eq_of_beq_eq_true hbe
            subst hee
            split at hk
            · rename_i cs hget
              split at hk
              · rename_i cs' hw
                rw [lget_eq] at hV
                rw [lset_eq, o.set_eq] at hk
                rw [o.get_eq] at hget
                obtain ⟨b, l, rest, T, hφ', hl, hf, htot, hall⟩ := hE.sat i _ hV
                rw [hφ'] at hφ; injection hφ with hφ; injection hφ with hbb hss; subst hbb; subst hss
                obtain ⟨hle, rfl⟩ := wrn_spec hw
                have hcl := denL_length hl
                have hce : cs.length = e := hall cs (List.mem_of_getElem? hget)
                rw [hlen'] at hle
                have hje : j * e + e ≤ xs.flatten.length := by
                  have hj : j < xs.length := (List.getElem?_eq_some_iff.1 hget).1
                  have hfl : xs.flatten.length = xs.length * e := by
                    clear hget hV hl hcl hf htot hj hk
                    induction xs with
                    | nil => simp
                    | cons x xs ih => rw [List.flatten_cons, List.length_append, ih (fun y hy => hall y (by simp [hy])), hall x (by simp), List.length_cons, Nat.succ_mul]; omega
                  rw [hfl]
                  calc j * e + e = (j + 1) * e := by rw [Nat.succ_mul]
                    _ ≤ xs.length * e := Nat.mul_le_mul_right e hj
                have hcs : cs = (xs.flatten.drop (j * e)).take e := by
                  apply List.ext_getElem?
                  intro k
                  rw [List.getElem?_take, List.getElem?_drop]
                  by_cases hk : k < e
                  · rw [if_pos hk]
                    obtain ⟨u, hu⟩ : ∃ u, cs[k]? = some u := ⟨cs[k]'(by omega), by simp [hce, hk]⟩
                    rw [hu, flatten_get hall hget k u hu]
                  · rw [if_neg hk]; exact List.getElem?_eq_none (by omega)
                have hcsd : denL φ cs = some ((l.drop (j * e)).take e) := by rw [hcs]; exact denL_take e (denL_drop _ hl)
                have hrun := store_run (P := P) (w := w) (off := 0 + (j * e + off)) hn hy hlen' hone (hE.sub i b _ hf).2 (by simp; omega)
                have hlt : i < V.length := (List.getElem?_eq_some_iff.1 hV).1
                -- the new row
                have hnew : cs.take off ++ (ry.ev env).cells ++ cs.drop (off + (ry.ev env).cells.length) = cs.take off ++ (ry.ev env).cells ++ cs.drop (off + n) := by rw [hlen']
                have hnl : (cs.take off ++ (ry.ev env).cells ++ cs.drop (off + n)).length = e := by simp [hlen', hce]; omega
                have hfs := flatten_set (cs' := cs.take off ++ (ry.ev env).cells ++ cs.drop (off + n)) hall hget hnl
                have hden : denL φ (xs.set j (cs.take off ++ (ry.ev env).cells ++ cs.drop (off + n))).flatten = some (l.take (j * e) ++ (((l.drop (j * e)).take e).take off ++ (a.eval y).cells.toList ++ ((l.drop (j * e)).take e).drop (off + n)) ++ l.drop (j * e + e)) := by
                  rw [hfs]
                  exact denL_append.2 ⟨_, _, denL_append.2 ⟨_, _, denL_take _ hl, denL_append.2 ⟨_, _, denL_append.2 ⟨_, _, denL_take off hcsd, hyc, rfl⟩, denL_drop _ hcsd, rfl⟩, rfl⟩, denL_drop _ hl, rfl⟩
                have hsame : l.take (j * e) ++ (((l.drop (j * e)).take e).take off ++ (a.eval y).cells.toList ++ ((l.drop (j * e)).take e).drop (off + n)) ++ l.drop (j * e + e) ++ rest =
                    (l ++ rest).take (0 + (j * e + off)) ++ (a.eval y).cells.toList ++ (l ++ rest).drop (0 + (j * e + off) + n) := by
                  have t1 : (l ++ rest).take (0 + (j * e + off)) = l.take (j * e) ++ ((l.drop (j * e)).take e).take off := by
                    rw [List.take_append_of_le_length (by omega), Nat.zero_add, List.take_take, Nat.min_eq_left (by omega), List.take_add]
                  have t2 : (l ++ rest).drop (0 + (j * e + off) + n) = ((l.drop (j * e)).take e).drop (off + n) ++ l.drop (j * e + e) ++ rest := by
                    rw [List.drop_append_of_le_length (by omega), Nat.zero_add]
                    congr 1
                    rw [List.drop_take, List.drop_drop, Nat.add_assoc]
                    have : l.drop (j * e + e) = (l.drop (j * e + (off + n))).drop (e - (off + n)) := by rw [List.drop_drop]; congr 1; omega
                    rw [this, List.take_append_drop]
                  rw [t1, t2]; simp [List.append_assoc]
                have hu := hE.upd (new := ((l ++ rest).take (0 + (j * e + off)) ++ (a.eval y).cells.toList ++ (l ++ rest).drop (0 + (j * e + off) + n)).toArray) (vb' := .arr e (xs.set j (cs.take off ++ (ry.ev env).cells ++ cs.drop (off + n))) tot) hlt hf
                  ⟨b, _, rest, T, hφ', hden, by rw [hsame]; exact if_pos rfl, by rw [hsame, htot]; congr 1; simp [hys]; omega, by
                    intro x hx
                    rcases List.mem_or_eq_of_mem_set hx with hx | hx
                    · exact hall x hx
                    · rw [hx]; exact hnl⟩
                refine ⟨_, _, _, by rw [hnew] at hk; exact hk, hu.1, hu.2, ?_⟩
                simp only [execOp, hex, Sem.run_bind]
                rw [hrun]
                simp
              · exact hk.elim
            · exact hk.elim
          · exact hk.elim
        · exact hk.elim
      · exact hk.elim
    · exact hk.elim
  · exact hk.elim
end
end Go.SL

