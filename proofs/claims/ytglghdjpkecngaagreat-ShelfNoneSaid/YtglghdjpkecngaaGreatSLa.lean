/- A symbolic executor over the model: values and blocks with virtual numbers, and what they stand for in a world. Plain definitions and lemmas; no program in sight. -/
import Derived.Orders
import Derived.Laws.Sem
import Derived.KernelRfl
namespace Go.SL

abbrev Frag := Nat → Option Obj
abbrev Phi := Nat → Option (Nat × Nat)

/-- A capacity, or how many cells a row has: a number, or what an entry of the virtual heap stands for. -/
inductive Cap where
  | n (k : Nat)
  | v (cid : Nat)
instance : Coe Nat Cap := ⟨Cap.n⟩
instance {k : Nat} : OfNat Cap k := ⟨Cap.n k⟩
def Cap.cap (φ : Phi) (s n : Nat) : Cap → Option Nat
  | .n c => some c
  | .v i => match φ i with
    | some p => if s + n ≤ p.1 then some (p.1 - s) else none
    | none => none
def Cap.tot (φ : Phi) (esz : Nat) : Cap → Option Nat
  | .n k => some k
  | .v i => (φ i).map fun p => p.1 * esz

/-- Values whose pointers name entries of a virtual heap. -/
inductive VV where
  | int (k : IntKind) (n : Int)
  | bool (b : Bool)
  | str (s : ByteArray)
  | nilPtr
  | ptr (id off : Nat)
  | elt (id esz i off : Nat)
  | nilSl
  | sl (id esz start len : Nat) (cap : Cap)
  | nilMap
  | map (id : Nat)
  | nilChan
  | chan (id : Nat)
  | fn (f : FuncId) (first cap : List VV)
  | nilFn
  | iface (t : TypeId) (v : VV)
  | nilIface
  | agg (cs : List VV)
  | tup (vs : List VV)
  | raw (x : Value)
  | osl (oid : Option Nat) (esz start len cap : Nat)

/-- Entries of a virtual heap. -/
inductive VB where
  | hole
  | emp
  | cells (cs : List VV)
  | arr (esz : Nat) (xs : List (List VV)) (tot : Cap)
  | ro (esz : Nat) (xs : List (List VV))
  | abs (R : Frag → Nat → Prop)
  | chan (cap : Nat) (xs : List VV)
  | map (ks vs : List VV)
  | num

mutual
def den (φ : Phi) : VV → Option Value
  | .int k n => some (.int k n)
  | .bool b => some (.bool b)
  | .str s => some (.string s)
  | .nilPtr => some (.pointer none)
  | .ptr id off => (φ id).map fun p => .pointer (some ⟨p.1, p.2 + off, none⟩)
  | .elt id esz i off => (φ id).map fun p => .pointer (some ⟨p.1, p.2 + (i * esz + off), none⟩)
  | .nilSl => some (.slice none 0 0)
  | .sl id esz start len cap => match φ id, cap.cap φ start len with
    | some p, some c => some (.slice (some ⟨p.1, p.2 + start * esz, none⟩) len c)
    | _, _ => none
  | .nilMap => some (.map none)
  | .map id => (φ id).map fun p => .map (some p.1)
  | .nilChan => some (.chan none)
  | .chan id => (φ id).map fun p => .chan (some p.1)
  | .fn f first cap => match denL φ first, denL φ cap with
    | some a, some b => some (.func (.func f) a.toArray b.toArray)
    | _, _ => none
  | .nilFn => some .nilFunc
  | .iface t v => match den φ v with
    | some x => some (.iface t x)
    | none => none
  | .nilIface => some .nilIface
  | .agg cs => match denL φ cs with
    | some l => some (.agg l.toArray)
    | none => none
  | .tup vs => match denL φ vs with
    | some l => some (.tuple l.toArray)
    | none => none
  | .raw x => some x
  | .osl oid esz start len cap => match oid with
    | some id => (φ id).map fun p => .slice (some ⟨p.1, p.2 + start * esz, none⟩) len cap
    | none => if len = 0 ∧ cap = 0 then some (.slice none 0 0) else none
def denL (φ : Phi) : List VV → Option (List Value)
  | [] => some []
  | v :: l => match den φ v, denL φ l with
    | some x, some r => some (x :: r)
    | _, _ => none
end

/-- It lies in one cell. -/
def VV.one : VV → Bool
  | .agg _ => false
  | .tup _ => false
  | .raw _ => false
  | _ => true
def allOne : List VV → Bool
  | [] => true
  | v :: l => match VV.one v with
    | true => allOne l
    | false => false
def VV.cells : VV → List VV
  | .agg cs => cs
  | .raw x => x.cells.toList.map .raw
  | v => [v]
abbrev vundef : VV := .tup []

def Phi.le (φ φ' : Phi) : Prop := ∀ i x, φ i = some x → φ' i = some x
theorem Phi.le_refl (φ : Phi) : φ.le φ := fun _ _ h => h
theorem Phi.le_trans {φ φ' φ'' : Phi} (h : φ.le φ') (h' : φ'.le φ'') : φ.le φ'' := fun i x e => h' i x (h i x e)

theorem denL_nil (φ : Phi) : denL φ [] = some [] := by simp [denL]
theorem denL_cons {φ : Phi} {v : VV} {l : List VV} {r : List Value} : denL φ (v :: l) = some r ↔ ∃ x s, den φ v = some x ∧ denL φ l = some s ∧ r = x :: s := by
  simp only [denL]
  cases den φ v <;> cases denL φ l <;> simp [eq_comm]

theorem Cap.cap_mono {φ φ' : Phi} (h : φ.le φ') {s n c : Nat} : ∀ {x : Cap}, x.cap φ s n = some c → x.cap φ' s n = some c
  | .n _, e => e
  | .v i, e => by
    simp only [Cap.cap] at e ⊢
    cases hp : φ i with
    | none => simp [hp] at e
    | some p => rw [h i p hp]; simpa [hp] using e
theorem Cap.tot_mono {φ φ' : Phi} (h : φ.le φ') {k c : Nat} : ∀ {x : Cap}, x.tot φ k = some c → x.tot φ' k = some c
  | .n _, e => e
  | .v i, e => by
    simp only [Cap.tot, Option.map_eq_some_iff] at e ⊢
    obtain ⟨p, hp, e⟩ := e
    exact ⟨p, h i p hp, e⟩
mutual
theorem den_mono {φ φ' : Phi} (h : φ.le φ') : ∀ (v : VV) (x : Value), den φ v = some x → den φ' v = some x
  | .int _ _, _ | .bool _, _ | .str _, _ | .nilPtr, _ | .nilSl, _ | .nilMap, _ | .nilChan, _ | .nilFn, _ | .nilIface, _ | .raw _, _ => by simp [den]
  | .sl id _ s n cap, x => by
    simp only [den]
    intro e
    cases hp : φ id with
    | none => simp [hp] at e
    | some p =>
      cases hc : cap.cap φ s n with
      | none => simp [hp, hc] at e
      | some c => rw [h id p hp, Cap.cap_mono h hc]; simpa [hp, hc] using e
  | .ptr id _, x | .elt id _ _ _, x | .map id, x | .chan id, x => by
    simp only [den, Option.map_eq_some_iff]
    rintro ⟨p, hp, e⟩
    exact ⟨p, h _ _ hp, e⟩
  | .osl oid _ _ _ _, x => by
    cases oid with
    | none => exact id
    | some id =>
      simp only [den, Option.map_eq_some_iff]
      rintro ⟨p, hp, e⟩
      exact ⟨p, h _ _ hp, e⟩
  | .fn f a b, x => by
    simp only [den]
    intro e
    cases ha : denL φ a with
    | none => simp [ha] at e
    | some ra =>
      cases hb : denL φ b with
      | none => simp [ha, hb] at e
      | some rb =>
        rw [denL_mono h a ra ha, denL_mono h b rb hb]
        simpa [ha, hb] using e
  | .iface t v, x => by
    simp only [den]
    intro e
    cases hv : den φ v with
    | none => simp [hv] at e
    | some y => rw [den_mono h v y hv]; simpa [hv] using e
  | .agg cs, x => by
    simp only [den]
    intro e
    cases hv : denL φ cs with
    | none => simp [hv] at e
    | some y => rw [denL_mono h cs y hv]; simpa [hv] using e
  | .tup cs, x => by
    simp only [den]
    intro e
    cases hv : denL φ cs with
    | none => simp [hv] at e
    | some y => rw [denL_mono h cs y hv]; simpa [hv] using e
theorem denL_mono {φ φ' : Phi} (h : φ.le φ') : ∀ (l : List VV) (r : List Value), denL φ l = some r → denL φ' l = some r
  | [], r => by simp [denL]
  | v :: l, r => by
    rw [denL_cons, denL_cons]
    rintro ⟨x, s, h1, h2, rfl⟩
    exact ⟨x, s, den_mono h v x h1, denL_mono h l s h2, rfl⟩
end

theorem denL_length {φ : Phi} : ∀ {l : List VV} {r : List Value}, denL φ l = some r → r.length = l.length
  | [], r, h => by simp [denL] at h; subst h; rfl
  | v :: l, r, h => by
    obtain ⟨x, s, _, h2, rfl⟩ := denL_cons.1 h
    simp [denL_length h2]

theorem denL_get {φ : Phi} : ∀ {l : List VV} {r : List Value} {i : Nat} {v : VV}, denL φ l = some r → l[i]? = some v → ∃ x, den φ v = some x ∧ r[i]? = some x
  | [], _, i, _, _, h => by simp at h
  | a :: l, r, i, v, h, hi => by
    obtain ⟨x, s, h1, h2, rfl⟩ := denL_cons.1 h
    cases i with
    | zero => simp at hi; subst hi; exact ⟨x, h1, rfl⟩
    | succ i => simpa using denL_get h2 (by simpa using hi)

theorem denL_append {φ : Phi} : ∀ {l m : List VV} {r : List Value}, denL φ (l ++ m) = some r ↔ ∃ a b, denL φ l = some a ∧ denL φ m = some b ∧ r = a ++ b
  | [], m, r => by simp [denL_nil]
  | v :: l, m, r => by
    rw [List.cons_append, denL_cons]
    constructor
    · rintro ⟨x, s, h1, h2, rfl⟩
      obtain ⟨a, b, ha, hb, rfl⟩ := denL_append.1 h2
      exact ⟨x :: a, b, denL_cons.2 ⟨x, a, h1, ha, rfl⟩, hb, rfl⟩
    · rintro ⟨a, b, ha, hb, rfl⟩
      obtain ⟨x, s, h1, h2, rfl⟩ := denL_cons.1 ha
      exact ⟨x, s ++ b, h1, denL_append.2 ⟨s, b, h2, hb, rfl⟩, rfl⟩

theorem denL_take {φ : Phi} {l : List VV} {r : List Value} (n : Nat) (h : denL φ l = some r) : denL φ (l.take n) = some (r.take n) := by
  rw [← List.take_append_drop n l] at h
  obtain ⟨a, b, ha, hb, rfl⟩ := denL_append.1 h
  have hl := denL_length ha
  rw [ha]
  rw [List.length_take] at hl
  congr 1
  by_cases hn : n ≤ l.length
  · have : a.length = n := by omega
    rw [List.take_append_of_le_length (by omega), List.take_of_length_le (by omega)]
  · have hb0 : b = [] := by
      have := denL_length hb
      rw [List.length_drop] at this
      exact List.eq_nil_of_length_eq_zero (by omega)
    subst hb0
    rw [List.append_nil, List.take_of_length_le (by omega)]

theorem denL_drop {φ : Phi} {l : List VV} {r : List Value} (n : Nat) (h : denL φ l = some r) : denL φ (l.drop n) = some (r.drop n) := by
  have ht := denL_take n h
  have h0 := h
  rw [← List.take_append_drop n l] at h
  obtain ⟨a, b, ha, hb, rfl⟩ := denL_append.1 h
  rw [ht] at ha
  injection ha with ha
  rw [hb]
  congr 1
  have hl := denL_length h0
  have hlen : ((a ++ b).take n).length = min n (a ++ b).length := List.length_take ..
  rw [ha] at hlen
  by_cases hn : n ≤ (a ++ b).length
  · have : a.length = n := by omega
    rw [← this, List.drop_left]
  · have : b.length = 0 := by rw [List.length_append] at *; omega
    have hb0 := List.eq_nil_of_length_eq_zero this
    subst hb0
    rw [List.append_nil, List.drop_of_length_le (by rw [List.append_nil] at hn; omega)]

/-- A slice that may be nil, where it is none. -/
def unO : VV → VV
  | .osl (some id) e s n c => .sl id e s n (.n c)
  | v => v
theorem den_unO {φ : Phi} {v : VV} : den φ (unO v) = den φ v := by
  unfold unO
  split
  · rename_i id _ _ _ _
    simp only [den, Cap.cap]
    cases φ id <;> rfl
  · rfl
theorem one_den {φ : Phi} {v : VV} {x : Value} (h : den φ v = some x) (h1 : v.one = true) : x.oneCell' = true := by
  cases v
  case osl oid e s n c =>
    cases oid with
    | none => simp only [den] at h; split at h <;> cases h; rfl
    | some id => simp only [den, Option.map_eq_some_iff] at h; obtain ⟨p, _, rfl⟩ := h; rfl
  case sl id e s n c =>
    simp only [den] at h
    split at h <;> cases h
    rfl
  all_goals revert h h1
  all_goals intro h h1
  all_goals simp only [den, VV.one] at h h1
  all_goals first
    | (simp at h; subst h; rfl)
    | (simp only [Option.map_eq_some_iff] at h; obtain ⟨p, _, rfl⟩ := h; rfl)
    | (split at h <;> first | (simp at h; subst h; rfl) | (simp at h; done))
    | (cases h1; done)

theorem allOne_mem {l : List VV} (h : allOne l = true) : ∀ v ∈ l, v.one = true := by
  induction l with
  | nil => simp
  | cons a l ih =>
    simp only [allOne] at h
    split at h
    · rename_i h1; intro v hv; cases hv with
      | head => exact h1
      | tail _ hv => exact ih h v hv
    · cases h

theorem allOne_den {φ : Phi} : ∀ {l : List VV} {r : List Value}, denL φ l = some r → allOne l = true → ∀ x ∈ r, x.oneCell' = true
  | [], r, h, _ => by simp [denL] at h; subst h; simp
  | v :: l, r, h, h1 => by
    obtain ⟨x, s, hx, hs, rfl⟩ := denL_cons.1 h
    have hv : v.one = true := allOne_mem h1 v (by simp)
    have hl : allOne l = true := by simp only [allOne, hv] at h1; exact h1
    intro y hy
    cases hy with
    | head => exact one_den hx hv
    | tail _ hy => exact allOne_den hs hl y hy

/-- The cells of what a value stands for. -/
theorem cells_den {φ : Phi} {v : VV} {x : Value} (h : den φ v = some x) : denL φ v.cells = some x.cells.toList := by
  cases v with
  | agg cs =>
    simp only [den] at h
    split at h
    · rename_i l hl; simp at h; subst h; simpa [VV.cells, Value.cells] using hl
    · simp at h
  | raw y =>
    simp only [den] at h
    cases h
    have : ∀ l : List Value, denL φ (l.map .raw) = some l := by
      intro l
      induction l with
      | nil => rfl
      | cons a l ih => exact denL_cons.2 ⟨a, l, rfl, ih, rfl⟩
    exact this _
  | _ =>
    have hx : x.oneCell' = true ∨ ∃ vs, x = .tuple vs := by
      first
      | exact .inl (one_den h rfl)
      | (simp only [den] at h; split at h <;> simp at h; subst h; exact .inr ⟨_, rfl⟩)
    have hc : x.cells = #[x] := by
      rcases hx with hx | ⟨vs, rfl⟩
      · cases x <;> first | rfl | simp [Value.oneCell'] at hx
      · rfl
    rw [hc]
    exact denL_cons.2 ⟨x, [], h, denL_nil φ, rfl⟩

/-! ### What a virtual heap stands for -/

/-- What an entry stands for; 'f': the part of the heap that is its own. -/
def VB.ok (W0 : World) (φ : Phi) (f : Frag) (i : Nat) : VB → Prop
  | .hole => φ i = none
  | .emp => True
  | .cells cs => ∃ b l T, φ i = some (b, 0) ∧ denL φ cs = some l ∧ f b = some (.cells l.toArray T (0, 0))
  | .arr esz xs tot => ∃ b l rest T, φ i = some (b, 0) ∧ denL φ xs.flatten = some l ∧ f b = some (.cells (l ++ rest).toArray T (0, 0)) ∧ tot.tot φ esz = some (l ++ rest).length ∧ (∀ x ∈ xs, x.length = esz)
  | .ro esz xs => ∃ b o l, φ i = some (b, o) ∧ denL φ xs.flatten = some l ∧ (∀ x ∈ xs, x.length = esz) ∧ ∀ (j : Nat) (v : Value), l[j]? = some v → W0.cell? ⟨b, o + j, none⟩ = some v
  | .abs R => ∃ b, φ i = some (b, 0) ∧ R f b
  | .chan cap xs => ∃ b l s r, φ i = some (b, 0) ∧ denL φ xs = some l ∧ f b = some (.chan cap l.toArray false s r false)
  | .map ks vs => ∃ b l m es k, φ i = some (b, 0) ∧ denL φ ks = some l ∧ denL φ vs = some m ∧ f b = some (.map es k) ∧ es.toList.map (·.key) = l ∧ es.toList.map (·.val) = m
  | .num => ∃ c, φ i = some (c, 0)

structure Emb (W0 : World) (φ : Phi) (V : List VB) (h : Nat → Frag) (w : World) : Prop where
  size : W0.heap.size ≤ w.heap.size
  old : ∀ b, b < W0.heap.size → w.heap[b]? = W0.heap[b]?
  sub : ∀ (i b : Nat) (o : Obj), h i b = some o → W0.heap.size ≤ b ∧ w.heap[b]? = some o
  disj : ∀ (i j b : Nat), i ≠ j → h i b = none ∨ h j b = none
  dom : ∀ i, V.length ≤ i → φ i = none
  sat : ∀ (i : Nat) (vb : VB), V[i]? = some vb → vb.ok W0 φ (h i) i

/-- The world beside its heap: the tape, the system, what was written. -/
structure Sm (w w' : World) : Prop where
  os : w'.os = w.os
  tape : w'.tape = w.tape
  output : w'.output = w.output
theorem Sm.refl (w : World) : Sm w w := ⟨rfl, rfl, rfl⟩
theorem Sm.trans {a b c : World} (h : Sm a b) (k : Sm b c) : Sm a c := ⟨k.os.trans h.os, k.tape.trans h.tape, k.output.trans h.output⟩

/-- How a call, or an operation, may change the world: what is not owned stays; what is owned after was owned before, or is new. -/
structure Fr (h h' : Nat → Frag) (w w' : World) : Prop where
  size : w.heap.size ≤ w'.heap.size
  keep : ∀ (x : Nat), x < w.heap.size → (∀ i, h i x = none) → w'.heap[x]? = w.heap[x]?
  own : ∀ (i b : Nat) (o : Obj), h' i b = some o → (∃ j o', h j b = some o') ∨ w.heap.size ≤ b
  sm : Sm w w'

theorem Fr.refl (h : Nat → Frag) (w : World) : Fr h h w w := ⟨Nat.le_refl _, fun _ _ _ => rfl, fun i _ o e => .inl ⟨i, o, e⟩, Sm.refl w⟩
theorem Fr.trans {h h' h'' : Nat → Frag} {w w' w'' : World} (a : Fr h h' w w') (b : Fr h' h'' w' w'') : Fr h h'' w w'' where
  size := Nat.le_trans a.size b.size
  keep := fun x hx hn => by
    rw [b.keep x (Nat.lt_of_lt_of_le hx a.size) ?_, a.keep x hx hn]
    intro i
    cases e : h' i x with
    | none => rfl
    | some o =>
      rcases a.own i x o e with ⟨j, o', hj⟩ | hge
      · rw [hn j] at hj; cases hj
      · omega
  own := fun i x o e => by
    rcases b.own i x o e with ⟨j, o', hj⟩ | hge
    · exact a.own j x o' hj
    · exact .inr (Nat.le_trans a.size hge)
  sm := a.sm.trans b.sm

theorem VB.ok_mono {W0 : World} {φ φ' : Phi} {f : Frag} {i : Nat} {vb : VB} (h : φ.le φ') (hh : vb.ok W0 φ f i) (hn : φ i = none → φ' i = none) : vb.ok W0 φ' f i := by
  cases vb with
  | hole => exact hn hh
  | emp => trivial
  | cells cs => obtain ⟨b, l, T, h1, h2, h3⟩ := hh; exact ⟨b, l, T, h _ _ h1, denL_mono h _ _ h2, h3⟩
  | arr esz xs tot => obtain ⟨b, l, r, T, h1, h2, h3, h4, h5⟩ := hh; exact ⟨b, l, r, T, h _ _ h1, denL_mono h _ _ h2, h3, Cap.tot_mono h h4, h5⟩
  | ro esz xs => obtain ⟨b, o, l, h1, h2, h3⟩ := hh; exact ⟨b, o, l, h _ _ h1, denL_mono h _ _ h2, h3⟩
  | abs R => obtain ⟨b, h1, h2⟩ := hh; exact ⟨b, h _ _ h1, h2⟩
  | chan cap xs => obtain ⟨b, l, s, r, h1, h2, h3⟩ := hh; exact ⟨b, l, s, r, h _ _ h1, denL_mono h _ _ h2, h3⟩
  | map ks vs => obtain ⟨b, l, m, es, k, h1, h2, h3, h4⟩ := hh; exact ⟨b, l, m, es, k, h _ _ h1, denL_mono h _ _ h2, denL_mono h _ _ h3, h4⟩
  | num => obtain ⟨c, h1⟩ := hh; exact ⟨c, h _ _ h1⟩

end Go.SL
