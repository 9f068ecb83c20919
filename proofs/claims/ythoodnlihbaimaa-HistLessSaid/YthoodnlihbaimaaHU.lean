/- hist: the plain store as the program has it: its maps, as lists. -/
import Derived.Test.YthoodnlihbaimaaHS
import Derived.Test.YthoodnlihbaimaaIRn
import Derived.Test.YthoodnlihbaimaaSN
import Derived.Test.YthoodnlihbaimaaSLy
namespace Go.Proofs.Ythoodnlihbaimaa
set_option linter.unusedVariables false
set_option linter.unusedSimpArgs false
open Go Go.SL Go.FL
set_option maxRecDepth 100000
/-- An object: its handle, its words; `x`: what its slice is in the world. -/
structure ObjX where
  h : Nat
  ws : List Int
  x : Value
abbrev ObjP := Nat × List Int
def ObjX.p (o : ObjX) : ObjP := (o.h, o.ws)
def wcs (ws : List Int) : List (List VV) := ws.map fun w => [.int .i64 w]
def objItem (o : ObjX) : SL.Item := ⟨[o.x], [.sl 0 1 0 o.ws.length (.n o.ws.length)], [.arr 1 (wcs o.ws) (.n o.ws.length)]⟩
/-- Where a handle's object stands. -/
def hpos {α : Type} (k : α → Nat) : List α → Nat → Option Nat
  | [], _ => none
  | a :: l, h => if k a = h then some 0 else (hpos k l h).map (· + 1)
theorem hpos_lt {α : Type} {k : α → Nat} : ∀ {l : List α} {h j : Nat}, hpos k l h = some j → ∃ a, l[j]? = some a ∧ k a = h
  | [], h, j, e => by simp [hpos] at e
  | a :: l, h, j, e => by
    simp only [hpos] at e
    split at e
    · rename_i hk; cases e; exact ⟨a, rfl, hk⟩
    · simp only [Option.map_eq_some_iff] at e
      obtain ⟨i, hi, rfl⟩ := e
      obtain ⟨b, h1, h2⟩ := hpos_lt hi
      exact ⟨b, by simpa using h1, h2⟩
theorem hpos_none {α : Type} {k : α → Nat} : ∀ {l : List α} {h : Nat}, hpos k l h = none → ∀ a ∈ l, k a ≠ h
  | [], h, e, a, ha => by cases ha
  | b :: l, h, e, a, ha => by
    simp only [hpos] at e
    split at e
    · cases e
    · rename_i hk
      simp only [Option.map_eq_none_iff] at e
      rcases List.mem_cons.1 ha with rfl | ha
      · exact hk
      · exact hpos_none e a ha
theorem hpos_map {α β : Type} {k : β → Nat} {f : α → β} : ∀ (l : List α) (h : Nat), hpos k (l.map f) h = hpos (fun a => k (f a)) l h
  | [], h => rfl
  | a :: l, h => by simp only [List.map_cons, hpos, hpos_map l h]
def hks (l : List ObjX) : List VV := l.map fun o => .int .u64 o.h
def hvs (l : List ObjX) : List VV := l.map fun o => .raw o.x
theorem kfind_hks : ∀ (l : List ObjX) (h : Nat), kfind (hks l) (.int .u64 h) = hpos ObjX.h l h
  | [], h => rfl
  | a :: l, h => by
    have ih := kfind_hks l h
    unfold hks at ih ⊢
    simp only [List.map_cons, kfind, hpos, eqV, ih]
    by_cases e : a.h = h
    · simp [e]
    · rw [if_neg e, if_neg (by simp; omega)]
theorem kall_hks (l : List ObjX) : kallF (.i .u64) (hks l) = true := by
  unfold kallF hks
  rw [List.all_map]
  exact List.all_eq_true.2 fun _ _ => rfl
theorem mks_hks {l : List ObjX} {h : Nat} : mksF (hks l) (.int .u64 h) = match hpos ObjX.h l h with | some _ => hks l | none => hks l ++ [.int .u64 h] := by
  unfold mksF; rw [kfind_hks]; cases hpos ObjX.h l h <;> rfl
/-- What the rest has, by handles. -/
def objsI (l : List ObjX) (h : Nat) : Option SL.Item := (hpos ObjX.h l h).bind fun j => (l[j]?).map objItem
def ndupH : List ObjX → Prop
  | [] => True
  | a :: l => (∀ b ∈ l, b.h ≠ a.h) ∧ ndupH l
def kks (l : List Int) : List VV := l.map fun k => .int .i64 k
def kvs (l : List Int) : List VV := l.map fun _ => .bool true
def kpos : List Int → Int → Option Nat
  | [], _ => none
  | a :: l, h => if a = h then some 0 else (kpos l h).map (· + 1)
theorem kfind_kks : ∀ (l : List Int) (h : Int), kfind (kks l) (.int .i64 h) = kpos l h
  | [], h => rfl
  | a :: l, h => by
    have ih := kfind_kks l h
    unfold kks at ih ⊢
    simp only [List.map_cons, kfind, kpos, eqV, ih]
    by_cases e : a = h
    · simp [e]
    · rw [if_neg e, if_neg (by simp; omega)]
theorem kall_kks (l : List Int) : kallF (.i .i64) (kks l) = true := by
  unfold kallF kks
  rw [List.all_map]
  exact List.all_eq_true.2 fun _ _ => rfl
theorem kpos_lt : ∀ {l : List Int} {h : Int} {j : Nat}, kpos l h = some j → l[j]? = some h
  | [], h, j, e => by simp [kpos] at e
  | a :: l, h, j, e => by
    simp only [kpos] at e
    split at e
    · rename_i hk; cases e; simp [hk]
    · simp only [Option.map_eq_some_iff] at e
      obtain ⟨i, hi, rfl⟩ := e
      simpa using kpos_lt hi
def modelU (W0 : World) (l : List ObjX) (ks : List Int) : List VB := [.cells [.map 1, .map 2], .map (hks l) (hvs l), .map (kks ks) (kvs ks), rest W0 (objsI l)]
/-- The plain store: objects, keys. -/
structure StoreP where
  objs : List ObjP
  keys : List Int
def modelS (W0 : World) (s : StoreP) (U : List VB) : Prop := ∃ l : List ObjX, l.map ObjX.p = s.objs ∧ ndupH l ∧ U = modelU W0 l s.keys
def modelB (W0 : World) (s : StoreP) : VB := bxE W0 (modelS W0 s)
/-! What a call does. -/
def opos (s : StoreP) (h : Nat) : Option Nat := hpos Prod.fst s.objs h
def setP (l : List ObjP) (h : Nat) (ws : List Int) : List ObjP := match hpos Prod.fst l h with | some j => l.set j (h, ws) | none => l ++ [(h, ws)]
def delP (l : List ObjP) (h : Nat) : List ObjP := match hpos Prod.fst l h with | some j => l.eraseIdx j | none => l
def roomE (e : Int) : Bool := e == 6 || e == 7
def allocP (s : StoreP) (t : Told) (dh : Nat) : StoreP × Bool :=
  if t.e ≠ 0 then (s, roomE t.e) else (⟨setP s.objs dh (List.replicate t.size.toNat 0), s.keys⟩, (opos s dh).isNone && dh != 0)
def freeP (s : StoreP) (t : Told) (h : Nat) : StoreP × Bool := (⟨delP s.objs h, s.keys⟩, t.e == if (opos s h).isSome then 0 else 3)
def wordP (s : StoreP) (t : Told) (h : Nat) : StoreP × Bool :=
  match opos s h with
  | none => (s, t.e == 3)
  | some j => match s.objs[j]? with
    | none => (s, false)
    | some (_, ws) =>
      if t.index < 0 ∨ (ws.length : Int) ≤ t.index then (s, t.e == 4) else
      let was := ws.getD t.index.toNat 0
      if t.kind = 5 ∧ was ≠ t.old then (s, t.e == 8 && t.dvalue == was)
      else if t.kind ≠ 3 then (⟨s.objs.set j (h, ws.set t.index.toNat t.value), s.keys⟩, t.e == 0 && t.dvalue == was)
      else (s, t.e == 0 && t.dvalue == was)
def addK (ks : List Int) (k : Int) : List Int := match kpos ks k with | some _ => ks | none => ks ++ [k]
def delK (ks : List Int) (k : Int) : List Int := match kpos ks k with | some j => ks.eraseIdx j | none => ks
def keyP (s : StoreP) (t : Told) : StoreP × Bool :=
  let was := (kpos s.keys t.key).isSome
  if t.kind = 6 then (s, t.e == 0 && t.dvalue == if was then 1 else 0)
  else if t.kind = 8 then (⟨s.objs, delK s.keys t.key⟩, t.e == 0 && t.dvalue == if was then 1 else 0)
  else if t.e ≠ 0 then (s, roomE t.e)
  else (⟨s.objs, addK s.keys t.key⟩, t.dvalue == if was then 0 else 1)
end Go.Proofs.Ythoodnlihbaimaa
