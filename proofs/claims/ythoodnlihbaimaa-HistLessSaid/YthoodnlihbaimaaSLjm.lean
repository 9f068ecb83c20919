/- A symbolic executor over the model: maps whose keys are integers, bools or strings. -/
import Derived.Test.YthoodnlihbaimaaSLi
import Derived.MapKept
namespace Go.SL
open Go.MapKept
section
variable {P : Program} {W0 : World} {φ : Phi} {V : List VB} {h : Nat → Frag} {w : World}

def descOf : Pr → TypeDesc
  | .i k => .int k
  | .b => .bool
  | .s => .string
theorem prT_is {t : TypeId} {pr : Pr} (h : prT P t = some pr) : P.underlying t = some (descOf pr) := by
  unfold prT at h
  split at h <;> first | (cases h; assumption) | cases h
theorem isKey_of {pr : Pr} {k : VV} {x : Value} (h : keyOk pr k = true) (hd : den φ k = some x) : IsKey (descOf pr) x := by
  cases pr <;> cases k <;> simp [keyOk] at h <;> simp only [den, Option.some.injEq] at hd <;> subst hd
  · exact h.symm
  · trivial
  · trivial
theorem eqV_key {pr : Pr} {a b : VV} {x y : Value} (ha : keyOk pr a = true) (hb : keyOk pr b = true) (dx : den φ a = some x) (dy : den φ b = some y) : eqV a b = true ↔ x = y := by
  cases pr <;> cases a <;> simp [keyOk] at ha <;> cases b <;> simp [keyOk] at hb <;> simp only [den, Option.some.injEq] at dx dy <;> subst dx <;> subst dy
  · subst ha; subst hb; simp [eqV]
  · simp [eqV]
  · simp only [eqV, strEq, ← beq_toListBytes]
    rw [bytes_beq]
    constructor
    · intro h; rw [h]
    · intro h; injection h
theorem kfind_spec {pr : Pr} {k : VV} {kr : Value} (hk : keyOk pr k = true) (dk : den φ k = some kr) : ∀ {ks : List VV} {es : List MapEntry} (i : Nat), denL φ ks = some (es.map (·.key)) → kallF pr ks = true →
    (kfind ks k = none ∧ Instr.findNow (descOf pr) kr es i = some none) ∨ ∃ j e, kfind ks k = some j ∧ es[j]? = some e ∧ e.key = kr ∧ Instr.findNow (descOf pr) kr es i = some (some (i + j, e.val))
  | [], [], i, _, _ => .inl ⟨rfl, rfl⟩
  | [], e :: es, i, h, _ => by simp [denL] at h
  | a :: ks, [], i, h, _ => by obtain ⟨_, _, _, _, h⟩ := denL_cons.1 h; simp at h
  | a :: ks, e :: es, i, h, hall => by
    obtain ⟨x, s, hx, hs, he⟩ := denL_cons.1 h
    simp only [List.map_cons, List.cons.injEq] at he
    obtain ⟨rfl, rfl⟩ := he
    simp only [kallF, List.all_cons, Bool.and_eq_true] at hall
    obtain ⟨r, hr, hiff⟩ := sameNow_of_keys (isKey_of hk dk) (isKey_of hall.1 hx)
    have heq := eqV_key hk hall.1 dk hx
    cases r with
    | true =>
      have e1 := hiff.1 rfl
      refine .inr ⟨0, e, by simp [kfind, heq.2 e1], rfl, e1.symm, by simp [Instr.findNow, hr]⟩
    | false =>
      have hne : eqV k a ≠ true := fun q => by have := hiff.2 (heq.1 q); cases this
      rcases kfind_spec hk dk (ks := ks) (es := es) (i + 1) hs hall.2 with ⟨h1, h2⟩ | ⟨j, e', h1, h2, h3, h4⟩
      · exact .inl ⟨by simp [kfind, hne, h1], by simp [Instr.findNow, hr, h2]⟩
      · exact .inr ⟨j + 1, e', by simp [kfind, hne, h1], by simpa using h2, h3, by simp [Instr.findNow, hr, h4]; omega⟩

theorem zeroV_run {t : TypeId} {z : VV} (hz : zeroV P t = some z) (w : World) : ∃ zz, den φ z = some zz ∧ (zeroValue t).run P w = .ok zz w := by
  unfold zeroV at hz
  split at hz
  · rename_i inf hinf
    split at hz
    · rename_i zz hzz
      exact ⟨zz, vvOf_den hz φ, by simp [zeroValue, run_typeInfo' hinf, hzz]⟩
    · cases hz
  · cases hz

theorem lookup_run {t kt et : TypeId} {pr : Pr} {z k : VV} {kr : Value} {b clock : Nat} {es : Array MapEntry} {ks vs : List VV} (hu : P.underlying t = some (.map kt et)) (hp : prT P kt = some pr) (hz : zeroV P et = some z)
    (hk : keyOk pr k = true) (dk : den φ k = some kr) (hw : w.heap[b]? = some (.map es clock)) (hks : denL φ ks = some (es.toList.map (·.key))) (hvs : denL φ vs = some (es.toList.map (·.val))) (hall : kallF pr ks = true) (cok : Bool) :
    ∃ u, den φ (match mvalF ks vs k with | some v => if cok then .tup [v, .bool true] else v | none => if cok then .tup [z, .bool false] else z) = some u ∧
      (Instr.lookup t (.map (some b)) kr cok).run P w = .ok u w := by
  obtain ⟨zz, dz, rz⟩ := zeroV_run (φ := φ) hz w
  have hd := prT_is hp
  have hik := isKey_of hk dk
  rcases kfind_spec hk dk 0 hks hall with ⟨h1, h2⟩ | ⟨j, e, h1, h2, h3, h4⟩
  · refine ⟨if cok then .tuple #[zz, .bool false] else zz, ?_, ?_⟩
    · simp only [mvalF, h1, Option.bind_none]
      cases cok
      · exact dz
      · exact den_tup.2 ⟨_, denL_cons.2 ⟨_, _, dz, denL_cons.2 ⟨_, _, rfl, rfl, rfl⟩, rfl⟩, rfl⟩
    · simp only [Instr.lookup, Sem.run_bind, run_underlying hu, Result.andThen_ok, run_getObj_map hw, Sem.run_pure, run_checkKey hd hik, run_findKey hd h2, rz]
  · have hv : ∃ v, vs[j]? = some v ∧ den φ v = some e.val := by
      have hlen := denL_length hvs
      have hj : j < es.toList.length := (List.getElem?_eq_some_iff.1 h2).1
      have hj2 : j < vs.length := by rw [List.length_map] at hlen; omega
      obtain ⟨x, g1, g2⟩ := denL_get hvs (List.getElem?_eq_getElem hj2)
      rw [List.getElem?_map, h2] at g2
      simp only [Option.map_some, Option.some.injEq] at g2
      exact ⟨_, List.getElem?_eq_getElem hj2, by rw [g2]; exact g1⟩
    obtain ⟨v, v1, v2⟩ := hv
    rw [Nat.zero_add] at h4
    refine ⟨if cok then .tuple #[e.val, .bool true] else e.val, ?_, ?_⟩
    · simp only [mvalF, h1, Option.bind_some, v1]
      cases cok
      · exact v2
      · exact den_tup.2 ⟨_, denL_cons.2 ⟨_, _, v2, denL_cons.2 ⟨_, _, rfl, rfl, rfl⟩, rfl⟩, rfl⟩
    · simp only [Instr.lookup, Sem.run_bind, run_underlying hu, Result.andThen_ok, run_getObj_map hw, Sem.run_pure, run_checkKey hd hik, run_findKey hd h4]
theorem lookup_nil {t kt et : TypeId} {pr : Pr} {z k : VV} {kr : Value} (hu : P.underlying t = some (.map kt et)) (hp : prT P kt = some pr) (hz : zeroV P et = some z)
    (hk : keyOk pr k = true) (dk : den φ k = some kr) (cok : Bool) :
    ∃ u, den φ (if cok then .tup [z, .bool false] else z) = some u ∧ (Instr.lookup t (.map none) kr cok).run P w = .ok u w := by
  obtain ⟨zz, dz, rz⟩ := zeroV_run (φ := φ) hz w
  have hd := prT_is hp
  have hik := isKey_of hk dk
  refine ⟨if cok then .tuple #[zz, .bool false] else zz, ?_, ?_⟩
  · cases cok
    · exact dz
    · exact den_tup.2 ⟨_, denL_cons.2 ⟨_, _, dz, denL_cons.2 ⟨_, _, rfl, rfl, rfl⟩, rfl⟩, rfl⟩
  · have hf : Instr.findNow (descOf pr) kr [] 0 = some none := rfl
    simp only [Instr.lookup, Sem.run_bind, run_underlying hu, Result.andThen_ok, Sem.run_pure, run_checkKey hd hik, run_findKey hd hf, rz]

theorem modify_list {es : Array MapEntry} {j : Nat} {e : MapEntry} {f : MapEntry → MapEntry} (h : es.toList[j]? = some e) : (es.modify j f).toList = es.toList.set j (f e) := by
  rw [Array.toList_modify]
  have : ∀ (l : List MapEntry) (j : Nat), l[j]? = some e → l.modify j f = l.set j (f e) := by
    intro l
    induction l with
    | nil => intro j h; simp at h
    | cons a l ih =>
      intro j h
      cases j with
      | zero => simp at h; subst h; simp
      | succ j => simp at h ⊢; exact ih j h
  exact this _ _ h
theorem erase_list {es : Array MapEntry} {j : Nat} (h : j < es.size) : (es.eraseIdxIfInBounds j).toList = es.toList.eraseIdx j := by
  unfold Array.eraseIdxIfInBounds
  rw [dif_pos h, Array.toList_eraseIdx]
theorem map_erase {α β : Type} (f : α → β) : ∀ (l : List α) (j : Nat), (l.eraseIdx j).map f = (l.map f).eraseIdx j
  | [], j => by simp
  | a :: l, 0 => by simp
  | a :: l, j + 1 => by simp [map_erase f l j]
theorem denL_set {l : List VV} {r : List Value} {j : Nat} {v : VV} {x : Value} : denL φ l = some r → den φ v = some x → denL φ (l.set j v) = some (r.set j x) := by
  induction l generalizing r j with
  | nil => intro h _; simp [denL] at h; subst h; simp [denL]
  | cons a l ih =>
    intro h hv
    obtain ⟨y, s, h1, h2, rfl⟩ := denL_cons.1 h
    cases j with
    | zero => exact denL_cons.2 ⟨x, s, hv, h2, rfl⟩
    | succ j => exact denL_cons.2 ⟨y, s.set j x, h1, ih h2 hv, rfl⟩
theorem denL_erase {l : List VV} {r : List Value} {j : Nat} : denL φ l = some r → denL φ (l.eraseIdx j) = some (r.eraseIdx j) := by
  induction l generalizing r j with
  | nil => intro h; simp [denL] at h; subst h; simp [denL]
  | cons a l ih =>
    intro h
    obtain ⟨y, s, h1, h2, rfl⟩ := denL_cons.1 h
    cases j with
    | zero => simpa using h2
    | succ j => exact denL_cons.2 ⟨y, s.eraseIdx j, h1, ih h2, rfl⟩

theorem update_run {t kt et : TypeId} {pr : Pr} {k v : VV} {kr vr : Value} {b clock : Nat} {es : Array MapEntry} {ks vs : List VV} (hu : P.underlying t = some (.map kt et)) (hp : prT P kt = some pr)
    (hk : keyOk pr k = true) (dk : den φ k = some kr) (dv : den φ v = some vr) (hw : w.heap[b]? = some (.map es clock)) (hks : denL φ ks = some (es.toList.map (·.key))) (hvs : denL φ vs = some (es.toList.map (·.val))) (hall : kallF pr ks = true) :
    ∃ es' clock', (Instr.mapUpdate t (.map (some b)) kr vr).run P w = .ok () { w with heap := w.heap.setIfInBounds b (.map es' clock') } ∧
      denL φ (mksF ks k) = some (es'.toList.map (·.key)) ∧ denL φ (mvsF ks vs k v) = some (es'.toList.map (·.val)) := by
  have hd := prT_is hp
  have hik := isKey_of hk dk
  rcases kfind_spec hk dk 0 hks hall with ⟨h1, h2⟩ | ⟨j, e, h1, h2, h3, h4⟩
  · refine ⟨es.push { key := kr, val := vr, born := clock }, clock + 1, ?_, ?_, ?_⟩
    · simp only [Instr.mapUpdate, Sem.run_bind, run_underlying hu, Result.andThen_ok, run_getObj_map hw, run_checkKey hd hik, run_findKey hd h2, run_setObj_map _ hw]
    · simp only [mksF, h1, Array.toList_push, List.map_append, List.map_cons, List.map_nil]
      exact denL_append.2 ⟨_, _, hks, denL_cons.2 ⟨_, _, dk, rfl, rfl⟩, rfl⟩
    · simp only [mvsF, h1, Array.toList_push, List.map_append, List.map_cons, List.map_nil]
      exact denL_append.2 ⟨_, _, hvs, denL_cons.2 ⟨_, _, dv, rfl, rfl⟩, rfl⟩
  · rw [Nat.zero_add] at h4
    have hj : j < es.toList.length := (List.getElem?_eq_some_iff.1 h2).1
    have hget : ((es[j]?).map (·.key)).getD kr = kr := by rw [← Array.getElem?_toList, h2]; exact h3
    refine ⟨es.modify j fun e => { e with key := kr, val := vr }, clock, ?_, ?_, ?_⟩
    · simp only [Instr.mapUpdate, Sem.run_bind, run_underlying hu, Result.andThen_ok, run_getObj_map hw, run_checkKey hd hik, run_findKey hd h4, hget, run_keyThatStays hik, run_setObj_map _ hw]
    · simp only [mksF, h1]
      rw [modify_list h2, List.map_set]
      have : (es.toList.map (·.key)).set j kr = es.toList.map (·.key) := by
        apply List.ext_getElem?
        intro i
        rw [List.getElem?_set]
        split
        · rename_i e'; subst e'
          split
          · rw [List.getElem?_map, h2]; simp [h3]
          · rename_i hl; rw [List.length_map] at hl; exact absurd hj hl
        · rfl
      rw [this]; exact hks
    · simp only [mvsF, h1]
      rw [modify_list h2, List.map_set]
      exact denL_set hvs dv
theorem delete_run {t kt et : TypeId} {ats : Array TypeId} {ty : TypeId} {pr : Pr} {k : VV} {kr : Value} {b clock : Nat} {es : Array MapEntry} {ks vs : List VV} (hat : ats[0]? = some t) (hu : P.underlying t = some (.map kt et)) (hp : prT P kt = some pr)
    (hk : keyOk pr k = true) (dk : den φ k = some kr) (hw : w.heap[b]? = some (.map es clock)) (hks : denL φ ks = some (es.toList.map (·.key))) (hvs : denL φ vs = some (es.toList.map (·.val))) (hall : kallF pr ks = true) :
    ∃ es' clock', (Builtin.delete_ ats ty #[.map (some b), kr]).run P w = .ok (.tuple #[]) { w with heap := w.heap.setIfInBounds b (.map es' clock') } ∧
      denL φ (dksF ks k) = some (es'.toList.map (·.key)) ∧ denL φ (dvsF ks vs k) = some (es'.toList.map (·.val)) := by
  have hd := prT_is hp
  have hik := isKey_of hk dk
  rcases kfind_spec hk dk 0 hks hall with ⟨h1, h2⟩ | ⟨j, e, h1, h2, h3, h4⟩
  · refine ⟨es, clock, ?_, by simpa [dksF, h1] using hks, by simpa [dvsF, h1] using hvs⟩
    simp only [Builtin.delete_, hat]
    simp [run_underlying hu, run_getObj_map hw, run_checkKey hd hik, run_findKey hd h2, run_setObj_map _ hw]
  · rw [Nat.zero_add] at h4
    have hj : j < es.size := by have := (List.getElem?_eq_some_iff.1 h2).1; simpa using this
    refine ⟨es.eraseIdxIfInBounds j, clock, ?_, ?_, ?_⟩
    · simp only [Builtin.delete_, hat]
      simp [run_underlying hu, run_getObj_map hw, run_checkKey hd hik, run_findKey hd h4, run_setObj_map _ hw]
    · simp only [dksF, h1]
      rw [erase_list hj, map_erase]
      exact denL_erase hks
    · simp only [dvsF, h1]
      rw [erase_list hj, map_erase]
      exact denL_erase hvs
theorem delete_nil {t kt et : TypeId} {ats : Array TypeId} {ty : TypeId} {pr : Pr} {k : VV} {kr : Value} (hat : ats[0]? = some t) (hu : P.underlying t = some (.map kt et)) (hp : prT P kt = some pr)
    (hk : keyOk pr k = true) (dk : den φ k = some kr) : (Builtin.delete_ ats ty #[.map none, kr]).run P w = .ok (.tuple #[]) w := by
  have hd := prT_is hp
  have hik := isKey_of hk dk
  simp only [Builtin.delete_, hat]
  simp [run_underlying hu, run_checkKey hd hik]
end
end Go.SL
