/- hist: the plain store: objects are made, let go; keys. -/
import Derived.Test.YthoodnlihbaimaaHVa
namespace Go.Proofs.Ythoodnlihbaimaa
set_option linter.unusedVariables false
set_option linter.unusedSimpArgs false
open Go Go.SL Go.FL
set_option maxRecDepth 100000
theorem sClass_ev {W0 : World} (z : Int) (h1 : 1 ≤ z) (h4 : z ≤ 4) : Ev Try.prog W0 46 [.int .i64 z] [] (fun v V' => v = .int .i64 (if z ≤ 2 then 0 else 1) ∧ V' = []) := by
  refine Ev.out fun Q' hQ => ev46 rfl fun o => ?_
  generalize hR : (if z ≤ 2 then (0 : Int) else 1) = R at *
  cbv
  refine ⟨fun m env V => ∃ (i : Nat) (r : Nat → Value), (i = 0 ∨ (i = 1 ∧ 2 < z)) ∧ m = 2 - i ∧ env = mix [(0, .int .i64 z), (4, .int .i64 i)] r ∧ V = [], ⟨2, o.reI (Re.ren [] _ _ rfl rfl ?_ (show fitB _ _ [] [] from trivial) fun r => ⟨0, r, .inl rfl, rfl, rfl, rfl⟩)⟩, ?_⟩
  · exact ⟨rfl, rfl, trivial⟩
  rintro m env V ⟨i, r, hi, rfl, rfl, rfl⟩
  rcases hi with rfl | ⟨rfl, h2⟩
  · have e0 : arith .shl .i64 2 (Int.ofNat 0) = 2 := by decide +kernel
    have e1 : arith .add .i64 (Int.ofNat 0) 1 = 1 := by decide +kernel
    have e2 : Int.ofNat 0 < 4 := by decide
    (cbv; repeat' (first | (refine ⟨by simp only [Ops.need_eq, needs]; first | rfl | decide, ?_⟩; try cbv) | (refine mt (fun _ => ?_) (fun _ => ?_) <;> (try cbv))))
    all_goals simp only [o.cmp_eq, o.ar_eq, icmp, decide_eq_true_eq, decide_eq_false_iff_not, e0] at *
    · refine hQ _ _ (ReV.none rfl ⟨?_, rfl⟩)
      rw [← hR, if_pos (by omega)]; rfl
    · refine ⟨1, by decide, o.reI (Re.ren [] _ _ rfl rfl ?_ (show fitB _ _ [] [] from trivial) fun r => ⟨1, r, .inr ⟨rfl, by omega⟩, rfl, rfl, rfl⟩)⟩
      exact ⟨rfl, congrArg (VV.int .i64) e1, trivial⟩
    · exfalso; rename_i h; omega
    · exfalso; rename_i h; omega
  · have e0 : arith .shl .i64 2 (Int.ofNat 1) = 4 := by decide +kernel
    have e2 : Int.ofNat 1 < 4 := by decide
    (cbv; repeat' (first | (refine ⟨by simp only [Ops.need_eq, needs]; first | rfl | decide, ?_⟩; try cbv) | (refine mt (fun _ => ?_) (fun _ => ?_) <;> (try cbv))))
    all_goals simp only [o.cmp_eq, o.ar_eq, icmp, decide_eq_true_eq, decide_eq_false_iff_not, e0] at *
    · refine hQ _ _ (ReV.none rfl ⟨?_, rfl⟩)
      rw [← hR, if_neg (by omega)]; rfl
    · exfalso; rename_i h; omega
    · exfalso; rename_i h; omega
    · exfalso; rename_i h; omega
theorem room_ev {W0 : World} (e : Int) : Ev Try.prog W0 47 [.int .i64 e] [] (fun v V' => v = .bool (roomE e) ∧ V' = []) := by
  refine Ev.out fun Q' hQ => ev47 rfl fun o => ?_
  (cbv; repeat' (first | (refine ⟨by simp only [Ops.need_eq, needs]; first | rfl | decide, ?_⟩; try cbv) | (refine mt (fun h => ?_) (fun h => ?_) <;> first | (exfalso; simp [Ops.cmp_eq, Ops.not_eq, icmp] at h; done) | (exfalso; simp [Ops.cmp_eq, icmp] at h; omega) | (try cbv))))
  all_goals
    refine hQ _ _ (ReV.none rfl ⟨?_, rfl⟩)
    simp only [Ops.cmp_eq, icmp] at *
    simp_all [roomE]
theorem orE_ev {W0 : World} (b : Bool) (x y : Int) : Ev Try.prog W0 37 [.bool b, .int .i64 x, .int .i64 y] [] (fun v V' => v = .int .i64 (if b then x else y) ∧ V' = []) := by
  refine Ev.out fun Q' hQ => ev37 rfl fun o => ?_
  cases b
  all_goals
    (cbv; repeat' (first | (refine ⟨by simp only [Ops.need_eq, needs]; first | rfl | decide, ?_⟩; try cbv) | (refine mt (fun h => ?_) (fun h => ?_) <;> first | (exfalso; simp [Ops.cmp_eq, Ops.not_eq, icmp] at h; done) | (exfalso; simp [Ops.cmp_eq, icmp] at h; omega) | (try cbv))))
    exact hQ _ _ (ReV.none rfl ⟨rfl, rfl⟩)
theorem objsI_app {l : List ObjX} {h : Nat} (ws : List Int) (x : Value) (hn : hpos ObjX.h l h = none) : objsI (l ++ [⟨h, ws, x⟩]) = upI (objsI l) h (some ⟨[x], [.sl 0 1 0 ws.length (.n ws.length)], [.arr 1 (wcs ws) (.n ws.length)]⟩) := by
  have hp : ∀ (l : List ObjX) h', hpos ObjX.h (l ++ [⟨h, ws, x⟩]) h' = match hpos ObjX.h l h' with | some j => some j | none => if h = h' then some l.length else none := by
    intro l h'
    induction l with
    | nil => simp only [List.nil_append, hpos]; split <;> simp
    | cons a l ih =>
      rw [List.cons_append]
      simp only [hpos, ih]
      by_cases e : a.h = h'
      · simp [e]
      · simp only [e, if_false]
        cases hpos ObjX.h l h' with
        | some j => rfl
        | none => simp only [Option.map_none]; split <;> simp
  funext h'
  unfold objsI
  rw [hp]
  by_cases e : h' = h
  · subst e
    rw [upI_self, hn]
    simp [objItem]
  · rw [upI_ne _ _ e]
    show _ = (hpos ObjX.h l h').bind fun j => Option.map objItem l[j]?
    cases hq : hpos ObjX.h l h' with
    | none => simp [Ne.symm e]
    | some i =>
      obtain ⟨ob, g1, _⟩ := hpos_lt hq
      simp only [Option.bind_some]
      rw [List.getElem?_append_left (List.getElem?_eq_some_iff.1 g1).1]
theorem ndup_app {l : List ObjX} {h : Nat} {ws : List Int} {x : Value} (hd : ndupH l) (hn : hpos ObjX.h l h = none) : ndupH (l ++ [⟨h, ws, x⟩]) := by
  have := hpos_none hn
  clear hn
  induction l with
  | nil => exact ⟨(fun b hb => by cases hb), trivial⟩
  | cons a l ih =>
    refine ⟨fun b hb => ?_, ih hd.2 fun b hb => this b (by simp [hb])⟩
    rcases List.mem_append.1 hb with hb | hb
    · exact hd.1 b hb
    · rw [List.mem_singleton.1 hb]; exact fun e => this a (by simp) e.symm
theorem ndup_erase {l : List ObjX} {j : Nat} (hd : ndupH l) : ndupH (l.eraseIdx j) := by
  induction l generalizing j with
  | nil => exact hd
  | cons a l ih =>
    cases j with
    | zero => exact hd.2
    | succ j => exact ⟨fun b hb => hd.1 b (List.mem_of_mem_eraseIdx hb), ih hd.2⟩
theorem objsI_erase {l : List ObjX} {h j : Nat} (hd : ndupH l) (hj : hpos ObjX.h l h = some j) : ∀ h' it, objsI (l.eraseIdx j) h' = some it → objsI l h' = some it := by
  induction l generalizing j with
  | nil => simp [hpos] at hj
  | cons a l ih =>
    simp only [hpos] at hj
    intro h' it
    split at hj
    · rename_i e
      cases hj
      rw [List.eraseIdx_cons_zero]
      intro hit
      unfold objsI at hit ⊢
      simp only [hpos]
      cases hq : hpos ObjX.h l h' with
      | none => rw [hq] at hit; cases hit
      | some i =>
        rw [hq] at hit
        obtain ⟨ob, g1, g2⟩ := hpos_lt hq
        have : a.h ≠ h' := by rw [← g2]; exact fun e => hd.1 ob (List.mem_of_getElem? g1) e.symm
        rw [if_neg this]
        exact hit
    · rename_i e
      simp only [Option.map_eq_some_iff] at hj
      obtain ⟨i, hi, rfl⟩ := hj
      rw [List.eraseIdx_cons_succ]
      have ih := ih hd.2 hi h' it
      intro hit
      unfold objsI at hit ih ⊢
      simp only [hpos] at hit ⊢
      by_cases e2 : a.h = h'
      · simpa [e2] using hit
      · rw [if_neg e2] at hit ⊢
        cases hq : hpos ObjX.h (l.eraseIdx i) h' with
        | none => rw [hq] at hit; cases hit
        | some q =>
          rw [hq] at hit ih
          have := ih (by simpa using hit)
          cases hr : hpos ObjX.h l h' with
          | none => rw [hr] at this; cases this
          | some q2 => rw [hr] at this; simpa using this
theorem map_erase {α β : Type} (f : α → β) : ∀ (l : List α) (j : Nat), (l.eraseIdx j).map f = (l.map f).eraseIdx j
  | [], j => rfl
  | a :: l, 0 => rfl
  | a :: l, j + 1 => by simp only [List.eraseIdx_cons_succ, List.map_cons, map_erase f l j]
theorem hks_erase (l : List ObjX) (j : Nat) : hks (l.eraseIdx j) = (hks l).eraseIdx j ∧ hvs (l.eraseIdx j) = (hvs l).eraseIdx j := ⟨map_erase _ l j, map_erase _ l j⟩
end Go.Proofs.Ythoodnlihbaimaa
