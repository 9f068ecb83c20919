/- A worker whose call refers to what is not done, or made nothing, plainly: whatever it refers to, the run is that of nobody. No program in sight. -/
import Derived.Test.YtglghdjpkecngaaGreatEp
namespace Go.FL
open Go Go.SL
def erC (c : CallS) : CallS := { c with at_ := 0 }
def erT (t : ToldS) : ToldS := { t with call := erC t.call }
def erS (s : WorkerS) : WorkerS := { s with l := s.l.map erC, told := s.told.map erT }
def cntS (s : WorkerS) : Nat := s.told.length + s.q.length + (if s.work.isSome then 1 else 0)
theorem go_er (s : WorkerS) (e : EnvS) (d : DoS) (m : MemS) : (erS s).go e d m = (erS (s.go e d m).1, (s.go e d m).2) := by
  unfold WorkerS.go
  cases hd : (d.step e m).1 with
  | false => simp [hd, erS]
  | true =>
    have hl : (Option.map erC s.l[s.at_.toNat]?).getD call0 = erC (s.l[s.at_.toNat]?.getD call0) := by
      cases s.l[s.at_.toNat]? <;> rfl
    simp [hd, erS, erT, hl]
theorem step_er (e : EnvS) (hs : List Nat) (s : WorkerS) (m : MemS) (h0 : s.work = none → s.q ≠ [] → ∀ x, madeAt x s.told = 0) :
    (erS s).step e hs nobodyF m = ((s.step e hs laterF m).1, erS (s.step e hs laterF m).2.1, (s.step e hs laterF m).2.2) := by
  unfold WorkerS.step
  have hn : (erS s).next hs nobodyF m.steps = (s.next hs laterF m.steps).map erS := by
    unfold WorkerS.next
    cases hw : s.work with
    | some d => simp [erS, hw]
    | none =>
      have e1 : (erS s).work = none := hw
      rw [e1]
      simp only
      unfold WorkerS.begin
      cases hq : s.q with
      | nil => have e2 : (erS s).q = [] := hq
               rw [e2]; rfl
      | cons a q =>
        have e2 : (erS s).q = a :: q := hq
        rw [e2]
        simp only
        have e3 : (erS s).l[a.toNat]? = (s.l[a.toNat]?).map erC := by show (s.l.map erC)[a.toNat]? = _; rw [List.getElem?_map]
        rw [e3]
        cases hc : s.l[a.toNat]? with
        | none => rfl
        | some c =>
          simp only [Option.map_some]
          have hm := h0 hw (by rw [hq]; simp) c.at_
          have h1 : hOf nobodyF (erS s).told (erC c) = 0 := by unfold hOf nobodyF; split <;> rfl
          have h2 : hOf laterF s.told c = 0 := by unfold hOf laterF; rw [hm]; split <;> rfl
          have h3 : doOf hs (erC c) 0 = doOf hs c 0 := rfl
          rw [h1, h2, h3]; rfl
  rw [hn]
  cases hx : s.next hs laterF m.steps with
  | none => rfl
  | some t =>
    simp only [Option.map_some]
    have e4 : (erS t).work = t.work := rfl
    rw [e4]
    cases hw : t.work with
    | none => rfl
    | some d => simp only; rw [go_er]
theorem go_told (s : WorkerS) (e : EnvS) (d : DoS) (m : MemS) : s.told <+: (s.go e d m).1.told := by
  unfold WorkerS.go
  cases hd : (d.step e m).1 <;> simp [hd]
theorem next_told {s t : WorkerS} {hs : List Nat} {f : MadeF} {now : Int} (h : s.next hs f now = some t) : t.told = s.told := by
  unfold WorkerS.next at h
  cases hw : s.work with
  | some d => rw [hw] at h; cases h; rfl
  | none =>
    rw [hw] at h; simp only at h
    unfold WorkerS.begin at h
    split at h
    · cases h
    · split at h
      · cases h
      · cases h; rfl
theorem step_told (s : WorkerS) (e : EnvS) (hs : List Nat) (f : MadeF) (m : MemS) : s.told <+: (s.step e hs f m).2.1.told := by
  unfold WorkerS.step
  cases hn : s.next hs f m.steps with
  | none => exact List.prefix_refl _
  | some t =>
    simp only
    have ht := next_told hn
    cases hw : t.work with
    | none => exact List.prefix_refl _
    | some d => simp only; rw [← ht]; exact go_told t e d m
theorem run_told {e : EnvS} {hs : List Nat} {f : MadeF} : ∀ {n : Nat} {s : WorkerS} {m : MemS} {sf : WorkerS} {mf : MemS}, workRun e hs f n s m = some (sf, mf) → s.told <+: sf.told
  | 0, s, m, sf, mf, h => by simp only [workRun, Option.some.injEq, Prod.mk.injEq] at h; rw [h.1]; exact List.prefix_refl _
  | n + 1, s, m, sf, mf, h => by
    simp only [workRun] at h
    split at h
    · simp only [Option.some.injEq, Prod.mk.injEq] at h; rw [h.1]; exact List.prefix_refl _
    · split at h
      · exact (step_told s e hs f m).trans (run_told h)
      · cases h
theorem go_cnt (s : WorkerS) (e : EnvS) (d : DoS) (m : MemS) (hw : s.work = some d) : cntS (s.go e d m).1 = cntS s := by
  unfold WorkerS.go cntS
  cases hd : (d.step e m).1 <;> simp [hd, hw] <;> omega
theorem step_cnt (s : WorkerS) (e : EnvS) (hs : List Nat) (f : MadeF) (m : MemS) : cntS (s.step e hs f m).2.1 = cntS s := by
  unfold WorkerS.step
  cases hn : s.next hs f m.steps with
  | none => rfl
  | some t =>
    have ht : cntS t = cntS s := by
      unfold WorkerS.next at hn
      cases hw : s.work with
      | some d => rw [hw] at hn; cases hn; rfl
      | none =>
        rw [hw] at hn; simp only at hn
        unfold WorkerS.begin at hn
        split at hn
        · cases hn
        · rename_i a q hq
          split at hn
          · cases hn
          · cases hn
            simp [cntS, hw, hq]; omega
    simp only
    cases hw : t.work with
    | none => rfl
    | some d => simp only; rw [go_cnt t e d m hw, ht]
theorem later_run {e : EnvS} {hs : List Nat} : ∀ {n : Nat} {s : WorkerS} {m : MemS} {sf : WorkerS} {mf : MemS}, workRun e hs nobodyF n (erS s) m = some (sf, mf) → cntS s = 3 → (∀ t, t ∈ sf.told.take 2 → t.done.h = 0) →
    ∃ sg, workRun e hs laterF n s m = some (sg, mf) ∧ erS sg = sf
  | 0, s, m, sf, mf, h, hc, hp => by
    simp only [workRun, Option.some.injEq, Prod.mk.injEq] at h
    exact ⟨s, by simp [workRun, h.2], h.1⟩
  | n + 1, s, m, sf, mf, h, hc, hp => by
    have hpre := run_told h
    simp only [workRun] at h ⊢
    have he : (erS s).ended = s.ended := rfl
    have hwf : (erS s).wfb e.c = s.wfb e.c := rfl
    rw [he, hwf] at h
    cases hen : s.ended with
    | true => rw [hen] at h; simp only [if_true, Option.some.injEq, Prod.mk.injEq] at h ⊢; exact ⟨s, ⟨rfl, h.2⟩, h.1⟩
    | false =>
      rw [hen] at h
      simp only [Bool.false_eq_true, if_false] at h ⊢
      cases hb : s.wfb e.c with
      | false => rw [hb] at h; simp at h
      | true =>
        rw [hb] at h
        simp only [if_true] at h ⊢
        have hstep := step_er e hs s m fun hw hq x => by
          have hlen : s.told.length ≤ 2 := by
            unfold cntS at hc
            have : s.q.length ≠ 0 := fun h => hq (List.eq_nil_of_length_eq_zero h)
            omega
          unfold madeAt
          split
          · rfl
          · cases ht : s.told[x.toNat]? with
            | none => rfl
            | some t =>
              simp only
              have hmem : erT t ∈ s.told.map erT := List.mem_map_of_mem (List.mem_of_getElem? ht)
              obtain ⟨r, hr⟩ := hpre
              have hr : s.told.map erT ++ r = sf.told := hr
              refine hp (erT t) ?_
              rw [← hr, List.take_append]
              exact List.mem_append_left _ (by rw [List.take_of_length_le (by simpa using hlen)]; exact hmem)
        rw [hstep] at h
        exact later_run h (by rw [step_cnt]; exact hc) hp
def laterN (k : Int) : Bool := match begun18 with
  | none => false
  | some (hs, m) => match workRun arena18 hs nobodyF 3000 (newWorker 0 [callH, ⟨k, 0, 0, 0, 0, 0, 0, 0, 0⟩, callA]) m with
    | none => false
    | some (s, _) => match s.told with
      | [a, b, c] => decide (hs.length = 3) && decide (b.h = 0) && decide (b.done.e = 3) && decide (c.done.e = 0) && decide (a.done.h = 0) && decide (b.done.h = 0) && decide (c.done.h ≠ 0)
      | _ => false
theorem laterN_ok : laterN 2 = true ∧ laterN 3 = true ∧ laterN 4 = true ∧ laterN 5 = true := by decide +kernel
theorem later_all (k at_ : Int) (hk : k = 2 ∨ k = 3 ∨ k = 4 ∨ k = 5) {hs : List Nat} {m : MemS} (hb : begun18 = some (hs, m)) :
    ∃ sf mf a b c, workRun arena18 hs laterF 3000 (newWorker 0 [callH, ⟨k, 0, 0, at_, 0, 0, 0, 0, 0⟩, callA]) m = some (sf, mf) ∧ sf.told = [a, b, c] ∧ hs.length = 3 ∧ b.h = 0 ∧ b.done.e = 3 ∧ c.done.e = 0 ∧
      ((madeAt at_ sf.told = c.done.h) ↔ at_ = 2) := by
  have hN : laterN k = true := by 
    obtain ⟨h2, h3, h4, h5⟩ := laterN_ok
    rcases hk with rfl | rfl | rfl | rfl
    · exact h2
    · exact h3
    · exact h4
    · exact h5
  unfold laterN at hN
  rw [hb] at hN
  simp only at hN
  cases hr : workRun arena18 hs nobodyF 3000 (newWorker 0 [callH, ⟨k, 0, 0, 0, 0, 0, 0, 0, 0⟩, callA]) m with
  | none => rw [hr] at hN; cases hN
  | some r =>
    obtain ⟨s, mf⟩ := r
    rw [hr] at hN
    simp only at hN
    rcases htd : s.told with _ | ⟨a, _ | ⟨b, _ | ⟨c, _ | _⟩⟩⟩ <;> rw [htd] at hN <;> simp only [Bool.false_eq_true] at hN
    simp only [Bool.and_eq_true, decide_eq_true_eq] at hN
    obtain ⟨⟨⟨⟨⟨⟨q0, q1⟩, q2⟩, q3⟩, q4⟩, q5⟩, q6⟩ := hN
    have hE0 : erS (newWorker 0 [callH, ⟨k, 0, 0, at_, 0, 0, 0, 0, 0⟩, callA]) = newWorker 0 [callH, ⟨k, 0, 0, 0, 0, 0, 0, 0, 0⟩, callA] := rfl
    have hC0 : cntS (newWorker 0 [callH, ⟨k, 0, 0, at_, 0, 0, 0, 0, 0⟩, callA]) = 3 := rfl
    rw [← hE0] at hr
    generalize newWorker 0 [callH, ⟨k, 0, 0, at_, 0, 0, 0, 0, 0⟩, callA] = s0 at *
    generalize 3000 = N at *
    clear hE0
    obtain ⟨sg, hg, hE⟩ := later_run (s := s0) hr hC0 (fun t ht => by
      rw [htd] at ht
      simp at ht
      rcases ht with rfl | rfl <;> assumption)
    have hT : sg.told.map erT = [a, b, c] := by rw [← htd, ← hE]; rfl
    rcases htg : sg.told with _ | ⟨a', _ | ⟨b', _ | ⟨c', _ | _⟩⟩⟩ <;> rw [htg] at hT <;> simp at hT
    obtain ⟨ra, rb, rc⟩ := hT
    subst ra rb rc
    refine ⟨sg, mf, a', b', c', hg, htg, q0, q1, q2, q3, ?_⟩
    have q4 : a'.done.h = 0 := q4
    have q5 : b'.done.h = 0 := q5
    have q6 : c'.done.h ≠ 0 := q6
    rw [htg]
    unfold madeAt
    by_cases h0 : at_ < 0
    · rw [if_pos h0]; exact ⟨fun h => absurd h.symm q6, fun h => by omega⟩
    · rw [if_neg h0]
      obtain ⟨j, rfl⟩ : ∃ j : Nat, at_ = j := ⟨at_.toNat, by omega⟩
      rcases j with _ | _ | _ | j
      · simp [q4]; exact fun h => q6 h.symm
      · simp [q5]; exact fun h => q6 h.symm
      · simp
      · simp; exact ⟨fun h => absurd h.symm q6, fun h => by omega⟩
end Go.FL
