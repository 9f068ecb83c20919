/- Runs of acts and of lists, plainly. No program in sight. -/
import Derived.Test.YtglghdjpkecngaaGreatAN
namespace Go.FL
open Go Go.SL
def DoerS.wfb (c : Cfg) : DoerS → Bool
  | .alloc s => match s.pc with
    | 2 => match s.p with | some p => decide (0 ≤ p.cls) | none => false
    | 3 => decide (0 ≤ classA s.size)
    | n + 7 => s.give.isSome
    | _ => true
  | .drop s => match s.pc with
    | 3 => s.help.isSome
    | 4 => s.help.isSome
    | 5 => decide (0 ≤ classA s.size) && !decide (c.words = 0)
    | n + 6 => s.give.isSome
    | _ => true
  | .access s => match s.pc with
    | 4 => s.help.isSome
    | _ => true
theorem wf_of {c : Cfg} {d : DoerS} (h : d.wfb c = true) : d.wf c := by
  cases d with
  | alloc s =>
    simp only [DoerS.wfb] at h
    refine ⟨fun e => ?_, fun e => ?_, fun e => ?_⟩
    · rw [e] at h
      simp only at h
      split at h
      · rename_i p hp
        refine ⟨by rw [hp]; rfl, fun q hq => ?_⟩
        rw [hp] at hq; cases hq; exact of_decide_eq_true h
      · cases h
    · rw [e] at h; exact of_decide_eq_true h
    · obtain ⟨n, hn⟩ : ∃ n, s.pc = n + 7 := ⟨s.pc - 7, by omega⟩
      rw [hn] at h; exact h
  | drop s =>
    simp only [DoerS.wfb] at h
    refine ⟨fun e => ?_, fun e => ?_, fun e => ?_⟩
    · rcases e with e | e <;> (rw [e] at h; exact h)
    · rw [e] at h; simp at h; exact h
    · obtain ⟨n, hn⟩ : ∃ n, s.pc = n + 6 := ⟨s.pc - 6, by omega⟩
      rw [hn] at h; exact h
  | access s =>
    simp only [DoerS.wfb] at h
    intro e
    rw [e] at h; exact h
def ActS.wfb (c : Cfg) (a : ActS) : Bool := match a.pc with
  | 1 => a.work.wfb c
  | _ => true
theorem awf_of {c : Cfg} {a : ActS} (h : a.wfb c = true) : a.pc = 1 → a.work.wf c := by
  intro e
  simp only [ActS.wfb, e] at h
  exact wf_of h
def actRun (e : EnvS) : Nat → ActS → MemS → Option (ActS × MemS)
  | 0, a, m => some (a, m)
  | n + 1, a, m => if a.wfb e.c then let r := a.step e m; if r.1 then some (r.2.1, r.2.2) else actRun e n r.2.1 r.2.2 else none
def doAct (e : EnvS) (x : ActX) (m : MemS) : Option (DoneS × MemS) :=
  if checkAct x then (actRun e 500 (newAct x) m).map fun r => (r.1.out, r.2) else some (⟨1, 0, 0, 0⟩, m)
def ListS.wfb (c : Cfg) (s : ListS) : Bool := match s.a with
  | some a => a.wfb c
  | none => true
theorem lwf_of {c : Cfg} {s : ListS} (h : s.wfb c = true) : ∀ a, s.a = some a → a.pc = 1 → a.work.wf c := by
  intro a ha
  simp only [ListS.wfb, ha] at h
  exact awf_of h
def listRun (e : EnvS) : Nat → ListS → MemS → Option (ListS × MemS)
  | 0, s, m => some (s, m)
  | n + 1, s, m => if s.wfb e.c then let r := s.step e m; if r.1 then some (r.2.1, r.2.2) else listRun e n r.2.1 r.2.2 else none
def ask (e : EnvS) (head : Nat) (kind key : Int) (m : MemS) : Option (DoneS × MemS) :=
  if checkList kind key then (listRun e 20000 (newList kind key head) m).map fun r => (r.1.out, r.2) else some (⟨1, 0, 0, 0⟩, m)
def arena (t s c w : Int) : EnvS := ⟨⟨t, s, c, w, 100, 600, 3⟩, 0⟩
def begun (slots : Int) : Option (DoneS × MemS) := doAct (arena 4 slots 12 40) ⟨1, 2, 0, 0, 0, 0, true⟩ (freshM (arena 4 slots 12 40).c)
end Go.FL
