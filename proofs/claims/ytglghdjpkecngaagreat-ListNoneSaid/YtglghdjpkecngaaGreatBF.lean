/- A list that begins nowhere, plainly. No program in sight. -/
import Derived.Test.YtglghdjpkecngaaGreatBA
namespace Go.FL
set_option linter.unusedVariables false
set_option linter.unusedSimpArgs false
open Go Go.SL
set_option maxRecDepth 100000
def nE : EnvS := arena 4 4 12 40
def nM0 : MemS := ((begun 4).getD (⟨0, 0, 0, 0⟩, newMem 0)).2
def nM1 : MemS := (eld nE nM0 0).2
def nM2 : MemS := est nE nM1 (pinA nE.who) (inc64 0)
def nM3 : MemS := (eld nE nM2 0).2
theorem n_begun : (begun 4).map (fun r => (r.1.e, r.1.h)) = some (0, 65536) := by decide +kernel
theorem n_e1 : (eld nE nM0 0).1 = 0 := by decide +kernel
theorem n_e2 : (eld nE nM2 0).1 = 0 := by decide +kernel
theorem n_s0 : slotOf (eld nE nM3 (slotA nE.c 0)).1 = ⟨1, 54, 1, 0⟩ := by decide +kernel
theorem n_s1 : (slotOf (eld nE nM3 (slotA nE.c 1)).1).state = 0 := by decide +kernel
theorem n_s2 : (slotOf (eld nE nM3 (slotA nE.c 2)).1).state = 0 := by decide +kernel
theorem n_s3 : (slotOf (eld nE nM3 (slotA nE.c 3)).1).state = 0 := by decide +kernel
/-- Who reads by a handle of nothing is told so. -/
theorem access0 (s : AccessS) (e : EnvS) (m : MemS) (h : s.pc = 0) : s.step e m = if (handleOf s.x.handle).2 = false ∨ (handleOf s.x.handle).1.slot ≥ e.c.slots then (true, { s with h := (handleOf s.x.handle).1, out := ⟨3, 0, 0, m.steps⟩ }, m) else
    if live (slotOf (eld e m (slotA e.c (handleOf s.x.handle).1.slot)).1) (handleOf s.x.handle).1 then (false, { s with h := (handleOf s.x.handle).1, w := (eld e m (slotA e.c (handleOf s.x.handle).1.slot)).1, seen := (eld e m (slotA e.c (handleOf s.x.handle).1.slot)).2.steps, pc := 1 }, (eld e m (slotA e.c (handleOf s.x.handle).1.slot)).2)
    else (true, { s with h := (handleOf s.x.handle).1, w := (eld e m (slotA e.c (handleOf s.x.handle).1.slot)).1, seen := (eld e m (slotA e.c (handleOf s.x.handle).1.slot)).2.steps, pc := 1, out := ⟨3, 0, 0, (eld e m (slotA e.c (handleOf s.x.handle).1.slot)).2.steps⟩ }, (eld e m (slotA e.c (handleOf s.x.handle).1.slot)).2) := by
  obtain ⟨x, own, hd, pc, w, cell, seen, read, size, help, out⟩ := s
  subst h
  rfl
theorem handle_ok {n : Nat} (h : (handleOf n).2 = true) : (handleOf n).1.slot = ((n &&& 65535 : Nat) : Int) ∧ (handleOf n).1.gen = ((n >>> 16 : Nat) : Int) := by
  unfold handleOf at *
  by_cases hc : n >>> 32 ≠ 0 ∨ n >>> 16 = 0
  · rw [if_pos hc] at h; cases h
  · rw [if_neg hc]; exact ⟨rfl, rfl⟩
theorem head_ne {head a b : Nat} (hh : head ≠ 65536) (ha : head &&& 65535 = a) (hb : head >>> 16 = b) : ¬ (a = 0 ∧ b = 1) := by
  rintro ⟨rfl, rfl⟩
  apply hh
  have e1 : head &&& 65535 = head % 65536 := Nat.and_two_pow_sub_one_eq_mod head 16
  have e2 : head >>> 16 = head / 65536 := Nat.shiftRight_eq_div_pow head 16
  omega
theorem dead_live {s : SlotS} {h : HandleS} (hs : s.state = 0) : live s h = false := by
  simp [live, hs]
theorem n_dead {nE : EnvS} {nM3 : MemS} (n_s0 : slotOf (eld nE nM3 (slotA nE.c 0)).1 = ⟨1, 54, 1, 0⟩) (n_s1 : (slotOf (eld nE nM3 (slotA nE.c 1)).1).state = 0) (n_s2 : (slotOf (eld nE nM3 (slotA nE.c 2)).1).state = 0) (n_s3 : (slotOf (eld nE nM3 (slotA nE.c 3)).1).state = 0)
    {a b : Nat} (hab : ¬ (a = 0 ∧ b = 1)) (h4 : a < 4) {h : HandleS} (hg : h.gen = (b : Int)) : live (slotOf (eld nE nM3 (slotA nE.c (a : Int))).1) h = false := by
  match a, h4, hab with
  | 0, _, hab => 
    rw [show ((0 : Nat) : Int) = 0 from rfl, n_s0]
    unfold live
    rw [hg]
    have : ¬ (1 : Int) = (b : Int) := by omega
    rw [decide_eq_false this, Bool.and_false]
  | 1, _, _ => exact dead_live n_s1
  | 2, _, _ => exact dead_live n_s2
  | 3, _, _ => exact dead_live n_s3
theorem n_access' {nE : EnvS} {nM3 : MemS} (hsl : nE.c.slots = 4) (n_s0 : slotOf (eld nE nM3 (slotA nE.c 0)).1 = ⟨1, 54, 1, 0⟩) (n_s1 : (slotOf (eld nE nM3 (slotA nE.c 1)).1).state = 0) (n_s2 : (slotOf (eld nE nM3 (slotA nE.c 2)).1).state = 0) (n_s3 : (slotOf (eld nE nM3 (slotA nE.c 3)).1).state = 0)
    (head : Nat) (hh : head ≠ 65536) : ∃ st m s', (newAccess ⟨1, head, 1, 0, 0⟩ true).step nE nM3 = (true, s', m) ∧ s'.out = ⟨3, 0, 0, st⟩ := by
  rw [access0 _ _ _ rfl]
  by_cases hq : (handleOf head).2 = false ∨ (handleOf head).1.slot ≥ nE.c.slots
  · rw [if_pos (show (handleOf (newAccess ⟨1, head, 1, 0, 0⟩ true).x.handle).2 = false ∨ (handleOf (newAccess ⟨1, head, 1, 0, 0⟩ true).x.handle).1.slot ≥ nE.c.slots from hq)]
    exact ⟨_, _, _, rfl, rfl⟩
  · rw [if_neg (show ¬ ((handleOf (newAccess ⟨1, head, 1, 0, 0⟩ true).x.handle).2 = false ∨ (handleOf (newAccess ⟨1, head, 1, 0, 0⟩ true).x.handle).1.slot ≥ nE.c.slots) from hq)]
    have h1 : (handleOf head).2 = true := by
      cases hx : (handleOf head).2 with
      | true => rfl
      | false => exact (hq (.inl hx)).elim
    obtain ⟨h2, h3⟩ := handle_ok h1
    have h4 : ¬ (handleOf head).1.slot ≥ nE.c.slots := fun h => hq (.inr h)
    have hd : live (slotOf (eld nE nM3 (slotA nE.c (handleOf head).1.slot)).1) (handleOf head).1 = false := by
      rw [h2]
      refine n_dead n_s0 n_s1 n_s2 n_s3 (head_ne hh rfl rfl) ?_ h3
      rw [h2, hsl] at h4
      omega
    rw [if_neg (show ¬ live (slotOf (eld nE nM3 (slotA nE.c (handleOf (newAccess ⟨1, head, 1, 0, 0⟩ true).x.handle).1.slot)).1) (handleOf (newAccess ⟨1, head, 1, 0, 0⟩ true).x.handle).1 = true from by rw [show (newAccess ⟨1, head, 1, 0, 0⟩ true).x.handle = head from rfl, hd]; exact Bool.false_ne_true)]
    exact ⟨_, _, _, rfl, rfl⟩
theorem n_access (head : Nat) (hh : head ≠ 65536) : ∃ st m s', (newAccess ⟨1, head, 1, 0, 0⟩ true).step nE nM3 = (true, s', m) ∧ s'.out = ⟨3, 0, 0, st⟩ :=
  n_access' rfl n_s0 n_s1 n_s2 n_s3 head hh
theorem n_ask' {nE : EnvS} {nM0 nM1 nM2 nM3 : MemS} (n_e1 : (eld nE nM0 0).1 = 0) (e1 : (eld nE nM0 0).2 = nM1) (e2 : est nE nM1 (pinA nE.who) (inc64 0) = nM2) (n_e2 : (eld nE nM2 0).1 = 0) (e3 : (eld nE nM2 0).2 = nM3)
    (head : Nat) (kind key : Int) (hk : checkList kind key = true) (n_access : ∃ st m s', (newAccess ⟨1, head, 1, 0, 0⟩ true).step nE nM3 = (true, s', m) ∧ s'.out = ⟨3, 0, 0, st⟩) : ∃ st m, ask nE head kind key nM0 = some (⟨3, 0, 0, st⟩, m) := by
  obtain ⟨st, m4, s', hs, hout⟩ := n_access
  unfold ask
  rw [if_pos hk]
  let L : Option ActS → ListS := fun a => { newList kind key head with a := a }
  have hw : (newList kind key head).acts = some (newAct ⟨3, 0, head, 1, 0, 0, true⟩) := by
    simp [newList, ListS.acts, ListS.want, checkAct]
  have hsome : ∀ a, (L (some a)).acts = some a := fun a => rfl
  let D0 : DoerS := .access (newAccess ⟨1, head, 1, 0, 0⟩ true)
  let Z : DoneS := ⟨0, 0, 0, 0⟩
  have hn : newAct ⟨3, 0, head, 1, 0, 0, true⟩ = ⟨⟨0, 0⟩, 0, D0, Z⟩ := rfl
  have a1 : ActS.step ⟨⟨0, 0⟩, 0, D0, Z⟩ nE nM0 = (false, ⟨⟨1, 0⟩, 0, D0, Z⟩, nM1) := by
    simp only [ActS.step, InS.step, n_e1, e1, Bool.false_eq_true, if_false]
  have a2 : ActS.step ⟨⟨1, 0⟩, 0, D0, Z⟩ nE nM1 = (false, ⟨⟨2, 0⟩, 0, D0, Z⟩, nM2) := by
    simp only [ActS.step, InS.step, e2, Bool.false_eq_true, if_false]
  have a3 : ActS.step ⟨⟨2, 0⟩, 0, D0, Z⟩ nE nM2 = (false, ⟨⟨2, 0⟩, 1, D0, Z⟩, nM3) := by
    simp only [ActS.step, InS.step, n_e2, e3, if_true]; simp
  have a4 : ActS.step ⟨⟨2, 0⟩, 1, D0, Z⟩ nE nM3 = (false, ⟨⟨2, 0⟩, 2, .access s', ⟨3, 0, 0, st⟩⟩, m4) := by
    simp only [ActS.step, DoerS.step, D0, hs]
    simp [DoerS.done, hout]
  have a5 : ActS.step ⟨⟨2, 0⟩, 2, .access s', ⟨3, 0, 0, st⟩⟩ nE m4 = (true, ⟨⟨2, 0⟩, 2, .access s', ⟨3, 0, 0, st⟩⟩, outStep nE m4) := rfl
  have s1 : (newList kind key head).step nE nM0 = (false, L (some ⟨⟨1, 0⟩, 0, D0, Z⟩), nM1) := by
    unfold ListS.step; rw [hw, hn]; simp only [a1]; rfl
  have s2 : (L (some ⟨⟨1, 0⟩, 0, D0, Z⟩)).step nE nM1 = (false, L (some ⟨⟨2, 0⟩, 0, D0, Z⟩), nM2) := by
    unfold ListS.step; rw [hsome]; simp only [a2]; rfl
  have s3 : (L (some ⟨⟨2, 0⟩, 0, D0, Z⟩)).step nE nM2 = (false, L (some ⟨⟨2, 0⟩, 1, D0, Z⟩), nM3) := by
    unfold ListS.step; rw [hsome]; simp only [a3]; rfl
  have s4 : (L (some ⟨⟨2, 0⟩, 1, D0, Z⟩)).step nE nM3 = (false, L (some ⟨⟨2, 0⟩, 2, .access s', ⟨3, 0, 0, st⟩⟩), m4) := by
    unfold ListS.step; rw [hsome]; simp only [a4]; rfl
  have s5 : (L (some ⟨⟨2, 0⟩, 2, .access s', ⟨3, 0, 0, st⟩⟩)).step nE m4 = (true, { L none with out := ⟨3, 0, 0, st⟩ }, outStep nE m4) := by
    unfold ListS.step; rw [hsome]; simp only [a5]; rfl
  have w1 : (newList kind key head).wfb nE.c = true := rfl
  have w2 : (L (some ⟨⟨1, 0⟩, 0, D0, Z⟩)).wfb nE.c = true := rfl
  have w3 : (L (some ⟨⟨2, 0⟩, 0, D0, Z⟩)).wfb nE.c = true := rfl
  have w4 : (L (some ⟨⟨2, 0⟩, 1, D0, Z⟩)).wfb nE.c = true := rfl
  have w5 : (L (some ⟨⟨2, 0⟩, 2, .access s', ⟨3, 0, 0, st⟩⟩)).wfb nE.c = true := rfl
  refine ⟨st, outStep nE m4, ?_⟩
  have hrun : listRun nE 20000 (newList kind key head) nM0 = some ({ L none with out := ⟨3, 0, 0, st⟩ }, outStep nE m4) := by
    have go : ∀ (n : Nat) (s : ListS) (m : MemS), s.wfb nE.c = true → listRun nE (n + 1) s m = if (s.step nE m).1 then some ((s.step nE m).2.1, (s.step nE m).2.2) else listRun nE n (s.step nE m).2.1 (s.step nE m).2.2 := by
      intro n s m h; simp [listRun, h]
    rw [show (20000 : Nat) = 19995 + 1 + 1 + 1 + 1 + 1 from rfl, go _ _ _ w1, s1]
    simp only [Bool.false_eq_true, if_false]
    rw [go _ _ _ w2, s2]
    simp only [Bool.false_eq_true, if_false]
    rw [go _ _ _ w3, s3]
    simp only [Bool.false_eq_true, if_false]
    rw [go _ _ _ w4, s4]
    simp only [Bool.false_eq_true, if_false]
    rw [go _ _ _ w5, s5]
    simp only [if_true]
  rw [hrun]
  rfl
theorem n_ask (head : Nat) (kind key : Int) (hk : checkList kind key = true) (hh : head ≠ 65536) : ∃ st m, ask nE head kind key nM0 = some (⟨3, 0, 0, st⟩, m) :=
  n_ask' n_e1 rfl rfl n_e2 rfl head kind key hk (n_access head hh)
end Go.FL
