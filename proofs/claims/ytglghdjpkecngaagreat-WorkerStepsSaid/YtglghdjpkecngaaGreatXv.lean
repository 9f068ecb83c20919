/- Texts of one claim, laid into one: CMa CQa TV TW EP TX. -/
import Derived.Test.YtglghdjpkecngaaGreatXt
import Derived.Test.YtglghdjpkecngaaGreatBA
import Derived.Test.YtglghdjpkecngaaGreatBI
import Derived.Test.YtglghdjpkecngaaGreatEp
set_option linter.unusedVariables false
set_option linter.unusedSimpArgs false
/- The arena, alone: the words of a fresh one. No program in sight. -/
namespace Go.FL
set_option linter.unusedVariables false
set_option linter.unusedSimpArgs false
open Go Go.SL

section
variable {c : Cfg} {f g : Int → Nat} {F : List Int} {m : MemS} {q : Int} {e : EnvS}
structure Mw (m : MemS) (L : Int) (f : Int → Nat) : Prop where
  len : (m.cs.length : Int) = L
  at_ : ∀ a, 0 ≤ a → a < L → (m.at a).1 = f a
theorem Mw.st {L : Int} (M : Mw m L f) {a : Int} (w : Nat) (h0 : 0 ≤ a) (h1 : a < L) : Mw (m.st a w) L (upd f a w) := by
  have hl := M.len
  have hr : m.inR a = true := Bool.and_eq_true_iff.2 ⟨decide_eq_true h0, decide_eq_true (by omega)⟩
  have hs : m.st a w = (m.tick a).lay a w := by simp only [MemS.st, hr, if_true]
  rw [hs]
  refine ⟨by rw [MemS.lay_len]; exact hl, fun b b0 b1 => ?_⟩
  rw [MemS.lay_at _ _ h0 (by show a < (m.cs.length : Int); omega) b0]
  simp only [upd]
  split
  · rfl
  · exact M.at_ b b0 b1
theorem Mw.mv {L : Int} (M : Mw m L f) (h0 : 0 ≤ q) (h1 : q < L) : Mv m L q (f q) f := ⟨M.len, fun a a0 a1 _ => M.at_ a a0 a1, M.at_ q h0 h1, h0, h1⟩
def frF (c : Cfg) (n : Nat) (a : Int) : Nat :=
  if sA c 0 ≤ a ∧ a < sA c n then (if (a - sA c 0) % 2 = 0 then putSlot ⟨0, 0, 1, 0⟩ else putTop ((a - sA c 0) / 2 + 1) 0) else 0
def freshF (c : Cfg) : Int → Nat := upd (upd (frF c c.slots.toNat) (sA c (c.slots - 1) + 1) (putTop (-1) 0)) 1 (putTop 0 0)
theorem frTo_mw (hc : CfgOk c) : ∀ n : Nat, (n : Int) ≤ c.slots → Mw (frTo c (newMem (lenA c).toNat) n) (bA c c.chunks) (frF c n)
  | 0, _ => by
    have hL := bA_ge hc (j := c.chunks) (by have := hc.c0; omega)
    have hs0 := hc.s0
    have ht0 := hc.t0
    have hc0 := hc.c0
    refine ⟨?_, fun a a0 a1 => ?_⟩
    · simp only [frTo, List.range_zero, List.foldl_nil, newMem, List.length_replicate, lenA_eq hc]; omega
    · simp only [frTo, List.range_zero, List.foldl_nil, newMem, MemS.at, List.getD_eq_getElem?_getD, List.getElem?_replicate]
      have hn : ¬ (sA c 0 ≤ a ∧ a < sA c ((0 : Nat) : Int)) := by simp only [sA]; omega
      rw [frF, if_neg hn]
      split <;> rfl
  | n + 1, hn => by
    have hL := bA_ge hc (j := c.chunks) (by have := hc.c0; omega)
    have hs0 := hc.s0
    have hs1 := hc.s1
    have ht0 := hc.t0
    have ht1 := hc.t1
    have hc0 := hc.c0
    have M := frTo_mw hc n (by omega)
    rw [frTo_succ, frStep, slotA_eq hc (by omega) (by omega)]
    have hw : w64 (sA c n + 1) = sA c n + 1 := w64_id (by simp only [sA]; omega) (by simp only [sA]; omega)
    have hw2 : w64 ((n : Int) + 1) = n + 1 := w64_id (by omega) (by omega)
    rw [hw, hw2]
    have M2 := (M.st (a := sA c n) (putSlot ⟨0, 0, 1, 0⟩) (by simp only [sA]; omega) (by simp only [sA]; omega)).st (a := sA c n + 1) (putTop ((n : Int) + 1) 0) (by simp only [sA]; omega) (by simp only [sA]; omega)
    refine ⟨M2.len, fun a a0 a1 => ?_⟩
    rw [M2.at_ a a0 a1]
    simp only [upd]
    by_cases h1 : a = sA c n + 1
    · subst h1
      have c1 : sA c 0 ≤ sA c n + 1 ∧ sA c n + 1 < sA c ((n + 1 : Nat) : Int) := by simp only [sA]; omega
      have c2 : ¬ (sA c n + 1 - sA c 0) % 2 = 0 := by simp only [sA]; omega
      rw [if_pos rfl, frF, if_pos c1, if_neg c2]
      congr 1; simp only [sA]; omega
    · rw [if_neg h1]
      by_cases h2 : a = sA c n
      · subst h2
        have c1 : sA c 0 ≤ sA c n ∧ sA c n < sA c ((n + 1 : Nat) : Int) := by simp only [sA]; omega
        have c2 : (sA c n - sA c 0) % 2 = 0 := by simp only [sA]; omega
        rw [if_pos rfl, frF, if_pos c1, if_pos c2]
      · rw [if_neg h2, frF, frF]
        by_cases h3 : sA c 0 ≤ a ∧ a < sA c n
        · have c1 : sA c 0 ≤ a ∧ a < sA c ((n + 1 : Nat) : Int) := by simp only [sA] at h3 ⊢; omega
          rw [if_pos h3, if_pos c1]
        · have c1 : ¬ (sA c 0 ≤ a ∧ a < sA c ((n + 1 : Nat) : Int)) := by simp only [sA] at h1 h2 h3 ⊢; omega
          rw [if_neg h3, if_neg c1]
theorem fresh_mw (hc : CfgOk c) : Mw (freshM c) (bA c c.chunks) (freshF c) := by
  have hL := bA_ge hc (j := c.chunks) (by have := hc.c0; omega)
  have hs0 := hc.s0
  have hs1 := hc.s1
  have ht0 := hc.t0
  have ht1 := hc.t1
  have hc0 := hc.c0
  have M := frTo_mw hc c.slots.toNat (by omega)
  have hw : w64 (c.slots - 1) = c.slots - 1 := w64_id (by omega) (by omega)
  have hw2 : w64 (sA c (c.slots - 1) + 1) = sA c (c.slots - 1) + 1 := w64_id (by simp only [sA]; omega) (by simp only [sA]; omega)
  rw [freshM, hw, slotA_eq hc (by omega) (by omega), hw2]
  exact (M.st (putTop (-1) 0) (by simp only [sA]; omega) (by simp only [sA]; omega)).st (putTop 0 0) (by omega) (by omega)
def slotsFrom (n : Nat) : Nat → List Int
  | 0 => []
  | k + 1 => (n : Int) :: slotsFrom (n + 1) k
theorem slotsFrom_mem : ∀ {k n : Nat} {i : Int}, i ∈ slotsFrom n k ↔ (n : Int) ≤ i ∧ i < n + k
  | 0, n, i => by
    simp only [slotsFrom, List.not_mem_nil, false_iff]; omega
  | k + 1, n, i => by
    simp only [slotsFrom, List.mem_cons, slotsFrom_mem (k := k)]
    omega
theorem slotsFrom_nodup : ∀ (k n : Nat), (slotsFrom n k).Nodup
  | 0, n => List.nodup_nil
  | k + 1, n => List.nodup_cons.2 ⟨fun h => by have := slotsFrom_mem.1 h; omega, slotsFrom_nodup k (n + 1)⟩
theorem freshF_slot (hc : CfgOk c) {i : Int} (i0 : 0 ≤ i) (i1 : i < c.slots) : freshF c (sA c i) = putSlot ⟨0, 0, 1, 0⟩ ∧ freshF c (sA c i + 1) = putTop (if i = c.slots - 1 then -1 else i + 1) 0 := by
  have ht0 := hc.t0
  refine ⟨?_, ?_⟩
  · have c1 : sA c 0 ≤ sA c i ∧ sA c i < sA c (c.slots.toNat : Nat) := by simp only [sA]; omega
    have c2 : (sA c i - sA c 0) % 2 = 0 := by simp only [sA]; omega
    rw [freshF, upd_ne (by simp only [sA]; omega), upd_ne (by simp only [sA]; omega), frF, if_pos c1, if_pos c2]
  · rw [freshF, upd_ne (by simp only [sA]; omega)]
    by_cases h : i = c.slots - 1
    · rw [if_pos h, h, upd_self]
    · have c1 : sA c 0 ≤ sA c i + 1 ∧ sA c i + 1 < sA c (c.slots.toNat : Nat) := by simp only [sA]; omega
      have c2 : ¬ (sA c i + 1 - sA c 0) % 2 = 0 := by simp only [sA]; omega
      rw [if_neg h, upd_ne (by simp only [sA]; omega), frF, if_pos c1, if_neg c2]
      congr 1; simp only [sA]; omega
theorem freshF_zero (hc : CfgOk c) {a : Int} (h : a < 1 ∨ (1 < a ∧ a < sA c 0) ∨ 6 + c.threads + 2 * c.slots ≤ a) : freshF c a = 0 := by
  have ht0 := hc.t0
  have hs0 := hc.s0
  have c1 : ¬ (sA c 0 ≤ a ∧ a < sA c (c.slots.toNat : Nat)) := by simp only [sA] at h ⊢; omega
  rw [freshF, upd_ne (by simp only [sA] at h; omega), upd_ne (by simp only [sA] at h ⊢; omega), frF, if_neg c1]
theorem fresh_chain (hc : CfgOk c) : ∀ k n : Nat, (n : Int) + k = c.slots → ChainF c (freshF c) (slotsFrom n k)
    | 0, n, _ => trivial
    | k + 1, n, h => by
      have hs1 := hc.s1
      refine ⟨by omega, ?_, fresh_chain hc k (n + 1) (by omega)⟩
      rw [(freshF_slot hc (i := n) (by omega) (by omega)).2]
      cases k with
      | zero => rw [if_pos (by omega)]; exact topSlot_put (by omega) (by omega)
      | succ k => rw [if_neg (by omega)]; exact topSlot_put (by omega) (by omega)
end
end Go.FL

/- Each step is one step of the memory at most. No program in sight. -/
namespace Go.FL
open Go Go.SL

def Tk (m m' : MemS) : Prop := m'.steps = m.steps ∨ m'.steps = IntKind.i64.wrap (m.steps + 1)
section
variable {e : EnvS} {m : MemS}
theorem Tk.refl (m : MemS) : Tk m m := .inl rfl
theorem eld_tk (e : EnvS) (m : MemS) (a : Int) : Tk m (eld e m a).2 := by
  simp only [eld, MemS.ld]
  split
  · exact .inr rfl
  · exact .inl rfl
theorem est_tk (e : EnvS) (m : MemS) (a : Int) (w : Nat) : Tk m (est e m a w) := by
  simp only [est, MemS.st]
  split
  · exact .inr rfl
  · exact .inl rfl
theorem ecas_tk (e : EnvS) (m : MemS) (a : Int) (o w : Nat) : Tk m (ecas e m a o w).2 := by
  simp only [ecas, MemS.cas]
  split
  · split
    · exact .inr rfl
    · exact .inr rfl
  · exact .inl rfl
theorem eadd_tk (e : EnvS) (m : MemS) (a d : Int) : Tk m (eadd e m a d) := by
  simp only [eadd, MemS.add]
  split
  · exact .inr rfl
  · exact .inl rfl
theorem InS.tk (s : InS) : Tk m (s.step e m).2.2 := by
  unfold InS.step
  split
  · exact eld_tk ..
  · exact est_tk ..
  · simp only; split <;> exact eld_tk ..
theorem TakeS.tk (s : TakeS) : Tk m (s.step e m).2.2 := by
  unfold TakeS.step
  split
  · exact eld_tk ..
  · exact eld_tk ..
  · exact ecas_tk ..
theorem GiveS.tk (s : GiveS) : Tk m (s.step e m).2.2 := by
  unfold GiveS.step
  split
  · exact eld_tk ..
  · exact est_tk ..
  · exact ecas_tk ..
theorem PlaceS.tk (s : PlaceS) : Tk m (s.step e m).2.2 := by
  unfold PlaceS.step
  split
  · exact eld_tk ..
  · exact eld_tk ..
  · unfold PlaceS.get; simp only; split <;> exact ecas_tk ..
  · simp only; split <;> exact eld_tk ..
  · simp only; split <;> exact ecas_tk ..
  · exact ecas_tk ..
  · exact ecas_tk ..
theorem HelpS.tk (s : HelpS) : Tk m (s.step e m).2.2 := by
  unfold HelpS.step
  simp only
  split
  · exact ecas_tk ..
  · split
    · exact ecas_tk ..
    · exact eld_tk ..
theorem AllocS.tk (s : AllocS) : Tk m (s.step e m).2.2 := by
  unfold AllocS.step
  split
  · split
    · exact Tk.refl _
    · simp only; split
      · split <;> exact TakeS.tk ..
      · exact TakeS.tk ..
  · exact eld_tk ..
  · simp only; split
    · split <;> exact PlaceS.tk ..
    · exact PlaceS.tk ..
  · exact eadd_tk ..
  · exact est_tk ..
  · exact est_tk ..
  · exact est_tk ..
  · exact GiveS.tk ..
theorem DropS.tk (s : DropS) : Tk m (s.step e m).2.2 := by
  unfold DropS.step
  split
  · simp only; split
    · exact Tk.refl _
    · split <;> exact eld_tk ..
  · simp only; split
    · exact eld_tk ..
    · split <;> exact eld_tk ..
  · exact ecas_tk ..
  · simp only; split <;> exact HelpS.tk ..
  · exact HelpS.tk ..
  · exact eadd_tk ..
  · exact GiveS.tk ..
theorem AccessS.tk (s : AccessS) : Tk m (s.step e m).2.2 := by
  unfold AccessS.step
  split
  · simp only; split
    · exact Tk.refl _
    · split <;> exact eld_tk ..
  · simp only; split
    · exact eld_tk ..
    · split <;> exact eld_tk ..
  · exact eld_tk ..
  · exact ecas_tk ..
  · exact HelpS.tk ..
  · simp only; split <;> exact ecas_tk ..
  · simp only; split
    · exact eld_tk ..
    · split
      · exact eld_tk ..
      · split <;> exact eld_tk ..
theorem DoerS.tk (d : DoerS) : Tk m (d.step e m).2.2 := by
  cases d with
  | alloc s => exact s.tk
  | drop s => exact s.tk
  | access s => exact s.tk
theorem ActS.tk (s : ActS) : Tk m (s.step e m).2.2 := by
  unfold ActS.step
  split
  · exact InS.tk _
  · exact DoerS.tk _
  · exact est_tk ..
theorem ListS.tk (s : ListS) : Tk m (s.step e m).2.2 := by
  unfold ListS.step
  split
  · simp only; split <;> exact ActS.tk _
  · exact Tk.refl _
def Sb (m : MemS) (B : Nat) : Prop := 0 ≤ m.steps ∧ m.steps ≤ B
theorem Sb.tk {m' : MemS} {B : Nat} (h : Sb m B) (hb : B < 4611686018427387904) (t : Tk m m') : Sb m' (B + 1) ∧ m.steps ≤ m'.steps ∧ m'.steps ≤ m.steps + 1 := by
  obtain ⟨h0, h1⟩ := h
  rcases t with t | t
  · exact ⟨⟨by omega, by omega⟩, by omega, by omega⟩
  · rw [w64_id (by omega) (by omega)] at t
    exact ⟨⟨by omega, by omega⟩, by omega, by omega⟩
end
end Go.FL

/- Safety: a fresh arena; acts, one behind the other. No program in sight. -/
namespace Go.FL
open Go Go.SL
section
variable {c : Cfg} {K : CompS} {T : Th} {B : Nat} {m : MemS} {t : Nat}
theorem wd_fresh (hc : CfgOk c) : wd (freshM c) = freshF c := by
  have M := fresh_mw hc
  have hL := bA_pos hc
  have t0 := hc.t0
  have s0 := hc.s0
  have c0 := hc.c0
  funext a
  simp only [wd]
  by_cases h0 : 0 ≤ a
  · rw [if_pos h0]
    by_cases h1 : a < bA c c.chunks
    · exact M.at_ a h0 h1
    · rw [freshF_zero hc (.inr (.inr (by omega)))]
      have hl := M.len
      simp only [MemS.at, List.getD_eq_getElem?_getD]
      rw [List.getElem?_eq_none (by omega)]
      rfl
  · rw [if_neg h0, freshF_zero hc (.inl (by omega))]
theorem fresh_now (hc : CfgOk c) : Now c 0 (freshM c) (fun _ => none) newComp := by
  have M := fresh_mw hc
  have t0 := hc.t0
  have s0 := hc.s0
  have s1 := hc.s1
  have c0 := hc.c0
  have g0 := hc.g0
  refine ⟨M.len, ?_⟩
  rw [wd_fresh hc]
  have hsl : ∀ i, 0 ≤ i → i < c.slots → sl c (freshF c) i = ⟨0, 0, 1, 0⟩ := fun i i0 i1 => by
    simp only [sl, (freshF_slot hc i0 i1).1]
    exact slotOf_put (by simp) (by simp) (by simp) (by simp)
  have hck : ∀ j, 0 ≤ j → ck c (freshF c) j = ⟨0, 0, 0, 0⟩ := fun j j0 => by
    simp only [ck, freshF_zero hc (a := cA c j) (.inr (.inr (by simp only [cA]; omega)))]
    decide
  have f0 : freshF c 0 = 0 := freshF_zero hc (.inl (by omega))
  have f1 : freshF c 1 = putTop 0 0 := upd_self _ _ _
  refine ⟨by rw [f0]; omega, by rw [f1, topCount_put (by omega) (by omega)]; omega, ⟨slotsFrom 0 c.slots.toNat, ?_, fresh_chain hc _ 0 (by omega), slotsFrom_nodup _ _, fun i hi => ?_⟩, fun i i0 i1 => by rw [hsl i i0 i1]; show (1 : Int) ≤ 1 ∧ 1 ≤ c.gens; omega, fun i i0 i1 hl => ?_, fun i i0 i1 h2 => ?_, fun j j0 j1 => ?_, fun j a sp _ => ?_, fun _ _ s _ _ h => (by cases h), fun _ _ s _ _ h => (by cases h), fun _ s _ h => (by cases h), fun k k0 k1 => ?_, fun t s h => (by cases h), ?_⟩
  · rw [f1, topSlot_put (by omega) (by omega)]
    obtain ⟨n, hn⟩ : ∃ n, c.slots.toNat = n + 1 := ⟨c.slots.toNat - 1, by omega⟩
    rw [hn]; rfl
  · have := slotsFrom_mem.1 hi
    exact ⟨by rw [hsl i (by omega) (by omega)], fun t s h => (by cases h)⟩
  · rw [hsl i i0 i1] at hl
    rcases hl with l | l | l <;> simp at l
  · rw [hsl i i0 i1] at h2; simp at h2
  · have h := hck j j0
    refine ⟨fun _ => by rw [h], fun q => by rw [h] at q; exact absurd rfl q, by rw [h]; show (0 : Int) ≤ _; have := hc.w0; omega, fun o o0 o1 => ?_, fun q => by rw [h] at q; simp at q, fun q => by rw [h] at q; simp at q, fun q => by rw [h] at q; simp at q⟩
    rw [h] at o0
    have o0 : (0 : Int) ≤ o := o0
    have := bA_ge hc j0
    exact freshF_zero hc (.inr (.inr (by omega)))
  · have := sp.st
    rw [hck j sp.j0] at this
    exact absurd rfl this
  · rw [freshF_zero hc (.inr (.inl (by simp only [sA]; omega)))]; omega
  · exact ⟨fun _ => ⟨Int.le_refl 0, by show (0 : Int) < c.chunks; omega⟩, by show 0 ≤ 11; omega, fun _ => rfl, fun _ => rfl, fun x hx => (by cases hx), fun _ q => absurd rfl q, fun (q : 0 = 1) => by omega, fun (q : 0 = 2) => by omega, fun (q : 0 = 3) => by omega, fun (q : 4 ≤ 0) => by omega, fun (q : 0 = 4 ∨ 0 = 5) => by omega, fun (q : 0 = 4 ∨ 0 = 5) => by omega, fun (q : 6 ≤ 0) => by omega, fun (q : 0 = 5) => by omega, fun (q : 0 = 7 ∨ 0 = 8) => by omega, fun (q : 0 = 8) => by omega, fun (q : 0 = 10) => by omega, fun (q : 11 ≤ 0) => by omega⟩
theorem Now.weak {B' : Nat} (N : Now c B m T K) (h : B ≤ B') : Now c B' m T K :=
  ⟨N.len, ⟨by have := N.g.ep; omega, by have := N.g.tc; omega, N.g.fr, N.g.gn, N.g.ob, N.g.s2, N.g.ch, N.g.hd, N.g.oS, N.g.oP, N.g.oK, N.g.op, N.g.th, N.g.co⟩⟩
theorem upT_upT (T : Th) (t : Nat) (o o' : Option ActS) : upT (upT T t o) t o' = upT T t o' := by
  funext n; simp only [upT]; split <;> rfl
theorem upT_none {T : Th} {t : Nat} (h : T t = none) : upT T t none = T := by
  funext n; simp only [upT]; split
  · rename_i e; rw [e, h]
  · rfl
theorem Now.begin (N : Now c B m T K) (hT : T t = none) (ht : (t : Int) < c.threads) (x : ActX) : Now c B m (upT T t (some (newAct x))) K := ⟨N.len, N.g.begin hT ht x⟩
theorem till_now (hc : CfgOk c) : ∀ {n : Nat} {a a' : ActS} {m m' : MemS} {B : Nat}, actTill ⟨c, t⟩ n a m = some (a', m') → Now c B m (upT T t (some a)) K → T t = none → B + n < 34359738368 → Now c (B + n) m' T K
  | 0, a, a', m, m', B, h, N, hT, hB => by simp [actTill] at h
  | n + 1, a, a', m, m', B, h, N, hT, hB => by
    simp only [actTill] at h
    obtain ⟨h1, h2⟩ := act_step hc N (upT_self _ _ _) (by omega)
    rw [upT_upT] at h2
    rw [h1] at h
    simp only [if_true] at h
    cases hd : (a.step ⟨c, t⟩ m).1 with
    | true =>
      rw [hd] at h h2
      simp only [if_true, Option.some.injEq, Prod.mk.injEq] at h h2
      rw [upT_none hT] at h2
      rw [← h.2]
      exact h2.weak (by omega)
    | false =>
      rw [hd] at h h2
      simp only [Bool.false_eq_true, if_false] at h h2
      exact (till_now hc h h2 hT (by omega)).weak (by omega)
theorem fuel_eq : nodeFuel = 2000 := by unfold nodeFuel; rfl
theorem shelf_now (hc : CfgOk c) (ht : (t : Int) < c.threads) (hT : T t = none) : ∀ {n : Nat} {hs hs' : List Nat} {m m' : MemS} {x : Int} {B : Nat}, shelfRun ⟨c, t⟩ n hs m = some (x, hs', m') → Now c B m T K → B + 2000 * n < 34359738368 → Now c (B + 2000 * n) m' T K
  | 0, hs, hs', m, m', x, B, h, N, hB => by
    simp only [shelfRun, Option.some.injEq, Prod.mk.injEq] at h
    rw [← h.2.2]; exact N
  | n + 1, hs, hs', m, m', x, B, h, N, hB => by
    simp only [shelfRun] at h
    cases hr : actTill ⟨c, t⟩ nodeFuel (newAct nodeX) m with
    | none => rw [hr] at h; cases h
    | some r =>
      obtain ⟨a, m1⟩ := r
      rw [hr] at h
      simp only at h
      have hf := fuel_eq
      have N1 := till_now hc hr (N.begin hT ht nodeX) hT (by omega)
      split at h
      · exact (shelf_now hc ht hT h N1 (by omega)).weak (by omega)
      · simp only [Option.some.injEq, Prod.mk.injEq] at h
        rw [← h.2.2]; exact N1.weak (by omega)
theorem freshShelf_now (hc : CfgOk c) (ht : (t : Int) < c.threads) (hT : T t = none) {l : Int} {hs : List Nat} {m' : MemS} {x : Int} (h : freshShelf ⟨c, t⟩ l m = some (x, hs, m')) (N : Now c B m T K) (hB : B + 16000 < 34359738368) : Now c (B + 16000) m' T K := by
  unfold freshShelf at h
  split at h
  · simp only [Option.some.injEq, Prod.mk.injEq] at h
    rw [← h.2.2]; exact N.weak (by omega)
  · rename_i hl
    exact (shelf_now hc ht hT h N (by omega)).weak (by omega)
end
end Go.FL

/- Safety: a worker's steps. No program in sight. -/
namespace Go.FL
open Go Go.SL
section
variable {c : Cfg} {K : CompS} {T : Th} {B : Nat} {m : MemS} {t : Nat}
def DoS.cur : DoS → Option ActS
  | .act a => some a
  | .list l => l.a
def curW (s : WorkerS) : Option ActS := match s.work with
  | some d => d.cur
  | none => none
theorem fin_a (s : ListS) (x v st : Int) : (s.fin x v st).2.a = s.a := by unfold ListS.fin; simp only; split <;> rfl
theorem absent_a (s : ListS) : s.absent.2.a = s.a := by unfold ListS.absent; split; exact fin_a ..; rfl
theorem at_a (s : ListS) (p : Nat) (n st : Int) : (s.at p n st).2.a = s.a := by unfold ListS.at; simp only; split; exact absent_a _; rfl
theorem present_a (s : ListS) (st : Int) : (s.present st).2.a = s.a := by
  unfold ListS.present; split; rfl; split <;> exact fin_a ..
theorem after_a (s : ListS) (d : DoneS) : (s.after d).2.a = s.a := by
  unfold ListS.after
  split
  · unfold ListS.looked; repeat' split
    all_goals first | rfl | exact fin_a .. | exact at_a .. | exact present_a .. | exact absent_a _
  · unfold ListS.looked; repeat' split
    all_goals first | rfl | exact fin_a .. | exact at_a .. | exact present_a .. | exact absent_a _
  · unfold ListS.looked; repeat' split
    all_goals first | rfl | exact fin_a .. | exact at_a .. | exact present_a .. | exact absent_a _
  · unfold ListS.unlinked; repeat' split
    all_goals first | rfl | exact at_a ..
  · unfold ListS.unlinked; repeat' split
    all_goals first | rfl | exact at_a ..
  · unfold ListS.joined; repeat' split
    all_goals first | rfl | exact fin_a ..
  · unfold ListS.joined; repeat' split
    all_goals first | rfl | exact fin_a ..
  · unfold ListS.joined; repeat' split
    all_goals first | rfl | exact fin_a ..
  · unfold ListS.joined; repeat' split
    all_goals first | rfl | exact fin_a ..
  · unfold ListS.removed; repeat' split
    all_goals rfl
theorem list_now (hc : CfgOk c) {l : ListS} (N : Now c B m (upT T t l.a) K) (hT : T t = none) (ht : (t : Int) < c.threads) (hB : B < 34359738368) :
    l.wfb c = true ∧ Now c (B + 1) (l.step ⟨c, t⟩ m).2.2 (upT T t (l.step ⟨c, t⟩ m).2.1.a) K := by
  have key : ∀ a, l.acts = some a → Now c B m (upT T t (some a)) K → a.wfb c = true ∧ Now c (B + 1) (l.step ⟨c, t⟩ m).2.2 (upT T t (l.step ⟨c, t⟩ m).2.1.a) K := by
    intro a ha N
    obtain ⟨h1, h2⟩ := act_step hc N (upT_self _ _ _) hB
    rw [upT_upT] at h2
    refine ⟨h1, ?_⟩
    unfold ListS.step
    rw [ha]
    simp only
    cases hd : (a.step ⟨c, t⟩ m).1 with
    | true =>
      rw [hd] at h2
      simp only [if_true] at h2 ⊢
      rw [after_a]
      exact h2
    | false =>
      rw [hd] at h2
      simp only [Bool.false_eq_true, if_false] at h2 ⊢
      exact h2
  cases ha : l.a with
  | some a =>
    rw [ha] at N
    obtain ⟨h1, h2⟩ := key a (by unfold ListS.acts; rw [ha]) N
    exact ⟨by unfold ListS.wfb; rw [ha]; exact h1, h2⟩
  | none =>
    rw [ha, upT_none hT] at N
    refine ⟨by unfold ListS.wfb; rw [ha], ?_⟩
    by_cases hk : checkAct l.want = true
    · exact (key (newAct l.want) (by unfold ListS.acts; rw [ha]; simp only [hk, if_true]) (N.begin hT ht l.want)).2
    · have : l.acts = none := by unfold ListS.acts; rw [ha]; simp only [hk]; rfl
      unfold ListS.step
      rw [this]
      simp only
      rw [after_a]
      simp only
      rw [upT_none hT]
      exact N.weak (by omega)
theorem do_now (hc : CfgOk c) {d : DoS} (N : Now c B m (upT T t d.cur) K) (hT : T t = none) (ht : (t : Int) < c.threads) (hB : B < 34359738368) :
    d.wfb c = true ∧ Now c (B + 1) (d.step ⟨c, t⟩ m).2.2 (upT T t (if (d.step ⟨c, t⟩ m).1 then none else (d.step ⟨c, t⟩ m).2.1.cur)) K := by
  cases d with
  | act a =>
    obtain ⟨h1, h2⟩ := act_step hc N (upT_self _ _ _) hB
    rw [upT_upT] at h2
    exact ⟨h1, h2⟩
  | list l =>
    obtain ⟨h1, h2⟩ := list_now hc (l := l) N hT ht hB
    refine ⟨h1, ?_⟩
    show Now c (B + 1) (l.step ⟨c, t⟩ m).2.2 (upT T t (if (l.step ⟨c, t⟩ m).1 then none else (l.step ⟨c, t⟩ m).2.1.a)) K
    cases hd : (l.step ⟨c, t⟩ m).1 with
    | false => exact h2
    | true =>
      have : (l.step ⟨c, t⟩ m).2.1.a = none := by
        unfold ListS.step at hd ⊢
        split at hd
        · rename_i a ha
          simp only at hd ⊢
          split at hd
          · rename_i h; rw [if_pos h]; rw [after_a]
          · cases hd
        · rename_i ha
          simp only
          rw [after_a]
      rw [this] at h2
      exact h2
theorem go_now (hc : CfgOk c) {s : WorkerS} {d : DoS} (N : Now c B m (upT T t d.cur) K) (hT : T t = none) (ht : (t : Int) < c.threads) (hB : B < 34359738368) :
    d.wfb c = true ∧ Now c (B + 1) (s.go ⟨c, t⟩ d m).2 (upT T t (curW (s.go ⟨c, t⟩ d m).1)) K := by
  obtain ⟨h1, h2⟩ := do_now hc N hT ht hB
  refine ⟨h1, ?_⟩
  unfold WorkerS.go
  cases hd : (d.step ⟨c, t⟩ m).1 with
  | true =>
    simp only [hd, if_true] at h2 ⊢
    exact h2
  | false =>
    simp only [hd, Bool.false_eq_true, if_false] at h2 ⊢
    exact h2
theorem doOf_cur (hs : List Nat) (x : CallS) (h : Nat) : (doOf hs x h).cur = none ∨ ∃ y, (doOf hs x h).cur = some (newAct y) := by
  unfold doOf
  split
  · exact .inl rfl
  · exact .inr ⟨_, rfl⟩
theorem next_now {s s' : WorkerS} {hs : List Nat} {f : MadeF} {now : Int} (h : s.next hs f now = some s') (N : Now c B m (upT T t (curW s)) K) (hT : T t = none) (ht : (t : Int) < c.threads) :
    ∃ d, s'.work = some d ∧ Now c B m (upT T t d.cur) K := by
  unfold WorkerS.next at h
  cases hw : s.work with
  | some d =>
    rw [hw] at h
    cases h
    refine ⟨d, hw, ?_⟩
    have : curW s = d.cur := by unfold curW; rw [hw]
    rw [← this]; exact N
  | none =>
    rw [hw] at h
    have : curW s = none := by unfold curW; rw [hw]
    rw [this, upT_none hT] at N
    simp only at h
    unfold WorkerS.begin at h
    split at h
    · cases h
    · split at h
      · cases h
      · rename_i a q hq x hx
        cases h
        refine ⟨_, rfl, ?_⟩
        rcases doOf_cur hs x (hOf f s.told x) with h | ⟨y, h⟩
        · rw [h, upT_none hT]; exact N
        · rw [h]; exact N.begin hT ht y
theorem worker_now (hc : CfgOk c) {s : WorkerS} {hs : List Nat} {f : MadeF} (N : Now c B m (upT T t (curW s)) K) (hT : T t = none) (ht : (t : Int) < c.threads) (hB : B < 34359738368) :
    s.wfb c = true ∧ Now c (B + 1) (s.step ⟨c, t⟩ hs f m).2.2 (upT T t (curW (s.step ⟨c, t⟩ hs f m).2.1)) K := by
  refine ⟨?_, ?_⟩
  · unfold WorkerS.wfb
    cases hw : s.work with
    | none => rfl
    | some d =>
      have : curW s = d.cur := by unfold curW; rw [hw]
      rw [this] at N
      exact (do_now hc N hT ht hB).1
  · unfold WorkerS.step
    cases hn : s.next hs f m.steps with
    | none => exact N.weak (by omega)
    | some s' =>
      obtain ⟨d, hd, hN⟩ := next_now hn N hT ht
      simp only [hd]
      exact (go_now hc (s := s') hN hT ht hB).2
theorem WorkerS.tk (s : WorkerS) (e : EnvS) (hs : List Nat) (f : MadeF) (m : MemS) : Tk m (s.step e hs f m).2.2 ∧ ((s.step e hs f m).1 = false → (s.step e hs f m).2.2 = m) := by
  unfold WorkerS.step
  split
  · exact ⟨Tk.refl _, fun _ => rfl⟩
  · split
    · exact ⟨Tk.refl _, fun _ => rfl⟩
    · rename_i d _
      refine ⟨?_, fun h => by cases h⟩
      simp only
      have : Tk m (d.step e m).2.2 := by
        cases d with
        | act a => exact a.tk
        | list l => exact l.tk
      unfold WorkerS.go
      simp only
      split <;> exact this
end
end Go.FL

/- A worker whose call refers to what is not done, or made nothing, plainly: whatever it refers to, the run is that of nobody. No program in sight. -/
namespace Go.FL
open Go Go.SL
end Go.FL

/- Workers alone in a fresh arena: whatever their calls, each step is one step. No program in sight. -/
namespace Go.FL
set_option linter.unusedVariables false
set_option linter.unusedSimpArgs false
open Go Go.SL
theorem ok18 : CfgOk arena18.c := by constructor <;> decide
def t0 : Th := fun _ => none
def few18 : Bool := match begun18 with
  | none => false
  | some (hs, m) => decide (hs.length = 3) && decide (0 ≤ m.steps) && decide (m.steps ≤ 16000)
theorem few18_ok : few18 = true := by decide +kernel
theorem begun18_now {hs : List Nat} {m : MemS} (h : begun18 = some (hs, m)) : Now arena18.c 16000 m t0 newComp ∧ Sb m 16000 ∧ hs.length = 3 := by
  have hf := few18_ok
  unfold few18 at hf
  rw [h] at hf
  simp only [Bool.and_eq_true, decide_eq_true_eq] at hf
  refine ⟨?_, ⟨hf.1.2, hf.2⟩, hf.1.1⟩
  unfold begun18 at h
  cases hs' : freshShelf arena18 3 (freshM arena18.c) with
  | none => rw [hs'] at h; cases h
  | some r =>
    obtain ⟨x, l, m'⟩ := r
    rw [hs'] at h
    simp only at h
    by_cases hx : x = 0
    · rw [if_pos hx] at h
      cases h
      exact freshShelf_now (t := 0) ok18 (by decide) rfl hs' (fresh_now ok18) (by decide)
    · rw [if_neg hx] at h; cases h
def cutC (c : CallS) : CallS := ⟨arith .add .i64 1 (arith .rem .i64 (arith .add .i64 (arith .rem .i64 c.kind 8) 8) 8), c.size, if 0 ≤ c.who then arith .rem .i64 c.who 1 else c.who, c.at_, c.raw, c.index, arith .and .i64 c.value 1099511627775, arith .and .i64 c.old 1099511627775, arith .and .i64 c.key 15⟩
def cutL (l : List CallS) : List CallS := (l.take 30).map cutC
theorem kind8 (k : Int) : 1 ≤ arith .add .i64 1 (arith .rem .i64 (arith .add .i64 (arith .rem .i64 k 8) 8) 8) ∧ arith .add .i64 1 (arith .rem .i64 (arith .add .i64 (arith .rem .i64 k 8) 8) 8) ≤ 8 := by
  have h1 : -8 < k.tmod 8 ∧ k.tmod 8 < 8 := by
    have h1 := Int.tmod_lt_of_pos k (b := 8) (by decide)
    have h2 := Int.lt_tmod_of_pos k (b := 8) (by decide)
    omega
  have h2 : arith .rem .i64 k 8 = k.tmod 8 := rfl
  have h3 : arith .add .i64 (k.tmod 8) 8 = k.tmod 8 + 8 := w64_id (by omega) (by omega)
  have h4 : arith .rem .i64 (k.tmod 8 + 8) 8 = (k.tmod 8 + 8) % 8 := by
    show (k.tmod 8 + 8).tmod 8 = _
    exact Int.tmod_eq_emod_of_nonneg (by omega)
  have h5 : arith .add .i64 1 ((k.tmod 8 + 8) % 8) = 1 + (k.tmod 8 + 8) % 8 := w64_id (by omega) (by omega)
  simp only [h2, h3, h4, h5]
  omega
theorem checkAct_ok {x : ActX} (h : 1 ≤ x.kind ∧ x.kind ≤ 5 ∧ 0 ≤ x.value ∧ x.value ≤ 1099511627775 ∧ 0 ≤ x.old ∧ x.old ≤ 1099511627775) : checkAct x = true := by
  obtain ⟨a, b, c, d, e, f⟩ := h
  simp [checkAct, a, b, c, d, e, f]
theorem cut_ok (c : CallS) : badCall 3 (cutC c) = false := by
  have hk := kind8 c.kind
  have hv : ∀ x : Int, 0 ≤ arith .and .i64 x 1099511627775 ∧ arith .and .i64 x 1099511627775 ≤ 1099511627775 := fun x => by
    have h := andIo (n := x) (m := 1099511627775) (by omega)
    have := Nat.and_le_right (n := u64i x) (m := 1099511627775)
    rw [h]; omega
  have hx : 0 ≤ arith .and .i64 c.key 15 ∧ arith .and .i64 c.key 15 ≤ 15 := by
    have h := andIo (n := c.key) (m := 15) (by omega)
    have := Nat.and_le_right (n := u64i c.key) (m := 15)
    rw [h]; omega
  have h1 := hv c.value
  have h2 := hv c.old
  unfold badCall checkCall cutC
  simp only
  generalize arith .add .i64 1 (arith .rem .i64 (arith .add .i64 (arith .rem .i64 c.kind 8) 8) 8) = k at *
  generalize arith .and .i64 c.value 1099511627775 = v at *
  generalize arith .and .i64 c.old 1099511627775 = o at *
  generalize arith .and .i64 c.key 15 = x at *
  rw [if_neg (by omega)]
  have e0 : decide ((3 : Nat) = 0) = false := rfl
  rw [e0, Bool.and_false, Bool.or_false]
  split
  · simp only [checkList]
    rw [decide_eq_true (by omega), decide_eq_true (by omega), decide_eq_true (by omega), decide_eq_true (by omega)]; rfl
  · rw [checkAct_ok ⟨hk.1, by show k ≤ 5; omega, h1.1, h1.2, h2.1, h2.2⟩]; rfl
theorem cutL_may (l : List CallS) : mayWork 0 (cutL l) 3 = true := by
  have hl : (cutL l).length ≤ 30 := by unfold cutL; rw [List.length_map, List.length_take]; omega
  have hb : (cutL l).any (badCall 3) = false := by
    unfold cutL
    rw [List.any_eq_false]
    intro x hx
    obtain ⟨y, -, rfl⟩ := List.mem_map.1 hx
    rw [cut_ok]; simp
  unfold mayWork
  rw [hb, decide_eq_true (p := (cutL l).length ≤ 64) (by omega)]
  rfl
structure SI (i : Nat) (s : WorkerS) (m : MemS) : Prop where
  now : Now arena18.c (16000 + i) m (upT t0 0 (curW s)) newComp
  sb : Sb m (16000 + i)
theorem SI.new {hs : List Nat} {m : MemS} (h : begun18 = some (hs, m)) (me : Int) (l : List CallS) : SI 0 (newWorker me l) m := by
  obtain ⟨h1, h2, -⟩ := begun18_now h
  refine ⟨?_, h2⟩
  rw [show curW (newWorker me l) = none from rfl, upT_none rfl]
  exact h1
theorem SI.step {i : Nat} {s : WorkerS} {m : MemS} (S : SI i s m) (hi : i < 4000) (hs : List Nat) (f : MadeF) :
    s.wfb arena18.c = true ∧ SI (i + 1) (s.step arena18 hs f m).2.1 (s.step arena18 hs f m).2.2 ∧ m.steps ≤ (s.step arena18 hs f m).2.2.steps ∧ (s.step arena18 hs f m).2.2.steps ≤ m.steps + 1 ∧ ((s.step arena18 hs f m).1 = false → (s.step arena18 hs f m).2.2 = m) := by
  obtain ⟨h1, h2⟩ := worker_now (t := 0) ok18 (s := s) (hs := hs) (f := f) S.now rfl (by decide) (by omega)
  obtain ⟨h3, h4⟩ := s.tk arena18 hs f m
  obtain ⟨h5, h6, h7⟩ := S.sb.tk (by omega) h3
  exact ⟨h1, ⟨h2, h5⟩, h6, h7, h4⟩
theorem step_did {s : WorkerS} (hq : ∀ a ∈ s.q, 0 ≤ a ∧ a < s.l.length) (e : EnvS) (hs : List Nat) (f : MadeF) (m : MemS) : (s.step e hs f m).1 = !s.ended := by
  unfold WorkerS.step WorkerS.ended
  cases hw : s.work with
  | some d => simp only [WorkerS.next, hw]; rfl
  | none =>
    simp only [WorkerS.next, hw]
    cases hq' : s.q with
    | nil => simp only [WorkerS.begin, hq']; rfl
    | cons a q =>
      have ha := hq a (by rw [hq']; simp)
      simp only [WorkerS.begin, hq']
      have : s.l[a.toNat]? = some (s.l[a.toNat]'(by omega)) := List.getElem?_eq_getElem (by omega)
      rw [this]
      rfl
theorem step_same (s : WorkerS) (e : EnvS) (hs : List Nat) (f : MadeF) (m : MemS) (h : (s.step e hs f m).1 = false) : (s.step e hs f m).2.1 = s := by
  unfold WorkerS.step at h ⊢
  split
  · rfl
  · rename_i t ht
    rw [ht] at h
    simp only at h
    split
    · rfl
    · rename_i d hd
      rw [hd] at h
      cases h
end Go.FL

