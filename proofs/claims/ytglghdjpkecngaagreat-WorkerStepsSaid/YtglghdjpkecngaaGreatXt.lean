/- Texts of one claim, laid into one: CA CB FA TA TB TC TD TE TF TG TH TI TJ. -/
import Derived.Test.YtglghdjpkecngaaGreatBA
set_option linter.unusedVariables false
set_option linter.unusedSimpArgs false
/- The arena, alone: what words have in them, where things stand, memory as a function, steps one behind the other. No program in sight. -/
namespace Go.FL
set_option linter.unusedVariables false
set_option linter.unusedSimpArgs false
open Go Go.SL

theorem or_shl (x y k : Nat) (h : x < 2 ^ k) : x ||| y <<< k = x + y * 2 ^ k := by
  rw [Nat.or_comm, ← Nat.shiftLeft_add_eq_or_of_lt h, Nat.shiftLeft_eq, Nat.add_comm]
theorem fitN_eq {n : Int} {m : Nat} (h0 : 0 ≤ n) (h1 : n ≤ m) : fitN n m = n.toNat := by
  simp only [fitN]; exact Nat.min_eq_left (by omega)
theorem m2 (w : Nat) : w &&& 3 = w % 4 := Nat.and_two_pow_sub_one_eq_mod w 2
theorem m3 (w : Nat) : w &&& 7 = w % 8 := Nat.and_two_pow_sub_one_eq_mod w 3
theorem m6 (w : Nat) : w &&& 63 = w % 64 := Nat.and_two_pow_sub_one_eq_mod w 6
theorem m16 (w : Nat) : w &&& 65535 = w % 65536 := Nat.and_two_pow_sub_one_eq_mod w 16
theorem m17 (w : Nat) : w &&& 131071 = w % 131072 := Nat.and_two_pow_sub_one_eq_mod w 17
theorem m20 (w : Nat) : w &&& 1048575 = w % 1048576 := Nat.and_two_pow_sub_one_eq_mod w 20
theorem m22 (w : Nat) : w &&& 4194303 = w % 4194304 := Nat.and_two_pow_sub_one_eq_mod w 22
theorem m36 (w : Nat) : w &&& 68719476735 = w % 68719476736 := Nat.and_two_pow_sub_one_eq_mod w 36
theorem m1 (w : Nat) : w &&& 1 = w % 2 := Nat.and_two_pow_sub_one_eq_mod w 1
theorem putSlot_eq (s : SlotS) : putSlot s = fitN s.state 7 + fitN s.addr 1048575 * 8 + fitN s.gen 65535 * 8388608 + fitN s.ver 4194303 * 549755813888 := by
  have h1 := fitN_le s.state 7
  have h2 := fitN_le s.addr 1048575
  have h3 := fitN_le s.gen 65535
  unfold putSlot
  rw [or_shl _ _ 3 (by omega), or_shl _ _ 23 (by omega), or_shl _ _ 39 (by omega)]
theorem slotOf_put {s : SlotS} (h1 : 0 ≤ s.state ∧ s.state ≤ 7) (h2 : 0 ≤ s.addr ∧ s.addr ≤ 1048575) (h3 : 0 ≤ s.gen ∧ s.gen ≤ 65535) (h4 : 0 ≤ s.ver ∧ s.ver ≤ 4194303) : slotOf (putSlot s) = s := by
  obtain ⟨a, b, c, d⟩ := s
  simp only at h1 h2 h3 h4
  rw [putSlot_eq]
  simp only [slotOf, m3, m20, m16, m22, Nat.shiftRight_eq_div_pow, SlotS.mk.injEq]
  rw [fitN_eq h1.1 (by omega), fitN_eq h2.1 (by omega), fitN_eq h3.1 (by omega), fitN_eq h4.1 (by omega)]
  refine ⟨?_, ?_, ?_, ?_⟩ <;> omega
theorem putChunk_eq (s : ChunkS) : putChunk s = fitN s.state 3 + fitN s.cls 63 * 4 + fitN s.used 1048575 * 256 + fitN s.stamp 68719476735 * 268435456 := by
  have h1 := fitN_le s.state 3
  have h2 := fitN_le s.cls 63
  have h3 := fitN_le s.used 1048575
  unfold putChunk
  rw [or_shl _ _ 2 (by omega), or_shl _ _ 8 (by omega), or_shl _ _ 28 (by omega)]
theorem chunkOf_put {s : ChunkS} (h1 : 0 ≤ s.state ∧ s.state ≤ 3) (h2 : 0 ≤ s.cls ∧ s.cls ≤ 63) (h3 : 0 ≤ s.used ∧ s.used ≤ 1048575) :
    chunkOf (putChunk s) = ⟨s.state, s.cls, s.used, fitN s.stamp 68719476735⟩ := by
  obtain ⟨a, b, c, d⟩ := s
  simp only at h1 h2 h3 ⊢
  rw [putChunk_eq]
  have := fitN_le d 68719476735
  simp only [chunkOf, m2, m6, m20, m36, Nat.shiftRight_eq_div_pow, ChunkS.mk.injEq]
  rw [fitN_eq h1.1 (by omega), fitN_eq h2.1 (by omega), fitN_eq h3.1 (by omega)]
  refine ⟨?_, ?_, ?_, ?_⟩ <;> omega
theorem chunkOf_bd (w : Nat) : 0 ≤ (chunkOf w).state ∧ (chunkOf w).state ≤ 3 ∧ 0 ≤ (chunkOf w).cls ∧ (chunkOf w).cls ≤ 63 ∧ 0 ≤ (chunkOf w).used ∧ (chunkOf w).used ≤ 1048575 ∧ 0 ≤ (chunkOf w).stamp ∧ (chunkOf w).stamp ≤ 68719476735 := by
  simp only [chunkOf, m2, m6, m20, m36]; omega
theorem slotOf_bd (w : Nat) : 0 ≤ (slotOf w).state ∧ (slotOf w).state ≤ 7 ∧ 0 ≤ (slotOf w).addr ∧ (slotOf w).addr ≤ 1048575 ∧ 0 ≤ (slotOf w).gen ∧ (slotOf w).gen ≤ 65535 ∧ 0 ≤ (slotOf w).ver ∧ (slotOf w).ver ≤ 4194303 := by
  simp only [slotOf, m3, m16, m20, m22]; omega
theorem or50 (X : Nat) (hX : X < 2 ^ 50) : X ||| 1125899906842624 = X + 1125899906842624 := by
  have e := or_shl X 1 50 hX
  rw [show (1 : Nat) <<< 50 = 1125899906842624 by simp] at e
  rw [e, Nat.one_mul]
theorem putHead_eq (h : HeadS) : putHead h = fitN h.kind 3 + fitN h.size 65535 * 4 + fitN h.slot 65535 * 262144 + fitN h.gen 65535 * 17179869184 + (if h.own then 1125899906842624 else 0) := by
  have h1 := fitN_le h.kind 3
  have h2 := fitN_le h.size 65535
  have h3 := fitN_le h.slot 65535
  have h4 := fitN_le h.gen 65535
  unfold putHead
  simp only
  rw [or_shl _ _ 2 (by omega), or_shl _ _ 18 (by omega), or_shl _ _ 34 (by omega)]
  cases h.own
  · simp only [Bool.false_eq_true, if_false]; omega
  · simp only [if_true]
    rw [or50 _ (by omega)]
theorem headOf_put {h : HeadS} (h1 : 0 ≤ h.kind ∧ h.kind ≤ 3) (h2 : 0 ≤ h.size ∧ h.size ≤ 65535) (h3 : 0 ≤ h.slot ∧ h.slot ≤ 65535) (h4 : 0 ≤ h.gen ∧ h.gen ≤ 65535) : headOf (putHead h) = h := by
  obtain ⟨a, b, c, d, o⟩ := h
  simp only at h1 h2 h3 h4
  rw [putHead_eq]
  simp only [headOf, m2, m16, m1, Nat.shiftRight_eq_div_pow, HeadS.mk.injEq]
  rw [fitN_eq h1.1 (by omega), fitN_eq h2.1 (by omega), fitN_eq h3.1 (by omega), fitN_eq h4.1 (by omega)]
  cases o
  · refine ⟨?_, ?_, ?_, ?_, ?_⟩ <;> first | (simp only [Bool.false_eq_true, if_false]; omega) | skip
    rw [beq_false]; simp only [Bool.false_eq_true, if_false]; omega
  · refine ⟨?_, ?_, ?_, ?_, ?_⟩ <;> first | (simp only [if_true]; omega) | skip
    rw [beq_true]; simp only [if_true]; omega
theorem topSlot_put {s n : Int} (h0 : -1 ≤ s) (h1 : s ≤ 65535) : topSlot (putTop s n) = s := by
  have e : fitN (IntKind.i64.wrap (min s 65535 + 1)) 65536 = (s + 1).toNat := by
    rw [w64_id (by omega) (by omega), fitN_eq (by omega) (by omega)]; omega
  simp only [topSlot, putTop, e]
  rw [or_shl _ _ 17 (by omega), m17]; omega
def sA (c : Cfg) (i : Int) : Int := 6 + c.threads + 2 * i
def cA (c : Cfg) (j : Int) : Int := 6 + c.threads + 2 * c.slots + 3 * j
def bA (c : Cfg) (j : Int) : Int := 6 + c.threads + 2 * c.slots + 3 * c.chunks + c.words * j
theorem bA_mono {c : Cfg} (h : CfgOk c) {i j : Int} (hij : i < j) : bA c i + c.words ≤ bA c j := by
  have h0 := h.w0
  have : c.words * (i + 1) ≤ c.words * j := Int.mul_le_mul_of_nonneg_left (by omega) (by omega)
  rw [Int.mul_add, Int.mul_one] at this
  simp only [bA]; omega
theorem bA_zero (c : Cfg) : bA c 0 = 6 + c.threads + 2 * c.slots + 3 * c.chunks := by simp [bA]
theorem bA_ge {c : Cfg} (h : CfgOk c) {j : Int} (hj : 0 ≤ j) : 6 + c.threads + 2 * c.slots + 3 * c.chunks ≤ bA c j := by
  have h0 := h.w0
  have : 0 ≤ c.words * j := Int.mul_nonneg (by omega) hj
  simp only [bA]; omega
theorem bA_le {c : Cfg} (h : CfgOk c) {j : Int} (hj : j < c.chunks) : bA c j + c.words ≤ bA c c.chunks := bA_mono h hj
theorem bA_bd {c : Cfg} (h : CfgOk c) : bA c c.chunks ≤ 200000 := by
  obtain ⟨t0, t1, s0, s1, c0, c1, w0, w1, _⟩ := h
  have : c.words * c.chunks ≤ 256 * 64 := Int.mul_le_mul w1 c1 (by omega) (by omega)
  simp only [bA]; omega
theorem slotA_eq {c : Cfg} (h : CfgOk c) {i : Int} (h0 : -1 ≤ i) (h1 : i ≤ 65536) : slotA c i = sA c i := by
  obtain ⟨t0, t1, _⟩ := h
  exact w64_id (by omega) (by omega)
theorem chunkA_eq {c : Cfg} (h : CfgOk c) {i : Int} (h0 : -1 ≤ i) (h1 : i ≤ 64) : chunkA c i = cA c i := by
  obtain ⟨t0, t1, s0, s1, _⟩ := h
  exact w64_id (by omega) (by omega)
theorem baseA_eq {c : Cfg} (h : CfgOk c) {j : Int} (h0 : 0 ≤ j) (h1 : j ≤ c.chunks) : baseA c j = bA c j := by
  have g0 := bA_ge h h0
  have g1 := bA_bd h
  have g2 : bA c j ≤ bA c c.chunks := by
    have := h.w0
    rcases Int.lt_or_eq_of_le h1 with h2 | h2
    · have := bA_le h h2; omega
    · rw [h2]; omega
  obtain ⟨t0, t1, s0, s1, c0, c1, w0, w1, _⟩ := h
  exact w64_id (by simp only [bA] at g0 g1 g2; omega) (by simp only [bA] at g0 g1 g2; omega)
theorem lenA_eq {c : Cfg} (h : CfgOk c) : lenA c = bA c c.chunks := baseA_eq h (by have := h.c0; omega) (by omega)
theorem ofA_eq {c : Cfg} (h : CfgOk c) {j off : Int} (h0 : 0 ≤ j) (h1 : j < c.chunks) (h2 : 0 ≤ off) (h3 : off < c.words) : ofA c (bA c j + off) = j := by
  have hw := h.w0
  have g0 := bA_ge h h0
  have g1 := bA_bd h
  have g2 := bA_le h h1
  have hc := h.c1
  have e0 := bA_zero c
  have q0 := baseA_eq h (j := 0) (by omega) (by have := h.c0; omega)
  unfold ofA
  rw [q0, lenA_eq h, if_neg (by omega)]
  have e1 : bA c j + off - bA c 0 = c.words * j + off := by simp only [bA]; omega
  have hb : c.words * j + off ≤ 200000 := by
    have a1 := h.t0; have a2 := h.s0; have a3 := h.c0
    simp only [bA] at g1 g2; omega
  have hp : 0 ≤ c.words * j := Int.mul_nonneg (by omega) h0
  rw [e1]
  show IntKind.i64.wrap ((IntKind.i64.wrap _).tdiv _) = _
  have e2 : IntKind.i64.wrap (c.words * j + off) = c.words * j + off := w64_id (by omega) (by omega)
  rw [e2, Int.tdiv_eq_ediv_of_nonneg (by omega), Int.add_comm, Int.add_mul_ediv_left _ _ (by omega), Int.ediv_eq_zero_of_lt h2 h3]
  rw [Int.zero_add]
  exact w64_id (by omega) (by omega)
theorem room_cases {k : Int} (h0 : 0 ≤ k) (h1 : k < 4) : (k = 0 ∧ roomA k = 3) ∨ (k = 1 ∧ roomA k = 5) ∨ (k = 2 ∧ roomA k = 9) ∨ (k = 3 ∧ roomA k = 17) := by
  rcases (by omega : k = 0 ∨ k = 1 ∨ k = 2 ∨ k = 3) with rfl | rfl | rfl | rfl
  · exact .inl ⟨rfl, by decide⟩
  · exact .inr (.inl ⟨rfl, by decide⟩)
  · exact .inr (.inr (.inl ⟨rfl, by decide⟩))
  · exact .inr (.inr (.inr ⟨rfl, by decide⟩))
theorem class_cases {z : Int} (h0 : 1 ≤ z) (h1 : z ≤ 16) : 0 ≤ classA z ∧ classA z < 4 ∧ z + 1 ≤ roomA (classA z) := by
  unfold classA
  rw [if_neg (by omega)]
  split
  · exact ⟨by omega, by omega, by rw [show roomA 0 = 3 by decide]; omega⟩
  split
  · exact ⟨by omega, by omega, by rw [show roomA 1 = 5 by decide]; omega⟩
  split
  · exact ⟨by omega, by omega, by rw [show roomA 2 = 9 by decide]; omega⟩
  first | rw [if_pos h1] | skip
  exact ⟨by omega, by omega, by rw [show roomA 3 = 17 by decide]; omega⟩
theorem class_neg {z : Int} (h : z < 1 ∨ 16 < z) : classA z = -1 := by
  unfold classA
  rcases h with h | h
  · rw [if_pos h]
  · rw [if_neg (by omega), if_neg (by omega), if_neg (by omega), if_neg (by omega), if_neg (by omega)]

def upd (f : Int → Nat) (a : Int) (w : Nat) : Int → Nat := fun b => if b = a then w else f b
theorem upd_self (f : Int → Nat) (a : Int) (w : Nat) : upd f a w a = w := by simp [upd]
theorem upd_ne {f : Int → Nat} {a b : Int} {w : Nat} (h : b ≠ a) : upd f a w b = f b := by simp [upd, h]
structure Mv (m : MemS) (L q : Int) (p : Nat) (f : Int → Nat) : Prop where
  len : (m.cs.length : Int) = L
  at_ : ∀ a, 0 ≤ a → a < L → a ≠ q → (m.at a).1 = f a
  pin : (m.at q).1 = p
  qr : 0 ≤ q ∧ q < L
theorem MemS.lay_at (m : MemS) {a b : Int} (w : Nat) (ha : 0 ≤ a) (ha2 : a < m.cs.length) (hb : 0 ≤ b) : ((m.lay a w).at b).1 = if b = a then w else (m.at b).1 := by
  have hk : a.toNat < m.cs.length := by omega
  simp only [MemS.at, MemS.lay, List.getD_eq_getElem?_getD]
  by_cases h : b = a
  · rw [if_pos h, h, List.getElem?_set_self hk]; rfl
  · rw [if_neg h, List.getElem?_set_ne (by omega)]
theorem MemS.lay_len (m : MemS) (a : Int) (w : Nat) : (m.lay a w).cs.length = m.cs.length := by simp [MemS.lay]
section
variable {m : MemS} {L q : Int} {p : Nat} {f : Int → Nat} {e : EnvS} {a : Int}
theorem Mv.inR (M : Mv m L q p f) (h0 : 0 ≤ a) (h1 : a < L) : (m.by e.who).inR a = true := by
  have hl := M.len
  have h2 : a < (m.cs.length : Int) := by omega
  exact Bool.and_eq_true_iff.2 ⟨decide_eq_true h0, decide_eq_true h2⟩
theorem Mv.ld (M : Mv m L q p f) (e : EnvS) (h0 : 0 ≤ a) (h1 : a < L) (h2 : a ≠ q) : ∃ m', eld e m a = (f a, m') ∧ Mv m' L q p f ∧ m'.la = a := by
  refine ⟨(m.by e.who).tick a, ?_, ⟨M.len, M.at_, M.pin, M.qr⟩, rfl⟩
  simp only [eld, MemS.ld, M.inR h0 h1, if_true]
  rw [← M.at_ a h0 h1 h2]; rfl
theorem Mv.st (M : Mv m L q p f) (e : EnvS) (w : Nat) (h0 : 0 ≤ a) (h1 : a < L) (h2 : a ≠ q) : Mv (est e m a w) L q p (upd f a w) ∧ (est e m a w).la = a := by
  have hl := M.len
  have hs : est e m a w = ((m.by e.who).tick a).lay a w := by simp only [est, MemS.st, M.inR h0 h1, if_true]
  rw [hs]
  refine ⟨⟨by rw [MemS.lay_len]; exact hl, fun b hb hb1 hb2 => ?_, ?_, M.qr⟩, rfl⟩
  · rw [MemS.lay_at _ _ h0 (by show a < (m.cs.length : Int); omega) hb]
    simp only [upd]
    split
    · rfl
    · exact M.at_ b hb hb1 hb2
  · rw [MemS.lay_at _ _ h0 (by show a < (m.cs.length : Int); omega) M.qr.1, if_neg (Ne.symm h2)]
    exact M.pin
theorem Mv.casT (M : Mv m L q p f) (e : EnvS) {old : Nat} (w : Nat) (h0 : 0 ≤ a) (h1 : a < L) (h2 : a ≠ q) (h : f a = old) : ∃ m', ecas e m a old w = (true, m') ∧ Mv m' L q p (upd f a w) ∧ m'.la = a := by
  refine ⟨est e m a w, ?_, M.st e w h0 h1 h2⟩
  have hb : Nat.beq ((m.by e.who).at a).1 old = true := by rw [beq_true, ← h]; exact M.at_ a h0 h1 h2
  simp only [ecas, MemS.cas, M.inR h0 h1, if_true, hb, est, MemS.st]
theorem Mv.casF (M : Mv m L q p f) (e : EnvS) {old : Nat} (w : Nat) (h0 : 0 ≤ a) (h1 : a < L) (h2 : a ≠ q) (h : f a ≠ old) : ∃ m', ecas e m a old w = (false, m') ∧ Mv m' L q p f ∧ m'.la = a := by
  refine ⟨(m.by e.who).tick a, ?_, ⟨M.len, M.at_, M.pin, M.qr⟩, rfl⟩
  have hb : Nat.beq ((m.by e.who).at a).1 old = false := by rw [beq_false]; rw [show ((m.by e.who).at a).1 = f a from M.at_ a h0 h1 h2]; exact h
  simp [ecas, MemS.cas, M.inR h0 h1, hb]
theorem Mv.add (M : Mv m L q p f) (e : EnvS) (d : Int) (h0 : 0 ≤ a) (h1 : a < L) (h2 : a ≠ q) : Mv (eadd e m a d) L q p (upd f a (((f a : Int) + d) % 18446744073709551616).toNat) ∧ (eadd e m a d).la = a := by
  have hs : eadd e m a d = est e m a (((f a : Int) + d) % 18446744073709551616).toNat := by
    simp only [eadd, MemS.add, est, MemS.st]
    rw [show ((m.by e.who).at a).1 = f a from M.at_ a h0 h1 h2]
  rw [hs]; exact M.st e _ h0 h1 h2
theorem Mv.pinned (M : Mv m L q p f) (e : EnvS) (w : Nat) : Mv (est e m q w) L q w f ∧ (est e m q w).la = q := by
  have hl := M.len
  have hq := M.qr
  have hs : est e m q w = ((m.by e.who).tick q).lay q w := by simp only [est, MemS.st, M.inR hq.1 hq.2, if_true]
  rw [hs]
  refine ⟨⟨by rw [MemS.lay_len]; exact hl, fun b hb hb1 hb2 => ?_, ?_, M.qr⟩, rfl⟩
  · rw [MemS.lay_at _ _ hq.1 (by show q < (m.cs.length : Int); omega) hb, if_neg hb2]
    exact M.at_ b hb hb1 hb2
  · rw [MemS.lay_at _ _ hq.1 (by show q < (m.cs.length : Int); omega) hq.1, if_pos rfl]
theorem Mv.congr {g : Int → Nat} (M : Mv m L q p f) (h : ∀ a, 0 ≤ a → a < L → f a = g a) : Mv m L q p g :=
  ⟨M.len, fun a h0 h1 h2 => by rw [M.at_ a h0 h1 h2, h a h0 h1], M.pin, M.qr⟩
end

inductive Fl {S : Type} (wf : S → Bool) (step : S → MemS → Bool × S × MemS) (Φ : MemS → Prop) : Nat → S → MemS → S → MemS → Prop
  | nil {s m} : Fl wf step Φ 0 s m s m
  | cons {n s m s1 m1 s2 m2} : wf s = true → step s m = (false, s1, m1) → Φ m1 → Fl wf step Φ n s1 m1 s2 m2 → Fl wf step Φ (n + 1) s m s2 m2
section
variable {S : Type} {wf : S → Bool} {step : S → MemS → Bool × S × MemS} {Φ : MemS → Prop}
theorem Fl.trans {n k : Nat} {s s1 s2 : S} {m m1 m2 : MemS} (h : Fl wf step Φ n s m s1 m1) (g : Fl wf step Φ k s1 m1 s2 m2) : Fl wf step Φ (n + k) s m s2 m2 := by
  induction h with
  | nil => rw [Nat.zero_add]; exact g
  | cons h1 h2 h3 _ ih => rw [Nat.add_right_comm]; exact .cons h1 h2 h3 (ih g)
theorem Fl.one {s s1 : S} {m m1 : MemS} (h1 : wf s = true) (h2 : step s m = (false, s1, m1)) (h3 : Φ m1) : Fl wf step Φ 1 s m s1 m1 := .cons h1 h2 h3 .nil
structure Rn (wf : S → Bool) (step : S → MemS → Bool × S × MemS) (Φ : MemS → Prop) (n : Nat) (s : S) (m : MemS) (s' : S) (m' : MemS) : Prop where
  ex : ∃ k s1 m1, n = k + 1 ∧ Fl wf step Φ k s m s1 m1 ∧ wf s1 = true ∧ step s1 m1 = (true, s', m') ∧ Φ m'
theorem Fl.rn {n k : Nat} {s s1 s2 : S} {m m1 m2 : MemS} (h : Fl wf step Φ n s m s1 m1) (g : Rn wf step Φ k s1 m1 s2 m2) : Rn wf step Φ (n + k) s m s2 m2 := by
  obtain ⟨j, s3, m3, rfl, g1, g2⟩ := g.ex
  exact ⟨n + j, s3, m3, by omega, h.trans g1, g2⟩
theorem Rn.more {n : Nat} {s s1 s2 : S} {m m1 m2 : MemS} (h1 : wf s = true) (h2 : step s m = (false, s1, m1)) (h3 : Φ m1) (g : Rn wf step Φ n s1 m1 s2 m2) : Rn wf step Φ (n + 1) s m s2 m2 := by
  rw [Nat.add_comm]; exact (Fl.one h1 h2 h3).rn g
theorem Fl.map {T : Type} {wf' : T → Bool} {step' : T → MemS → Bool × T × MemS} {Φ' : MemS → Prop} (g : S → T) (hw : ∀ s, wf s = true → wf' (g s) = true)
    (hs : ∀ s m s1 m1, step s m = (false, s1, m1) → step' (g s) m = (false, g s1, m1)) (hΦ : ∀ m, Φ m → Φ' m) {n : Nat} {s s1 : S} {m m1 : MemS} (h : Fl wf step Φ n s m s1 m1) : Fl wf' step' Φ' n (g s) m (g s1) m1 := by
  induction h with
  | nil => exact .nil
  | cons h1 h2 h3 _ ih => exact .cons (hw _ h1) (hs _ _ _ _ h2) (hΦ _ h3) ih
end
end Go.FL

/- The arena, alone: what it must be; words are got of chunks. -/
namespace Go.FL
open Go Go.SL

def slF (c : Cfg) (f : Int → Nat) (i : Int) : SlotS := slotOf (f (sA c i))
def ckF (c : Cfg) (f : Int → Nat) (j : Int) : ChunkS := chunkOf (f (cA c j))
def hdF (f : Int → Nat) (a : Int) : HeadS := headOf (f a)
def headI : List Int → Int
  | [] => -1
  | i :: _ => i
def ChainF (c : Cfg) (f : Int → Nat) : List Int → Prop
  | [] => True
  | i :: F => (0 ≤ i ∧ i < c.slots) ∧ topSlot (f (sA c i + 1)) = headI F ∧ ChainF c f F
structure ObjAt (c : Cfg) (f : Int → Nat) (s : SlotS) (j off : Int) : Prop where
  j0 : 0 ≤ j
  j1 : j < c.chunks
  o0 : 0 ≤ off
  ad : s.addr = bA c j + off
  st : (ckF c f j).state = 1
  z0 : 1 ≤ (hdF f s.addr).size
  z1 : (hdF f s.addr).size ≤ 16
  us : off + 1 + (hdF f s.addr).size ≤ (ckF c f j).used
  ce : ∀ t, 0 ≤ t → t < (hdF f s.addr).size → f (s.addr + 1 + t) < 1099511627776
  ver : s.ver = 0
  live : s.state = 1
structure ChunkOk (c : Cfg) (f : Int → Nat) (j : Int) : Prop where
  st : ((ckF c f j).state = 0 ∧ (ckF c f j).used = 0) ∨ (ckF c f j).state = 1
  us : (ckF c f j).used ≤ c.words
  ze : ∀ off, (ckF c f j).used ≤ off → off < c.words → f (bA c j + off) = 0
structure Inv (c : Cfg) (f : Int → Nat) (F : List Int) : Prop where
  ep : f 0 < 9223372036854775808
  top : topSlot (f 1) = headI F
  chain : ChainF c f F
  nodup : F.Nodup
  fst : ∀ i ∈ F, (slF c f i).state = 0
  gen : ∀ i, 0 ≤ i → i < c.slots → 1 ≤ (slF c f i).gen ∧ (slF c f i).gen ≤ c.gens
  obj : ∀ i, 0 ≤ i → i < c.slots → (slF c f i).state = 0 ∨ (slF c f i).state = 3 ∨ ∃ j off, ObjAt c f (slF c f i) j off
  dis : ∀ i i', 0 ≤ i → i < c.slots → 0 ≤ i' → i' < c.slots → (slF c f i).state = 1 → (slF c f i').state = 1 → i ≠ i' →
    (slF c f i).addr + (hdF f (slF c f i).addr).size < (slF c f i').addr ∨ (slF c f i').addr + (hdF f (slF c f i').addr).size < (slF c f i).addr
  chk : ∀ j, 0 ≤ j → j < c.chunks → ChunkOk c f j
  opn : ∀ k, 0 ≤ k → k < 4 → f (2 + k) = 0 ∨ ∃ j, 0 ≤ j ∧ j < c.chunks ∧ f (2 + k) = (j + 1).toNat ∧ (ckF c f j).state = 1 ∧ (ckF c f j).cls = k
theorem ChainF.mem {c : Cfg} {f : Int → Nat} : ∀ {F : List Int}, ChainF c f F → ∀ i ∈ F, 0 ≤ i ∧ i < c.slots
  | _ :: _, h, i, hi => by
    rcases List.mem_cons.1 hi with rfl | hi
    · exact h.1
    · exact ChainF.mem h.2.2 i hi
theorem ChainF.congr {c : Cfg} {f g : Int → Nat} : ∀ {F : List Int}, ChainF c f F → (∀ i ∈ F, g (sA c i + 1) = f (sA c i + 1)) → ChainF c g F
  | [], _, _ => trivial
  | i :: F, h, e => ⟨h.1, by rw [e i (by simp)]; exact h.2.1, ChainF.congr h.2.2 fun k hk => e k (by simp [hk])⟩
theorem ObjAt.bd {c : Cfg} {f : Int → Nat} {s : SlotS} {j off : Int} (hc : CfgOk c) (o : ObjAt c f s j off) (h : (ckF c f j).used ≤ c.words) :
    6 + c.threads + 2 * c.slots + 3 * c.chunks ≤ s.addr ∧ s.addr + (hdF f s.addr).size < bA c c.chunks := by
  have h1 := bA_ge hc o.j0
  have h2 := bA_le hc o.j1
  have h3 := o.us
  have h4 := o.ad
  have h5 := o.o0
  omega

structure Who (c : Cfg) (e : EnvS) (q : Int) : Prop where
  ec : e.c = c
  q0 : 6 ≤ q
  q1 : q < 6 + c.threads
  qe : pinA e.who = q
section
variable {c : Cfg} {f : Int → Nat} {F : List Int} {m : MemS} {q : Int} {p : Nat} {e : EnvS}
theorem openA_eq {k : Int} (h0 : 0 ≤ k) (h1 : k < 4) : openA k = 2 + k := w64_id (by omega) (by omega)
end
end Go.FL

/- The compactor, plainly, step by step: epochs, moves, chunks. No program in sight. -/
namespace Go.FL
set_option linter.unusedVariables false
set_option linter.unusedSimpArgs false
open Go Go.SL

structure AdvS where
  pc : Nat
  now : Nat
  at_ : Int
  went : Bool
def AdvS.step (s : AdvS) (e : EnvS) (m : MemS) : Bool × AdvS × MemS :=
  match s.pc with
  | 0 => let r := eld e m 0; (false, { s with now := r.1, pc := 1 }, r.2)
  | 1 => let r := eld e m (pinA s.at_)
    if r.1 ≠ 0 ∧ r.1 ≠ inc64 s.now then (true, s, r.2)
    else (false, { s with at_ := w64 (s.at_ + 1), pc := if w64 (s.at_ + 1) ≥ e.c.threads then 2 else 1 }, r.2)
  | _ => let r := ecas e m 0 s.now (inc64 s.now); (true, { s with went := r.1 }, r.2)
structure SetS where
  chunk : Int
  pc : Nat
  w : Nat
  since : Nat
  at_ : Int
  freed : Bool
def newSet (chunk : Int) : SetS := ⟨chunk, 0, 0, 0, 0, false⟩
def SetS.step (s : SetS) (e : EnvS) (m : MemS) : Bool × SetS × MemS :=
  let a := chunkA e.c s.chunk
  match s.pc with
  | 0 => let r := eld e m a; (decide ((chunkOf r.1).state ≠ 3), { s with w := r.1, pc := 1 }, r.2)
  | 1 => let r := eld e m (w64 (a + 2)); (false, { s with since := r.1, pc := 2 }, r.2)
  | 2 => let r := eld e m 0; (decide (r.1 < (s.since + 2) % 18446744073709551616), { s with pc := 3 }, r.2)
  | 3 => (false, { s with at_ := w64 (s.at_ + 1), pc := if w64 (s.at_ + 1) ≥ (chunkOf s.w).used then 4 else 3 }, est e m (w64 (baseA e.c s.chunk + s.at_)) 0)
  | 4 => (false, { s with pc := 5 }, est e m (w64 (a + 1)) 0)
  | _ => (true, { s with freed := true }, est e m a (putChunk ⟨0, 0, 0, w64 ((chunkOf s.w).stamp + 1)⟩))

structure MoveS where
  addr : Int
  head : HeadS
  pc : Nat
  w : Nat
  p : Option PlaceS
  spot : Int
  chunk : Int
  got : Bool
  i : Int
  cell : Nat
  n : Int
  out : Int
def newMove (addr : Int) (head : HeadS) : MoveS := ⟨addr, head, 0, 0, none, 0, 0, false, 0, 0, 0, 0⟩
def MoveS.as (s : MoveS) (state addr more : Int) : Nat := putSlot ⟨state, addr, (slotOf s.w).gen, w64 ((slotOf s.w).ver + more)⟩
def MoveS.copied (s : MoveS) (kind : Int) : Nat := putHead { s.head with kind := kind }
def MoveS.fin (s : MoveS) (out : Int) : Bool × MoveS := (!s.got, if s.got then { s with out := out, pc := 11 } else { s with out := out })
def MoveS.see (s : MoveS) (x : SlotS) : Bool × MoveS :=
  if x.state = 4 ∧ x.gen = s.head.gen ∧ x.addr = s.addr then s.fin 3
  else if x.state ≠ 1 ∨ x.gen ≠ s.head.gen ∨ x.addr ≠ s.addr then s.fin 2
  else if x.ver ≥ 4194302 then s.fin 3
  else if s.got then (false, { s with pc := 3 })
  else (false, { s with p := some { place0 with cls := classA s.head.size }, pc := 1 })
def MoveS.step (s : MoveS) (e : EnvS) (m : MemS) : Bool × MoveS × MemS :=
  match s.pc with
  | 0 => let r := eld e m (slotA e.c s.head.slot)
    let q := MoveS.see { s with w := r.1 } (slotOf r.1)
    (q.1, q.2, r.2)
  | 1 => let r := (s.p.getD place0).step e m
    if r.1 then
      (if r.2.1.ok then (false, { s with p := some r.2.1, spot := r.2.1.addr, chunk := r.2.1.chunk, got := true, pc := 2 }, r.2.2)
       else (true, { s with p := some r.2.1, spot := 0, chunk := 0, got := false, pc := 2, out := 4 }, r.2.2))
    else (false, { s with p := some r.2.1 }, r.2.2)
  | 2 => (false, { s with pc := 3 }, est e m s.spot (s.copied 1))
  | 3 => let r := ecas e m (slotA e.c s.head.slot) s.w (s.as 2 s.addr 0)
    (false, { s with i := 0, pc := if r.1 then 4 else 0 }, r.2)
  | 4 => let r := eld e m (w64 (w64 (s.addr + 1) + s.i))
    let c := cellOf r.1
    (false, { s with cell := r.1, pc := if c.frozen && decide (c.ver = (slotOf s.w).ver) then 6 else 5 }, r.2)
  | 5 => let r := ecas e m (w64 (w64 (s.addr + 1) + s.i)) s.cell (putCell ⟨(cellOf s.cell).value, true, (slotOf s.w).ver⟩)
    (false, { s with pc := if r.1 then 6 else 4 }, r.2)
  | 6 => (false, { s with i := w64 (s.i + 1), pc := if w64 (s.i + 1) ≥ s.head.size then 7 else 4 }, est e m (w64 (w64 (s.spot + 1) + s.i)) (putCell ⟨(cellOf s.cell).value, false, 0⟩))
  | 7 => let r := ecas e m (slotA e.c s.head.slot) (s.as 2 s.addr 0) (s.as 1 s.spot 1)
    if r.1 then (false, { s with pc := 8 }, r.2)
    else if w64 (s.n + 1) ≥ e.c.tries then
      let q := MoveS.fin { s with pc := 0, n := w64 (s.n + 1) } 3
      (q.1, q.2, r.2)
    else (false, { s with pc := 0, n := w64 (s.n + 1) }, r.2)
  | 8 => (false, { s with pc := 9 }, est e m s.spot (s.copied 2))
  | 9 => (false, { s with pc := 10 }, eadd e m (w64 (chunkA e.c s.chunk + 1)) (roomA (classA s.head.size)))
  | 10 => (true, { s with out := 1 }, eadd e m (w64 (chunkA e.c (ofA e.c s.addr) + 1)) (w64 (-roomA (classA s.head.size))))
  | _ => (true, s, est e m s.spot (s.copied 3))

structure SeenS where
  chunk : ChunkS
  live : Int
  opn : Bool
deriving DecidableEq
def seen0 : SeenS := ⟨⟨0, 0, 0, 0⟩, 0, false⟩
def mayS (c : Cfg) (s : SeenS) : Bool := decide (s.chunk.state = 1) && !s.opn && decide (s.chunk.used > 0) && (decide (s.live ≤ 0) || decide (w64 (1000 * s.live) < w64 (c.sparse * s.chunk.used)))
def stopS (c : Cfg) (l : List SeenS) (s : SeenS) (k : Nat) : Bool := (l.take k).any fun x => mayS c x && decide (x.live ≤ s.live)
def betterS (l : List SeenS) (a b : Int) : Int := if a ≥ 0 ∧ (l[a.toNat]?.getD seen0).live ≤ (l[b.toNat]?.getD seen0).live then a else b
def chooseTo (c : Cfg) (l : List SeenS) : Nat → Int
  | 0 => -1
  | i + 1 => if mayS c (l[i]?.getD seen0) && !stopS c l (l[i]?.getD seen0) i then betterS l (chooseTo c l i) i else chooseTo c l i
def chooseS (c : Cfg) (l : List SeenS) : Int := chooseTo c l l.length

structure WorkS where
  evacuated : Int
  left : Int
  freed : Int
  moved : Int
  rounds : Int
deriving DecidableEq
structure CompS where
  pc : Nat
  seen : List SeenS
  at_ : Int
  pos : Int
  w : Nat
  now : Nat
  m : Option MoveS
  a : Option AdvS
  s : Option SetS
  work : WorkS
  was : WorkS
  idle : Int
def work0 : WorkS := ⟨0, 0, 0, 0, 0⟩
def newComp : CompS := ⟨0, [], 0, 0, 0, 0, none, none, none, work0, work0, 0⟩
def CompS.as (s : CompS) (state : Int) : Nat := putChunk { chunkOf s.w with state := state, stamp := w64 ((chunkOf s.w).stamp + 1) }
def u2i (n : Nat) : Int := IntKind.i64.wrap n
def CompS.next (s : CompS) : CompS :=
  let x := chunkOf s.w
  { s with pos := w64 (s.pos + roomA x.cls), pc := if w64 (s.pos + roomA x.cls) ≥ x.used then 6 else 4 }
def CompS.moved (s : CompS) (out : Int) : CompS :=
  if out = 1 then CompS.next { s with work := { s.work with moved := w64 (s.work.moved + 1) } }
  else if out = 2 then s.next
  else { s with pc := 9 }
def CompS.round (s : CompS) : CompS :=
  let wk := { s.work with rounds := w64 (s.work.rounds + 1) }
  { s with at_ := 0, pc := 0, work := wk, was := wk, idle := if wk.evacuated ≠ s.was.evacuated ∨ wk.moved ≠ s.was.moved ∨ wk.freed ≠ s.was.freed then 0 else w64 (s.idle + 1) }
def CompS.step (s : CompS) (e : EnvS) (m : MemS) : CompS × MemS :=
  match s.pc with
  | 0 => let r := eld e m (chunkA e.c s.at_)
    ({ s with seen := (if s.at_ = 0 then [] else s.seen) ++ [⟨chunkOf r.1, 0, false⟩], pc := 1 }, r.2)
  | 1 => let r := eld e m (w64 (chunkA e.c s.at_ + 1))
    let l := s.seen.set s.at_.toNat { s.seen[s.at_.toNat]?.getD seen0 with live := u2i r.1 }
    (if w64 (s.at_ + 1) ≥ e.c.chunks then { s with seen := l, at_ := 0, pc := 2 } else { s with seen := l, at_ := w64 (s.at_ + 1), pc := 0 }, r.2)
  | 2 => let r := eld e m (openA s.at_)
    let n := u2i r.1
    let l := if n > 0 then s.seen.set (n - 1).toNat { s.seen[(n - 1).toNat]?.getD seen0 with opn := true } else s.seen
    (if w64 (s.at_ + 1) < 4 then { s with seen := l, at_ := w64 (s.at_ + 1) }
     else
      let k := chooseS e.c l
      if k < 0 then { s with seen := l, at_ := k, pc := 10 }
      else { s with seen := l, at_ := k, pc := 3, w := putChunk (l[k.toNat]?.getD seen0).chunk }, r.2)
  | 3 => let r := ecas e m (chunkA e.c s.at_) s.w (s.as 2)
    (if r.1 then { s with pos := 0, pc := 4, w := s.as 2 } else { s with pos := 0, pc := 10 }, r.2)
  | 4 => let a := w64 (baseA e.c s.at_ + s.pos)
    let r := eld e m a
    let h := headOf r.1
    (if h.kind = 3 then s.next else if h.kind = 2 then { s with m := some (newMove a h), pc := 5 } else { s with pc := 9 }, r.2)
  | 5 => let r := (s.m.getD (newMove 0 ⟨0, 0, 0, 0, false⟩)).step e m
    let s := { s with m := some r.2.1 }
    (if r.1 then s.moved r.2.1.out else s, r.2.2)
  | 6 => let r := eld e m 0
    ({ s with now := r.1, pc := 7 }, r.2)
  | 7 => ({ s with pc := 8 }, est e m (w64 (chunkA e.c s.at_ + 2)) s.now)
  | 8 => ({ s with work := { s.work with evacuated := w64 (s.work.evacuated + 1) }, pc := 10 }, est e m (chunkA e.c s.at_) (s.as 3))
  | 9 => ({ s with work := { s.work with left := w64 (s.work.left + 1) }, pc := 10 }, est e m (chunkA e.c s.at_) (s.as 1))
  | 10 => let r := (s.a.getD ⟨0, 0, 0, false⟩).step e m
    (if r.1 then { s with a := none, at_ := 0, pc := 11 } else { s with a := some r.2.1 }, r.2.2)
  | _ => let r := (s.s.getD (newSet s.at_)).step e m
    (if r.1 then
      let s := { s with s := none, work := if r.2.1.freed then { s.work with freed := w64 (s.work.freed + 1) } else s.work, at_ := w64 (s.at_ + 1) }
      if s.at_ ≥ e.c.chunks then s.round else s
     else { s with s := some r.2.1 }, r.2.2)
end Go.FL

/- Safety, whoever is picked: the words of the arena as a function; what everybody claims. No program in sight. -/
namespace Go.FL
set_option linter.unusedVariables false
set_option linter.unusedSimpArgs false
open Go Go.SL

def wd (m : MemS) : Int → Nat := fun a => if 0 ≤ a then (m.at a).1 else 0
theorem wd_lay (m : MemS) {a : Int} (w : Nat) (h0 : 0 ≤ a) (h1 : a < m.cs.length) : wd (m.lay a w) = upd (wd m) a w := by
  funext b
  simp only [wd, upd]
  by_cases hb : 0 ≤ b
  · rw [if_pos hb, if_pos hb, MemS.lay_at m w h0 h1 hb]
  · rw [if_neg hb, if_neg hb, if_neg (by omega)]
theorem wd_tick (m : MemS) (e : EnvS) (a : Int) : wd ((m.by e.who).tick a) = wd m := rfl
structure Mf (m : MemS) (L : Int) (f : Int → Nat) : Prop where
  len : (m.cs.length : Int) = L
  wd : wd m = f
section
variable {m : MemS} {L : Int} {f : Int → Nat} {a : Int}
theorem Mf.inR (M : Mf m L f) (e : EnvS) (h0 : 0 ≤ a) (h1 : a < L) : (m.by e.who).inR a = true := by
  have hl := M.len
  exact Bool.and_eq_true_iff.2 ⟨decide_eq_true h0, decide_eq_true (by show a < (m.cs.length : Int); omega)⟩
theorem Mf.at1 (M : Mf m L f) (e : EnvS) (h0 : 0 ≤ a) : ((m.by e.who).at a).1 = f a := by
  rw [← M.wd]; simp only [FL.wd, if_pos h0, MemS.at, MemS.by]
theorem Mf.ld (M : Mf m L f) (e : EnvS) (h0 : 0 ≤ a) (h1 : a < L) : ∃ m', eld e m a = (f a, m') ∧ Mf m' L f ∧ m'.steps = w64 (m.steps + 1) := by
  refine ⟨(m.by e.who).tick a, ?_, ⟨M.len, M.wd⟩, rfl⟩
  simp only [eld, MemS.ld, M.inR e h0 h1, if_true]
  rw [← M.at1 e h0]
theorem Mf.st (M : Mf m L f) (e : EnvS) (w : Nat) (h0 : 0 ≤ a) (h1 : a < L) : ∃ m', est e m a w = m' ∧ Mf m' L (upd f a w) ∧ m'.steps = w64 (m.steps + 1) := by
  have hl := M.len
  refine ⟨_, rfl, ?_⟩
  have hs : est e m a w = ((m.by e.who).tick a).lay a w := by simp only [est, MemS.st, M.inR e h0 h1, if_true]
  rw [hs]
  refine ⟨⟨by rw [MemS.lay_len]; exact hl, ?_⟩, rfl⟩
  rw [wd_lay _ _ h0 (by show a < (m.cs.length : Int); omega), wd_tick, M.wd]
theorem Mf.casT (M : Mf m L f) (e : EnvS) {old : Nat} (w : Nat) (h0 : 0 ≤ a) (h1 : a < L) (h : f a = old) : ∃ m', ecas e m a old w = (true, m') ∧ Mf m' L (upd f a w) ∧ m'.steps = w64 (m.steps + 1) := by
  obtain ⟨m', e1, e2⟩ := M.st e w h0 h1
  refine ⟨m', ?_, e2⟩
  have hb : Nat.beq ((m.by e.who).at a).1 old = true := by rw [beq_true, ← h]; exact M.at1 e h0
  rw [← e1]
  simp only [ecas, MemS.cas, M.inR e h0 h1, if_true, hb, est, MemS.st]
theorem Mf.casF (M : Mf m L f) (e : EnvS) {old : Nat} (w : Nat) (h0 : 0 ≤ a) (h1 : a < L) (h : f a ≠ old) : ∃ m', ecas e m a old w = (false, m') ∧ Mf m' L f ∧ m'.steps = w64 (m.steps + 1) := by
  refine ⟨(m.by e.who).tick a, ?_, ⟨M.len, M.wd⟩, rfl⟩
  have hb : Nat.beq ((m.by e.who).at a).1 old = false := by rw [beq_false, M.at1 e h0]; exact h
  simp [ecas, MemS.cas, M.inR e h0 h1, hb]
theorem Mf.add (M : Mf m L f) (e : EnvS) (d : Int) (h0 : 0 ≤ a) (h1 : a < L) : ∃ m' w, eadd e m a d = m' ∧ Mf m' L (upd f a w) ∧ m'.steps = w64 (m.steps + 1) := by
  refine ⟨_, (((f a : Int) + d) % 18446744073709551616).toNat, rfl, ?_⟩
  have hs : eadd e m a d = est e m a (((f a : Int) + d) % 18446744073709551616).toNat := by
    simp only [eadd, MemS.add, est, MemS.st]
    rw [M.at1 e h0]
  rw [hs]
  obtain ⟨m', e1, e2⟩ := M.st e (((f a : Int) + d) % 18446744073709551616).toNat h0 h1
  rw [e1]; exact e2
end

abbrev ck (c : Cfg) (f : Int → Nat) (j : Int) : ChunkS := chunkOf (f (cA c j))
abbrev sl (c : Cfg) (f : Int → Nat) (i : Int) : SlotS := slotOf (f (sA c i))
abbrev hd (f : Int → Nat) (a : Int) : HeadS := headOf (f a)
structure Spot (c : Cfg) (f : Int → Nat) (j a : Int) : Prop where
  j0 : 0 ≤ j
  j1 : j < c.chunks
  st : (ck c f j).state ≠ 0
  k0 : 0 ≤ (ck c f j).cls
  k1 : (ck c f j).cls < 4
  at_ : ∃ k : Int, 0 ≤ k ∧ a = bA c j + k * roomA (ck c f j).cls ∧ k * roomA (ck c f j).cls + roomA (ck c f j).cls ≤ (ck c f j).used
structure Pt (c : Cfg) (f : Int → Nat) (j a i g z : Int) : Prop where
  sp : Spot c f j a
  kd : (hd f a).kind ≠ 0
  i0 : 0 ≤ i
  i1 : i < c.slots
  g0 : 1 ≤ g
  g1 : g ≤ c.gens
  z0 : 1 ≤ z
  z1 : z ≤ 16
  sl : (hd f a).slot = i
  gn : (hd f a).gen = g
  sz : (hd f a).size = z
  cl : classA z = (ck c f j).cls
def Zer (K : CompS) (j : Int) : Prop := 11 ≤ K.pc ∧ ∃ s, K.s = some s ∧ s.chunk = j ∧ 3 ≤ s.pc
structure Safe (c : Cfg) (f : Int → Nat) (K : CompS) (p : Nat) (j : Int) : Prop where
  nz : ¬ Zer K j
  qu : (ck c f j).state = 3 → p ≤ f (cA c j + 2)
  no : K.at_ = j → (K.pc = 7 ∨ K.pc = 8) → p ≤ K.now
def isLive (s : SlotS) : Prop := s.state = 1 ∨ s.state = 2 ∨ s.state = 4
def Ref (c : Cfg) (f : Int → Nat) (K : CompS) (p : Nat) (a i g z : Int) : Prop := ∃ j, Pt c f j a i g z ∧ Safe c f K p j

structure TakeOk (c : Cfg) (f : Int → Nat) (s : TakeS) : Prop where
  ok : s.ok = false
  sl : s.pc ≠ 0 → 0 ≤ s.slot ∧ s.slot < c.slots ∧ s.slot = topSlot s.top
  old : s.pc ≠ 0 → topCount s.top ≤ topCount (f 1) ∧ (topCount s.top = topCount (f 1) → f 1 = s.top)
  nx : s.pc ≠ 0 → s.pc ≠ 1 → f 1 = s.top → s.next = topSlot (f (sA c s.slot + 1))
structure GiveOk (c : Cfg) (f : Int → Nat) (s : GiveS) : Prop where
  lk : s.pc ≠ 0 → s.pc ≠ 1 → topSlot (f (sA c s.slot + 1)) = topSlot s.top
  tb : s.pc ≠ 0 → topSlot s.top < c.slots
structure PlaceOk (c : Cfg) (s : PlaceS) : Prop where
  k0 : 0 ≤ s.cls
  k1 : s.cls < 4
  ok : s.ok = false
  at_ : s.pc ≠ 0 → 0 ≤ s.at_ ∧ s.at_ < c.chunks
  w2 : s.pc = 2 → (chunkOf s.w).state = 1 ∧ (chunkOf s.w).cls = s.cls ∧ (chunkOf s.w).used + roomA s.cls ≤ c.words
  w4 : s.pc = 4 → (chunkOf s.w).state = 0
def Own (c : Cfg) (f : Int → Nat) (i : Int) : Prop := 0 ≤ i ∧ i < c.slots ∧ (sl c f i).state = 0
structure HelpOk (c : Cfg) (f : Int → Nat) (K : CompS) (p : Nat) (s : HelpS) : Prop where
  st : (slotOf s.w).state = 4
  rf : Ref c f K p (slotOf s.w).addr s.slot (slotOf s.w).gen s.size
  i0 : 0 ≤ s.i
  i1 : s.i ≤ s.size
structure Mine (c : Cfg) (f : Int → Nat) (j a z : Int) (w : Nat) : Prop where
  sp : Spot c f j a
  st : (ck c f j).state = 1 ∨ (ck c f j).state = 2
  cl : classA z = (ck c f j).cls
  hd : f a = w
structure AllocOk (c : Cfg) (f : Int → Nat) (s : AllocS) : Prop where
  tk : s.pc = 0 → TakeOk c f s.take
  own : 1 ≤ s.pc → s.pc ≠ 6 → Own c f s.at_
  z : 1 ≤ s.pc → 1 ≤ s.size ∧ s.size ≤ 16
  gn : 2 ≤ s.pc → s.pc ≤ 5 → s.gen = (sl c f s.at_).gen
  pl : s.pc = 2 → ∃ p, s.p = some p ∧ p.cls = classA s.size ∧ PlaceOk c p
  m0 : s.pc = 3 ∨ s.pc = 4 → Mine c f s.chunk s.addr s.size 0
  m1 : s.pc = 5 ∨ s.pc = 6 → Mine c f s.chunk s.addr s.size (s.head 1)
  g6 : s.pc = 6 → 0 ≤ s.at_ ∧ s.at_ < c.slots ∧ 1 ≤ s.gen ∧ s.gen ≤ c.gens
  gv : 7 ≤ s.pc → ∃ g, s.give = some g ∧ g.slot = s.at_ ∧ GiveOk c f g
def InC (c : Cfg) (a : Int) : Prop := ∃ j, 0 ≤ j ∧ j < c.chunks ∧ bA c j ≤ a ∧ a < bA c j + c.words
structure DropOk (c : Cfg) (f : Int → Nat) (K : CompS) (p : Nat) (s : DropS) : Prop where
  rf : 1 ≤ s.pc → s.pc ≤ 4 → isLive (slotOf s.w) ∧ (slotOf s.w).gen = s.h.gen ∧ ∃ z, Ref c f K p (slotOf s.w).addr s.h.slot s.h.gen z ∧ (2 ≤ s.pc → s.size = z)
  s2 : s.pc = 2 → (slotOf s.w).state ≠ 4
  hp : s.pc = 3 ∨ s.pc = 4 → ∃ h, s.help = some h ∧ h.slot = s.h.slot ∧ HelpOk c f K p h
  cl : s.pc = 3 → ∃ h, s.help = some h ∧ (slotOf h.w).gen = s.h.gen ∧ (f (sA c s.h.slot) = h.w ∨ (s.h.gen < c.gens ∧ (sl c f s.h.slot).state = 0) ∨ (c.gens ≤ s.h.gen ∧ (sl c f s.h.slot).state = 3))
  i5 : 5 ≤ s.pc → 0 ≤ s.h.slot ∧ s.h.slot < c.slots ∧ 1 ≤ s.size ∧ s.size ≤ 16 ∧ InC c (slotOf s.w).addr
  o5 : 5 ≤ s.pc → s.h.gen < c.gens → Own c f s.h.slot
  g6 : 6 ≤ s.pc → s.h.gen < c.gens ∧ ∃ g, s.give = some g ∧ g.slot = s.h.slot ∧ GiveOk c f g
structure AccessOk (c : Cfg) (f : Int → Nat) (K : CompS) (p : Nat) (s : AccessS) : Prop where
  rf : 1 ≤ s.pc → isLive (slotOf s.w) ∧ (slotOf s.w).gen = s.h.gen ∧ ∃ z, Ref c f K p (slotOf s.w).addr s.h.slot s.h.gen z ∧ (2 ≤ s.pc → s.size = z ∧ 0 ≤ s.x.index ∧ s.x.index < z)
  hp : s.pc = 4 → ∃ h, s.help = some h ∧ HelpOk c f K p h
  s3 : s.pc = 3 → (slotOf s.w).state = 2
def DoerOk (c : Cfg) (f : Int → Nat) (K : CompS) (p : Nat) : DoerS → Prop
  | .alloc s => AllocOk c f s
  | .drop s => DropOk c f K p s
  | .access s => AccessOk c f K p s
def DNew : DoerS → Prop
  | .alloc s => s.pc = 0 ∧ s.take.pc = 0 ∧ s.take.ok = false
  | .drop s => s.pc = 0
  | .access s => s.pc = 0
structure ActOk (c : Cfg) (f : Int → Nat) (K : CompS) (t : Int) (a : ActS) : Prop where
  i2 : a.pc = 0 → 2 ≤ a.i.pc → f (6 + t) = inc64 a.i.epoch
  pin : a.pc = 1 → f (6 + t) = inc64 a.i.epoch ∧ (f 0 = a.i.epoch ∨ f 0 = a.i.epoch + 1)
  work : a.pc = 1 → DoerOk c f K a.i.epoch a.work
  n0 : a.pc = 0 → DNew a.work
def slotD (c : Cfg) (i : Int) : DoerS → Prop
  | .alloc s => s.at_ = i ∧ 1 ≤ s.pc ∧ s.pc ≠ 6
  | .drop s => s.h.slot = i ∧ (s.pc = 3 ∨ (s.pc = 5 ∧ s.h.gen < c.gens) ∨ 6 ≤ s.pc)
  | .access _ => False
def spotD (x : Int) : DoerS → Prop
  | .alloc s => s.addr = x ∧ 3 ≤ s.pc ∧ s.pc ≤ 6
  | _ => False
def slotO (c : Cfg) (a : ActS) (i : Int) : Prop := a.pc = 1 ∧ slotD c i a.work
def spotO (a : ActS) (x : Int) : Prop := a.pc = 1 ∧ spotD x a.work
def spotK (K : CompS) (x : Int) : Prop := K.pc = 5 ∧ ∃ M, K.m = some M ∧ M.got = true ∧ M.spot = x ∧ M.pc ≠ 9 ∧ M.pc ≠ 10
def NotPt (c : Cfg) (f : Int → Nat) (a : Int) : Prop := ∀ i, 0 ≤ i → i < c.slots → isLive (sl c f i) → (sl c f i).addr ≠ a
abbrev Th := Nat → Option ActS
def Passed (c : Cfg) (f : Int → Nat) (T : Th) (j pos : Int) : Prop := ∀ a, Spot c f j a → a < bA c j + pos → NotPt c f a ∧ ∀ t s, T t = some s → ¬ spotO s a
structure MoveOk (c : Cfg) (f : Int → Nat) (j pos : Int) (M : MoveS) : Prop where
  ad : M.addr = bA c j + pos
  pt : Pt c f j M.addr M.head.slot M.head.gen M.head.size
  hd : hd f M.addr = M.head
  kd : M.head.kind = 2
  w : 1 ≤ M.pc → M.pc ≤ 7 → (slotOf M.w).state = 1 ∧ (slotOf M.w).gen = M.head.gen ∧ (slotOf M.w).addr = M.addr
  p1 : M.pc = 1 → ∃ p, M.p = some p ∧ p.cls = classA M.head.size ∧ PlaceOk c p
  g0 : M.pc = 1 → M.got = false
  g1 : 2 ≤ M.pc → M.got = true
  got : M.got = true → M.pc ≠ 9 → M.pc ≠ 10 → Spot c f M.chunk M.spot ∧ (ck c f M.chunk).state = 1 ∧ classA M.head.size = (ck c f M.chunk).cls ∧ f M.spot = (if M.pc = 2 then 0 else M.copied 1)
  ch : M.pc = 9 → 0 ≤ M.chunk ∧ M.chunk < c.chunks
  i : 4 ≤ M.pc → M.pc ≤ 6 → 0 ≤ M.i ∧ M.i < M.head.size
  np : (8 ≤ M.pc ∧ M.pc ≤ 10) ∨ (M.pc = 11 ∧ M.out = 2) → NotPt c f M.addr
  o11 : M.pc = 11 → M.out ≠ 1
  nq : M.got = true → (M.pc ≤ 7 ∨ M.pc = 11) → NotPt c f M.spot
  le : M.pc ≤ 11
structure AdvOk (c : Cfg) (f : Int → Nat) (T : Th) (s : AdvS) : Prop where
  now : s.pc ≠ 0 → s.now = f 0
  at_ : 0 ≤ s.at_
  a1 : s.pc = 1 → s.at_ < c.threads
  a0 : s.pc = 0 → s.at_ = 0
  seen : s.pc ≠ 0 → ∀ (t : Nat) a, (t : Int) < s.at_ → T t = some a → a.pc = 1 → a.i.epoch = f 0
  all : s.pc ≠ 0 → s.pc ≠ 1 → c.threads ≤ s.at_
structure SetOk (c : Cfg) (f : Int → Nat) (s : SetS) : Prop where
  j0 : 0 ≤ s.chunk
  j1 : s.chunk < c.chunks
  w : s.pc ≠ 0 → f (cA c s.chunk) = s.w ∧ (chunkOf s.w).state = 3
  since : 2 ≤ s.pc → s.since = f (cA c s.chunk + 2)
  at_ : 0 ≤ s.at_
  a3 : s.pc ≤ 3 → s.at_ < (ck c f s.chunk).used ∨ s.pc = 0
  a0 : s.pc ≤ 2 → s.at_ = 0
  ze : s.pc = 3 → ∀ o, 0 ≤ o → o < s.at_ → f (bA c s.chunk + o) = 0
  zz : 4 ≤ s.pc → ∀ o, 0 ≤ o → o < (ck c f s.chunk).used → f (bA c s.chunk + o) = 0
structure CompOk (c : Cfg) (f : Int → Nat) (T : Th) (K : CompS) : Prop where
  at_ : K.pc ≠ 10 → 0 ≤ K.at_ ∧ K.at_ < (if K.pc = 2 then 4 else c.chunks)
  le : K.pc ≤ 11
  a0 : K.pc ≠ 10 → K.a = none
  z0 : K.pc ≠ 11 → K.s = none
  sb : ∀ x ∈ K.seen, ∃ w, x.chunk = chunkOf w
  s0 : K.pc = 0 → K.at_ ≠ 0 → (K.seen.length : Int) = K.at_
  s1 : K.pc = 1 → (K.seen.length : Int) = K.at_ + 1
  s2 : K.pc = 2 → (K.seen.length : Int) = c.chunks
  w3 : K.pc = 3 → (chunkOf K.w).state = 1 ∧ 0 < (chunkOf K.w).used
  ev : 4 ≤ K.pc → K.pc ≤ 9 → f (cA c K.at_) = K.w ∧ (chunkOf K.w).state = 2
  pos : K.pc = 4 ∨ K.pc = 5 → ∃ n : Int, 0 ≤ n ∧ K.pos = n * roomA (chunkOf K.w).cls ∧ K.pos + roomA (chunkOf K.w).cls ≤ (chunkOf K.w).used
  ps : K.pc = 4 ∨ K.pc = 5 → Passed c f T K.at_ K.pos
  pu : 6 ≤ K.pc → K.pc ≤ 8 → Passed c f T K.at_ (chunkOf K.w).used
  mv : K.pc = 5 → ∃ M, K.m = some M ∧ MoveOk c f K.at_ K.pos M
  now : K.pc = 7 ∨ K.pc = 8 → K.now ≤ f 0
  s8 : K.pc = 8 → f (cA c K.at_ + 2) = K.now
  adv : K.pc = 10 → ∀ s, K.a = some s → AdvOk c f T s
  set : 11 ≤ K.pc → ∀ s, K.s = some s → s.chunk = K.at_ ∧ SetOk c f s
structure ChkOk (c : Cfg) (f : Int → Nat) (K : CompS) (j : Int) : Prop where
  st : (ck c f j).state = 0 → (ck c f j).used = 0
  kl : (ck c f j).state ≠ 0 → 0 ≤ (ck c f j).cls ∧ (ck c f j).cls < 4 ∧ ∃ n : Int, 0 ≤ n ∧ (ck c f j).used = n * roomA (ck c f j).cls
  us : (ck c f j).used ≤ c.words
  ze : ∀ o, (ck c f j).used ≤ o → o < c.words → f (bA c j + o) = 0
  s2 : (ck c f j).state = 2 → K.at_ = j ∧ 4 ≤ K.pc ∧ K.pc ≤ 9
  u3 : (ck c f j).state = 2 ∨ (ck c f j).state = 3 → 0 < (ck c f j).used
  e3 : (ck c f j).state = 3 → f (cA c j + 2) ≤ f 0
structure G (c : Cfg) (B : Nat) (f : Int → Nat) (T : Th) (K : CompS) : Prop where
  ep : f 0 ≤ B
  tc : topCount (f 1) ≤ B
  fr : ∃ F : List Int, topSlot (f 1) = headI F ∧ ChainF c f F ∧ F.Nodup ∧ ∀ i ∈ F, (sl c f i).state = 0 ∧ ∀ t s, T t = some s → ¬ slotO c s i
  gn : ∀ i, 0 ≤ i → i < c.slots → 1 ≤ (sl c f i).gen ∧ (sl c f i).gen ≤ c.gens
  ob : ∀ i, 0 ≤ i → i < c.slots → isLive (sl c f i) → ∃ j z, Pt c f j (sl c f i).addr i (sl c f i).gen z ∧ ((ck c f j).state = 1 ∨ (ck c f j).state = 2) ∧ (FL.hd f (sl c f i).addr).kind ≠ 3
  s2 : ∀ i, 0 ≤ i → i < c.slots → (sl c f i).state = 2 → K.pc = 5 ∧ ∃ M, K.m = some M ∧ 4 ≤ M.pc ∧ M.pc ≤ 7 ∧ i = M.head.slot ∧ f (sA c i) = M.as 2 M.addr 0
  ch : ∀ j, 0 ≤ j → j < c.chunks → ChkOk c f K j
  hd : ∀ j a, Spot c f j a → ¬ Zer K j → (∃ t s, T t = some s ∧ spotO s a) ∨ spotK K a ∨ ((hd f a).kind = 2 ∨ (hd f a).kind = 3) ∧ ∃ i g z, Pt c f j a i g z
  oS : ∀ t t' s s' i, T t = some s → T t' = some s' → slotO c s i → slotO c s' i → t = t'
  oP : ∀ t t' s s' x, T t = some s → T t' = some s' → spotO s x → spotO s' x → t = t'
  oK : ∀ t s x, T t = some s → spotO s x → ¬ spotK K x
  op : ∀ k, 0 ≤ k → k < 4 → (f (2 + k) : Int) ≤ c.chunks
  th : ∀ t s, T t = some s → (t : Int) < c.threads ∧ ActOk c f K t s
  co : CompOk c f T K
end Go.FL

/- Safety: a step of a thread leaves what all others claim. No program in sight. -/
namespace Go.FL
open Go Go.SL

theorem room_bd {k : Int} (h0 : 0 ≤ k) (h1 : k < 4) : 3 ≤ roomA k ∧ roomA k ≤ 17 := by
  rcases room_cases h0 h1 with ⟨_, h⟩ | ⟨_, h⟩ | ⟨_, h⟩ | ⟨_, h⟩ <;> omega
section
variable {c : Cfg} {f g : Int → Nat}
theorem Spot.bd {j a : Int} (s : Spot c f j a) (h : (ck c f j).used ≤ c.words) : bA c j ≤ a ∧ a + roomA (ck c f j).cls ≤ bA c j + c.words ∧ a + roomA (ck c f j).cls ≤ bA c j + (ck c f j).used ∧ 3 ≤ roomA (ck c f j).cls := by
  obtain ⟨k, k0, ha, hu⟩ := s.at_
  have hr := room_bd s.k0 s.k1
  have : 0 ≤ k * roomA (ck c f j).cls := Int.mul_nonneg k0 (by omega)
  omega
theorem Spot.used {j a : Int} (s : Spot c f j a) : 0 < (ck c f j).used := by
  obtain ⟨k, k0, ha, hu⟩ := s.at_
  have hr := room_bd s.k0 s.k1
  have : 0 ≤ k * roomA (ck c f j).cls := Int.mul_nonneg k0 (by omega)
  omega
theorem Spot.gap {j a b : Int} (s : Spot c f j a) (t : Spot c f j b) (h : a < b) : a + roomA (ck c f j).cls ≤ b := by
  obtain ⟨k, k0, ha, hu⟩ := s.at_
  obtain ⟨n, n0, hb, hv⟩ := t.at_
  have hr := room_bd s.k0 s.k1
  have hkn : k < n := by
    rcases (by omega : k < n ∨ n ≤ k) with h1 | h1
    · exact h1
    · have : n * roomA (ck c f j).cls ≤ k * roomA (ck c f j).cls := Int.mul_le_mul_of_nonneg_right h1 (by omega)
      omega
  have : (k + 1) * roomA (ck c f j).cls ≤ n * roomA (ck c f j).cls := Int.mul_le_mul_of_nonneg_right (by omega) (by omega)
  rw [Int.add_mul, Int.one_mul] at this
  omega
theorem Spot.same {j a : Int} (s : Spot c f j a) (h : g (cA c j) = f (cA c j)) : Spot c g j a := by
  have e : ck c g j = ck c f j := by simp only [ck, h]
  obtain ⟨j0, j1, st, k0, k1, at_⟩ := s
  exact ⟨j0, j1, by rw [e]; exact st, by rw [e]; exact k0, by rw [e]; exact k1, by rw [e]; exact at_⟩
theorem Spot.chunk (hc : CfgOk c) {j a j' a' : Int} (s : Spot c f j a) (s' : Spot c f j' a') (h : (ck c f j).used ≤ c.words) (h' : (ck c f j').used ≤ c.words) (hx : ∃ k k', 0 ≤ k ∧ k < roomA (ck c f j).cls ∧ 0 ≤ k' ∧ k' < roomA (ck c f j').cls ∧ a + k = a' + k') : j = j' := by
  obtain ⟨k, k', k0, k1, k0', k1', e⟩ := hx
  have b := s.bd h
  have b' := s'.bd h'
  rcases Int.lt_trichotomy j j' with q | q | q
  · have := bA_mono hc q; omega
  · exact q
  · have := bA_mono hc q; omega
theorem class_room {z k : Int} (z0 : 1 ≤ z) (z1 : z ≤ 16) (h : classA z = k) : z + 1 ≤ roomA k := by rw [← h]; exact (class_cases z0 z1).2.2
inductive SlotChg (c : Cfg) (f g : Int → Nat) (K : CompS) (a : ActS) (i : Int) : Prop where
  | show (o : slotO c a i) (h1 : (sl c g i).state = 1) (hg : (sl c g i).gen = (sl c f i).gen) (hp : ∃ j z, Pt c g j (sl c g i).addr i (sl c g i).gen z ∧ ((ck c g j).state = 1 ∨ (ck c g j).state = 2)) (h3 : (hd g (sl c g i).addr).kind ≠ 3) (hs : spotO a (sl c g i).addr) (h0 : (sl c f i).state = 0)
  | keep (h0 : isLive (sl c f i)) (h4 : (sl c f i).state ≠ 4) (h1 : (sl c g i).state = 4 ∨ (sl c g i).state = 1) (hg : (sl c g i).gen = (sl c f i).gen) (ha : (sl c g i).addr = (sl c f i).addr)
  | free (h0 : (sl c f i).state = 4) (h1 : ((sl c f i).gen < c.gens ∧ (sl c g i).state = 0 ∧ (sl c g i).gen = (sl c f i).gen + 1) ∨ (c.gens ≤ (sl c f i).gen ∧ (sl c g i).state = 3 ∧ (sl c g i).gen = (sl c f i).gen))
def CkChg (c : Cfg) (f g : Int → Nat) (j : Int) : Prop :=
  ((ck c f j).state = 1 ∧ (ck c g j).state = 1 ∧ (ck c g j).cls = (ck c f j).cls ∧ (ck c f j).used ≤ (ck c g j).used ∧ (ck c g j).used ≤ c.words ∧ ∃ n : Int, 0 ≤ n ∧ (ck c g j).used = n * roomA (ck c f j).cls) ∨
  ((ck c f j).used = 0 ∧ (ck c g j).used = 0 ∧ ((ck c f j).state = 0 ∨ (ck c f j).state = 1) ∧ ((ck c g j).state = 0 ∨ ((ck c g j).state = 1 ∧ 0 ≤ (ck c g j).cls ∧ (ck c g j).cls < 4)))
structure Chg (c : Cfg) (f g : Int → Nat) (K : CompS) (t : Nat) (a : ActS) : Prop where
  ep : g 0 = f 0
  pin : ∀ t' : Nat, t' ≠ t → (t' : Int) < c.threads → g (6 + t') = f (6 + t')
  opn : ∀ k, 0 ≤ k → k < 4 → g (2 + k) = f (2 + k) ∨ (g (2 + k) : Int) ≤ c.chunks
  top : g 1 = f 1 ∨ topCount (g 1) = topCount (f 1) + 1
  cks : ∀ j, 0 ≤ j → j < c.chunks → g (cA c j) = f (cA c j) ∨ CkChg c f g j
  sin : ∀ j, 0 ≤ j → j < c.chunks → g (cA c j + 2) = f (cA c j + 2)
  slw : ∀ i, 0 ≤ i → i < c.slots → g (sA c i) = f (sA c i) ∨ SlotChg c f g K a i
  lnk : ∀ i, 0 ≤ i → i < c.slots → g (sA c i + 1) = f (sA c i + 1) ∨ slotO c a i
  dat : ∀ j o, 0 ≤ j → j < c.chunks → 0 ≤ o → o < c.words → g (bA c j + o) = f (bA c j + o) ∨ (o < (ck c f j).used ∧ ¬ Zer K j)
  hds : ∀ j x, Spot c f j x → g x = f x ∨ (spotO a x ∧ ((hd g x).kind ≠ 3 ∨ NotPt c f x) ∧ ((hd f x).kind ≠ 0 → (hd g x).kind ≠ 0 ∧ (hd g x).slot = (hd f x).slot ∧ (hd g x).gen = (hd f x).gen ∧ (hd g x).size = (hd f x).size))
theorem ck_same {j : Int} (h : g (cA c j) = f (cA c j)) : ck c g j = ck c f j := by simp only [ck, h]
theorem sl_same {i : Int} (h : g (sA c i) = f (sA c i)) : sl c g i = sl c f i := by simp only [sl, h]
theorem hd_same {x : Int} (h : g x = f x) : hd g x = hd f x := by simp only [hd, h]
variable {K : CompS} {t : Nat} {a : ActS} {T : Th} {B : Nat}
theorem Chg.spot (C : Chg c f g K t a) {j x : Int} (s : Spot c f j x) : Spot c g j x ∧ (ck c g j).cls = (ck c f j).cls ∧ ((ck c g j).state = (ck c f j).state) := by
  rcases C.cks j s.j0 s.j1 with h | h | h
  · exact ⟨s.same h, by rw [ck_same h], by rw [ck_same h]⟩
  · obtain ⟨h1, h2, h3, h4, h5, h6⟩ := h
    refine ⟨⟨s.j0, s.j1, by omega, by rw [h3]; exact s.k0, by rw [h3]; exact s.k1, ?_⟩, h3, by rw [h1, h2]⟩
    obtain ⟨k, k0, e1, e2⟩ := s.at_
    exact ⟨k, k0, by rw [h3]; exact e1, by rw [h3]; omega⟩
  · have := s.used
    omega
theorem Chg.pt (C : Chg c f g K t a) {j x i gn z : Int} (p : Pt c f j x i gn z) : Pt c g j x i gn z := by
  obtain ⟨h1, h2, h3⟩ := C.spot p.sp
  obtain ⟨sp, kd, i0, i1, g0, g1, z0, z1, sl, gn, sz, cl⟩ := p
  rcases C.hds j x sp with h | ⟨_, _, h⟩
  · have e := hd_same (g := g) (f := f) h
    exact ⟨h1, by rw [e]; exact kd, i0, i1, g0, g1, z0, z1, by rw [e]; exact sl, by rw [e]; exact gn, by rw [e]; exact sz, by rw [h2]; exact cl⟩
  · obtain ⟨q1, q2, q3, q4⟩ := h kd
    exact ⟨h1, q1, i0, i1, g0, g1, z0, z1, by rw [q2]; exact sl, by rw [q3]; exact gn, by rw [q4]; exact sz, by rw [h2]; exact cl⟩
theorem Chg.safe (C : Chg c f g K t a) {p : Nat} {j x : Int} (s : Spot c f j x) (h : Safe c f K p j) : Safe c g K p j := by
  refine ⟨h.nz, fun h3 => ?_, h.no⟩
  rw [C.sin j s.j0 s.j1]
  exact h.qu (by rw [(C.spot s).2.2] at h3; exact h3)
theorem Chg.ref (C : Chg c f g K t a) {p : Nat} {x i gn z : Int} (h : Ref c f K p x i gn z) : Ref c g K p x i gn z := by
  obtain ⟨j, p, s⟩ := h
  exact ⟨j, C.pt p, C.safe p.sp s⟩
theorem Chg.help (C : Chg c f g K t a) {p : Nat} {s : HelpS} (h : HelpOk c f K p s) : HelpOk c g K p s := ⟨h.st, C.ref h.rf, h.i0, h.i1⟩
theorem Chg.own (C : Chg c f g K t a) {i : Int} (hn : ¬ slotO c a i) (h : Own c f i) : Own c g i ∧ g (sA c i) = f (sA c i) ∧ g (sA c i + 1) = f (sA c i + 1) := by
  obtain ⟨i0, i1, h0⟩ := h
  have hs : g (sA c i) = f (sA c i) := by
    rcases C.slw i i0 i1 with h | h
    · exact h
    · rcases h with ⟨o, _⟩ | ⟨hl, _⟩ | ⟨h4, _⟩
      · exact absurd o hn
      · rcases hl with h | h | h <;> omega
      · omega
  refine ⟨⟨i0, i1, by rw [sl_same hs]; exact h0⟩, hs, ?_⟩
  rcases C.lnk i i0 i1 with h | h
  · exact h
  · exact absurd h hn
theorem Chg.mine (C : Chg c f g K t a) {j x z : Int} {w : Nat} (hn : ¬ spotO a x) (h : Mine c f j x z w) : Mine c g j x z w := by
  obtain ⟨h1, h2, h3⟩ := C.spot h.sp
  refine ⟨h1, by rw [h3]; exact h.st, by rw [h2]; exact h.cl, ?_⟩
  rcases C.hds j x h.sp with e | ⟨e, _⟩
  · rw [e]; exact h.hd
  · exact absurd e hn
theorem Chg.take (C : Chg c f g K t a) (G0 : G c B f T K) (hT : T t = some a) {s : TakeS} (h : TakeOk c f s) : TakeOk c g s := by
  refine ⟨h.ok, h.sl, fun hp => ?_, fun hp hp1 ht => ?_⟩
  · have h1 := h.old hp
    rcases C.top with e | e
    · rw [e]; exact h1
    · exact ⟨by omega, fun q => by omega⟩
  · have h1 := h.old hp
    have e : g 1 = f 1 := by
      rcases C.top with e | e
      · exact e
      · rw [ht] at e; omega
    rw [e] at ht
    rw [h.nx hp hp1 ht]
    have hsl := h.sl hp
    obtain ⟨F, f1, f2, f3, f4⟩ := G0.fr
    rw [ht, ← hsl.2.2] at f1
    cases F with
    | nil => simp only [headI] at f1; omega
    | cons i F =>
      simp only [headI] at f1
      rcases C.lnk s.slot hsl.1 hsl.2.1 with q | q
      · rw [q]
      · rw [f1] at q
        exact absurd q ((f4 i (by simp)).2 t a hT)
theorem Chg.give {s : GiveS} (hl : g (sA c s.slot + 1) = f (sA c s.slot + 1)) (h : GiveOk c f s) : GiveOk c g s := ⟨fun h0 h1 => by rw [hl]; exact h.lk h0 h1, h.tb⟩
end
end Go.FL

/- Safety: what all others claim stays; all is as it must be behind a step of a thread. No program in sight. -/
namespace Go.FL
open Go Go.SL
theorem head_kind {h : HeadS} (h0 : 0 ≤ h.kind) (h1 : h.kind ≤ 3) : (headOf (putHead h)).kind = h.kind := by
  rw [putHead_eq]
  simp only [headOf, m2]
  rw [fitN_eq h0 (by omega)]
  cases h.own <;> simp only [Bool.false_eq_true, if_false, if_true] <;> omega
theorem head0_kind : (headOf 0).kind = 0 := by decide
def upT (T : Th) (t : Nat) (o : Option ActS) : Th := fun n => if n = t then o else T n
theorem upT_self (T : Th) (t : Nat) (o : Option ActS) : upT T t o t = o := by simp [upT]
theorem upT_ne {T : Th} {t n : Nat} {o : Option ActS} (h : n ≠ t) : upT T t o n = T n := by simp [upT, h]
section
variable {c : Cfg} {f g : Int → Nat} {K : CompS} {t : Nat} {a : ActS} {T : Th} {B : Nat}
theorem ActOk.kind (h : ActOk c f K t a) {x : Int} (hs : spotO a x) : (hd f x).kind = 0 ∨ (hd f x).kind = 1 := by
  obtain ⟨h1, h2⟩ := hs
  have hw := h.work h1
  cases hk : a.work with
  | alloc s =>
    rw [hk] at hw h2
    have hw : AllocOk c f s := hw
    have h2 : s.addr = x ∧ 3 ≤ s.pc ∧ s.pc ≤ 6 := h2
    obtain ⟨rfl, q1, q2⟩ := h2
    rcases (by omega : (s.pc = 3 ∨ s.pc = 4) ∨ (s.pc = 5 ∨ s.pc = 6)) with q | q
    · left
      have := (hw.m0 q).hd
      simp only [hd]; rw [this]; exact head0_kind
    · right
      have := (hw.m1 q).hd
      simp only [hd]; rw [this]; exact head_kind (by show (0 : Int) ≤ 1; omega) (by show (1 : Int) ≤ 3; omega)
  | drop s => rw [hk] at h2; exact h2.elim
  | access s => rw [hk] at h2; exact h2.elim
theorem Chg.act (C : Chg c f g K t a) (G0 : G c B f T K) (hT : T t = some a) {t' : Nat} {s : ActS} (hT' : T t' = some s) (hne : t' ≠ t) : ActOk c g K t' s := by
  obtain ⟨hlt, h⟩ := G0.th t' s hT'
  have nS : ∀ i, slotO c s i → ¬ slotO c a i := fun i h1 h2 => hne (G0.oS t' t s a i hT' hT h1 h2)
  have nP : ∀ x, spotO s x → ¬ spotO a x := fun x h1 h2 => hne (G0.oP t' t s a x hT' hT h1 h2)
  have hp : g (6 + t') = f (6 + t') := C.pin t' hne hlt
  refine ⟨fun h0 h2 => by rw [hp]; exact h.i2 h0 h2, fun h1 => ?_, fun h1 => ?_, h.n0⟩
  · rw [hp, C.ep]; exact h.pin h1
  · have hw := h.work h1
    cases hk : s.work with
    | alloc x =>
      rw [hk] at hw
      have hw : AllocOk c f x := hw
      have oS : 1 ≤ x.pc → x.pc ≠ 6 → ¬ slotO c a x.at_ := fun q1 q2 => nS _ ⟨h1, by rw [hk]; exact ⟨rfl, q1, q2⟩⟩
      have oP : 3 ≤ x.pc → x.pc ≤ 6 → ¬ spotO a x.addr := fun q1 q2 => nP _ ⟨h1, by rw [hk]; exact ⟨rfl, q1, q2⟩⟩
      show AllocOk c g x
      refine ⟨fun q => C.take G0 hT (hw.tk q), fun q1 q2 => (C.own (oS q1 q2) (hw.own q1 q2)).1, hw.z, fun q1 q2 => ?_, hw.pl, fun q => C.mine (oP (by omega) (by omega)) (hw.m0 q), fun q => C.mine (oP (by omega) (by omega)) (hw.m1 q), hw.g6, fun q => ?_⟩
      · rw [sl_same (C.own (oS (by omega) (by omega)) (hw.own (by omega) (by omega))).2.1]; exact hw.gn q1 q2
      · obtain ⟨v, v1, v2, v3⟩ := hw.gv q
        refine ⟨v, v1, v2, Chg.give ?_ v3⟩
        rw [v2]; exact (C.own (oS (by omega) (by omega)) (hw.own (by omega) (by omega))).2.2
    | drop x =>
      rw [hk] at hw
      have hw : DropOk c f K s.i.epoch x := hw
      have oS : (x.pc = 3 ∨ (x.pc = 5 ∧ x.h.gen < c.gens) ∨ 6 ≤ x.pc) → ¬ slotO c a x.h.slot := fun q => nS _ ⟨h1, by rw [hk]; exact ⟨rfl, q⟩⟩
      show DropOk c g K s.i.epoch x
      refine ⟨fun q1 q2 => ?_, hw.s2, fun q => ?_, fun q => ?_, hw.i5, fun q1 q2 => ?_, fun q => ?_⟩
      · obtain ⟨r1, r2, z, r3, r4⟩ := hw.rf q1 q2
        exact ⟨r1, r2, z, C.ref r3, r4⟩
      · obtain ⟨v, v1, v2, v3⟩ := hw.hp q
        exact ⟨v, v1, v2, C.help v3⟩
      · obtain ⟨v, v1, v2, v3⟩ := hw.cl q
        obtain ⟨v', w1, w2, w3⟩ := hw.hp (.inl q)
        obtain rfl : v = v' := by rw [v1] at w1; cases w1; rfl
        obtain ⟨j, pt, _⟩ := w3.rf
        have i0 := pt.i0
        have i1 := pt.i1
        rw [w2] at i0 i1
        refine ⟨v, v1, v2, ?_⟩
        rcases C.slw x.h.slot i0 i1 with e | e
        · rw [sl_same e, e]; exact v3
        · rcases e with ⟨o, _⟩ | ⟨hl, h4, _⟩ | ⟨h4, hh⟩
          · exact absurd o (oS (.inl q))
          · exfalso
            rcases v3 with e | ⟨_, e⟩ | ⟨_, e⟩
            · have := w3.st
              simp only [sl, e] at h4
              exact h4 this
            · rcases hl with r | r | r <;> omega
            · rcases hl with r | r | r <;> omega
          · rcases v3 with e | ⟨_, e⟩ | ⟨_, e⟩
            · have hg : (sl c f x.h.slot).gen = x.h.gen := by simp only [sl, e]; exact v2
              rw [hg] at hh
              rcases hh with ⟨r1, r2, _⟩ | ⟨r1, r2, _⟩
              · exact .inr (.inl ⟨r1, r2⟩)
              · exact .inr (.inr ⟨r1, r2⟩)
            · omega
            · omega
      · by_cases q6 : 6 ≤ x.pc
        · exact (C.own (oS (.inr (.inr q6))) (hw.o5 q1 q2)).1
        · exact (C.own (oS (.inr (.inl ⟨by omega, q2⟩))) (hw.o5 q1 q2)).1
      · obtain ⟨r0, v, v1, v2, v3⟩ := hw.g6 q
        refine ⟨r0, v, v1, v2, Chg.give ?_ v3⟩
        rw [v2]; exact (C.own (oS (.inr (.inr q))) (hw.o5 (by omega) r0)).2.2
    | access x =>
      rw [hk] at hw
      have hw : AccessOk c f K s.i.epoch x := hw
      show AccessOk c g K s.i.epoch x
      refine ⟨fun q1 => ?_, fun q => ?_, hw.s3⟩
      · obtain ⟨r1, r2, z, r3, r4⟩ := hw.rf q1
        exact ⟨r1, r2, z, C.ref r3, r4⟩
      · obtain ⟨v, v1, v3⟩ := hw.hp q
        exact ⟨v, v1, C.help v3⟩
theorem Chg.notPt (C : Chg c f g K t a) {x : Int} (hno : ¬ spotO a x) (h : NotPt c f x) : NotPt c g x := by
  intro i i0 i1 hl e
  rcases C.slw i i0 i1 with q | q
  · rw [sl_same q] at hl e; exact h i i0 i1 hl e
  · rcases q with ⟨_, _, _, _, _, hs, _⟩ | ⟨h0, _, _, _, ha⟩ | ⟨_, hh⟩
    · rw [e] at hs; exact hno hs
    · rw [ha] at e; exact h i i0 i1 h0 e
    · rcases hh with ⟨_, r, _⟩ | ⟨_, r, _⟩ <;> (rcases hl with l | l | l <;> omega)
theorem Chg.move (C : Chg c f g K t a) (hA : ActOk c f K t a) {j pos : Int} {M : MoveS} (hk : M.got = true → M.pc ≠ 9 → M.pc ≠ 10 → ¬ spotO a M.spot) (h : MoveOk c f j pos M) : MoveOk c g j pos M := by
  have ha : ¬ spotO a M.addr := fun hs => by
    have h1 := hA.kind hs
    rw [h.hd, h.kd] at h1; omega
  refine ⟨h.ad, C.pt h.pt, ?_, h.kd, h.w, h.p1, h.g0, h.g1, fun q1 q2 q3 => ?_, h.ch, h.i, fun q => C.notPt ha (h.np q), h.o11, fun q1 q2 => C.notPt (hk q1 (by omega) (by omega)) (h.nq q1 q2), h.le⟩
  · rcases C.hds j M.addr h.pt.sp with e | ⟨e, _⟩
    · rw [hd_same e]; exact h.hd
    · exact absurd e ha
  · obtain ⟨r1, r2, r3, r4⟩ := h.got q1 q2 q3
    obtain ⟨s1, s2, s3⟩ := C.spot r1
    refine ⟨s1, by rw [s3]; exact r2, by rw [s2]; exact r3, ?_⟩
    rcases C.hds M.chunk M.spot r1 with e | ⟨e, _⟩
    · rw [e]; exact r4
    · exact absurd e (hk q1 q2 q3)
theorem Chg.comp (C : Chg c f g K t a) (G0 : G c B f T K) (hT : T t = some a) {o : Option ActS} (o3 : ∀ a' x, o = some a' → spotO a' x → spotO a x ∨ ∀ j, ¬ Spot c f j x)
    (o5 : ∀ a', o = some a' → a'.pc = 1 → (a.pc = 1 ∧ a'.i.epoch = a.i.epoch) ∨ a'.i.epoch = f 0) : CompOk c g (upT T t o) K := by
  have h := G0.co
  have hA := (G0.th t a hT).2
  have same2 : ∀ j, 0 ≤ j → j < c.chunks → ((ck c f j).state = 2 ∨ (ck c f j).state = 3) → g (cA c j) = f (cA c j) := by
    intro j j0 j1 h2
    rcases C.cks j j0 j1 with e | e | e
    · exact e
    · have := e.1; omega
    · have := e.2.2.1; omega
  have evs : 4 ≤ K.pc → K.pc ≤ 9 → 0 ≤ K.at_ ∧ K.at_ < c.chunks ∧ g (cA c K.at_) = f (cA c K.at_) := by
    intro q1 q2
    have h1 := h.at_ (by omega)
    rw [if_neg (by omega)] at h1
    obtain ⟨e1, e2⟩ := h.ev q1 q2
    exact ⟨h1.1, h1.2, same2 _ h1.1 h1.2 (.inl (by simp only [ck, e1]; exact e2))⟩
  have pas : ∀ pos, 4 ≤ K.pc → K.pc ≤ 9 → Passed c f T K.at_ pos → Passed c g (upT T t o) K.at_ pos := by
    intro pos q1 q2 hp x sx hx
    obtain ⟨a0, a1, e⟩ := evs q1 q2
    have sx' : Spot c f K.at_ x := sx.same e.symm
    obtain ⟨r1, r2⟩ := hp x sx' hx
    refine ⟨C.notPt (r2 t a hT) r1, fun n s hs hsp => ?_⟩
    by_cases hn : n = t
    · subst hn
      rw [upT_self] at hs
      rcases o3 s x hs hsp with r | r
      · exact r2 n a hT r
      · exact r _ sx'
    · rw [upT_ne hn] at hs
      exact r2 n s hs hsp
  refine ⟨h.at_, h.le, h.a0, h.z0, h.sb, h.s0, h.s1, h.s2, h.w3, fun q1 q2 => ?_, h.pos, fun q => pas _ (by omega) (by omega) (h.ps q), fun q1 q2 => pas _ (by omega) (by omega) (h.pu q1 q2), fun q => ?_, fun q => by rw [C.ep]; exact h.now q, fun q => ?_, fun q s hs => ?_, fun q s hs => ?_⟩
  · rw [(evs q1 q2).2.2]; exact h.ev q1 q2
  · obtain ⟨M, hM, hO⟩ := h.mv q
    exact ⟨M, hM, C.move hA (fun q1 q2 q3 hs => G0.oK t a M.spot hT hs ⟨q, M, hM, q1, rfl, q2, q3⟩) hO⟩
  · obtain ⟨a0, a1, _⟩ := evs (by omega) (by omega)
    rw [C.sin _ a0 a1]; exact h.s8 q
  · have hv := h.adv q s hs
    refine ⟨fun q1 => by rw [C.ep]; exact hv.now q1, hv.at_, hv.a1, hv.a0, fun q1 n s' hn hs' hp => ?_, hv.all⟩
    rw [C.ep]
    by_cases hnt : n = t
    · subst hnt
      rw [upT_self] at hs'
      rcases o5 s' hs' hp with ⟨r1, r2⟩ | r
      · rw [r2]; exact hv.seen q1 n a hn hT r1
      · exact r
    · rw [upT_ne hnt] at hs'
      exact hv.seen q1 n s' hn hs' hp
  · obtain ⟨q1, hv⟩ := h.set q s hs
    refine ⟨q1, ?_⟩
    by_cases hz : s.pc = 0
    · refine ⟨hv.j0, hv.j1, fun q => absurd hz q, fun q => by omega, hv.at_, fun _ => .inr hz, hv.a0, fun q => by omega, fun q => by omega⟩
    · have hw := hv.w hz
      have e := same2 s.chunk hv.j0 hv.j1 (.inr (by simp only [ck, hw.1]; exact hw.2))
      have hus := (G0.ch s.chunk hv.j0 hv.j1).us
      have dats : 3 ≤ s.pc → ∀ x, 0 ≤ x → x < (ck c f s.chunk).used → g (bA c s.chunk + x) = f (bA c s.chunk + x) := by
        intro q3 x x0 x1
        rcases C.dat s.chunk x hv.j0 hv.j1 x0 (by omega) with r | ⟨_, r⟩
        · exact r
        · exact absurd ⟨q, s, hs, rfl, q3⟩ r
      refine ⟨hv.j0, hv.j1, fun q => by rw [e]; exact hw, fun q => by rw [C.sin _ hv.j0 hv.j1]; exact hv.since q, hv.at_, fun q => by rw [ck_same e]; exact hv.a3 q, hv.a0, fun q x x0 x1 => ?_, fun q x x0 x1 => ?_⟩
      · rw [dats (by omega) x x0 (by have := hv.a3 (by omega); omega)]; exact hv.ze q x x0 x1
      · rw [ck_same e] at x1
        rw [dats (by omega) x x0 x1]; exact hv.zz q x x0 x1
theorem G.thread (G0 : G c B f T K) (hT : T t = some a) (C : Chg c f g K t a) (o : Option ActS) (o1 : ∀ a', o = some a' → ActOk c g K t a')
    (o2 : ∀ a' i, o = some a' → slotO c a' i → slotO c a i ∨ ∀ n s, T n = some s → ¬ slotO c s i)
    (o3 : ∀ a' x, o = some a' → spotO a' x → spotO a x ∨ ∀ j, ¬ Spot c f j x)
    (o4 : ∀ j x, Spot c f j x → spotO a x → (∃ a', o = some a' ∧ spotO a' x) ∨ (((FL.hd g x).kind = 2 ∨ (FL.hd g x).kind = 3) ∧ ∃ i gn z, Pt c g j x i gn z))
    (o5 : ∀ a', o = some a' → a'.pc = 1 → (a.pc = 1 ∧ a'.i.epoch = a.i.epoch) ∨ a'.i.epoch = f 0)
    (o6 : ∀ j x, Spot c g j x → Spot c f j x ∨ ∃ a', o = some a' ∧ spotO a' x)
    (fr : ∃ F : List Int, topSlot (g 1) = headI F ∧ ChainF c g F ∧ F.Nodup ∧ ∀ i ∈ F, (sl c g i).state = 0 ∧ ∀ n s, upT T t o n = some s → ¬ slotO c s i) : G c (B + 1) g (upT T t o) K := by
  have hA := (G0.th t a hT).2
  have hlt := (G0.th t a hT).1
  have cases_o : ∀ n s, upT T t o n = some s → (n = t ∧ o = some s) ∨ (n ≠ t ∧ T n = some s) := by
    intro n s h
    by_cases hn : n = t
    · subst hn; rw [upT_self] at h; exact .inl ⟨rfl, h⟩
    · rw [upT_ne hn] at h; exact .inr ⟨hn, h⟩
  have kd3 : ∀ {j i : Int}, 0 ≤ i → i < c.slots → isLive (FL.sl c f i) → Spot c f j (FL.sl c f i).addr → (FL.hd f (FL.sl c f i).addr).kind ≠ 3 → (FL.hd g (FL.sl c f i).addr).kind ≠ 3 := by
    intro j i i0 i1 hl s h
    rcases C.hds j _ s with e | ⟨_, e | e, _⟩
    · rw [hd_same e]; exact h
    · exact e
    · exact absurd rfl (e i i0 i1 hl)
  refine ⟨by rw [C.ep]; have := G0.ep; omega, ?_, fr, fun i i0 i1 => ?_, fun i i0 i1 hl => ?_, fun i i0 i1 h2 => ?_, fun j j0 j1 => ?_, fun j x sx nz => ?_, fun n n' s s' i h1 h2 h3 h4 => ?_, fun n n' s s' x h1 h2 h3 h4 => ?_, fun n s x h1 h2 h3 => ?_, fun k k0 k1 => ?_, fun n s h => ?_, C.comp G0 hT o3 o5⟩
  · have := G0.tc
    rcases C.top with e | e
    · rw [e]; omega
    · omega
  · have h := G0.gn i i0 i1
    rcases C.slw i i0 i1 with e | e
    · rw [sl_same e]; exact h
    · rcases e with ⟨_, _, hg, _⟩ | ⟨_, _, _, hg, _⟩ | ⟨_, ⟨r1, _, r3⟩ | ⟨_, _, r3⟩⟩
      · rw [hg]; exact h
      · rw [hg]; exact h
      · omega
      · rw [r3]; exact h
  · rcases C.slw i i0 i1 with e | e
    · rw [sl_same e] at hl ⊢
      obtain ⟨j, z, p, st, k3⟩ := G0.ob i i0 i1 hl
      exact ⟨j, z, C.pt p, by rw [(C.spot p.sp).2.2]; exact st, kd3 i0 i1 hl p.sp k3⟩
    · rcases e with ⟨_, _, _, ⟨jj, zz, hp1, hp2⟩, h3, _⟩ | ⟨h0, _, _, hg, ha⟩ | ⟨_, ⟨_, r, _⟩ | ⟨_, r, _⟩⟩
      · exact ⟨jj, zz, hp1, hp2, h3⟩
      · obtain ⟨j, z, p, st, k3⟩ := G0.ob i i0 i1 h0
        exact ⟨j, z, by rw [hg, ha]; exact C.pt p, by rw [(C.spot p.sp).2.2]; exact st, by rw [ha]; exact kd3 i0 i1 h0 p.sp k3⟩
      · rcases hl with l | l | l <;> omega
      · rcases hl with l | l | l <;> omega
  · rcases C.slw i i0 i1 with e | e
    · rw [sl_same e] at h2
      rw [e]; exact G0.s2 i i0 i1 h2
    · rcases e with ⟨_, r, _⟩ | ⟨_, _, r, _⟩ | ⟨_, ⟨_, r, _⟩ | ⟨_, r, _⟩⟩ <;> omega
  · have h := G0.ch j j0 j1
    have u0 : 0 ≤ (ck c f j).used := (chunkOf_bd _).2.2.2.2.1
    have u1 : 0 ≤ (ck c g j).used := (chunkOf_bd _).2.2.2.2.1
    have hds : ∀ x, 0 ≤ x → x < c.words → (ck c f j).used ≤ x → g (bA c j + x) = 0 := by
      intro x x0 x1 x2
      rcases C.dat j x j0 j1 x0 x1 with e | ⟨e, _⟩
      · rw [e]; exact h.ze x x2 x1
      · omega
    rcases C.cks j j0 j1 with e | ⟨q1, q2, q3, q4, q5, q6⟩ | ⟨q1, q2, q3, q4⟩
    · refine ⟨by rw [ck_same e]; exact h.st, by rw [ck_same e]; exact h.kl, by rw [ck_same e]; exact h.us, fun x h1 h2 => ?_, by rw [ck_same e]; exact h.s2, by rw [ck_same e]; exact h.u3, by rw [ck_same e, C.sin j j0 j1, C.ep]; exact h.e3⟩
      rw [ck_same e] at h1
      exact hds x (by omega) h2 h1
    · obtain ⟨r1, r2, _⟩ := h.kl (by omega)
      refine ⟨fun q => by omega, fun _ => ⟨by omega, by omega, by rw [q3]; exact q6⟩, q5, fun x h1 h2 => hds x (by omega) h2 (by omega), fun q => by omega, fun q => by omega, fun q => by omega⟩
    · refine ⟨fun _ => q2, fun q => ?_, by have := h.us; omega, fun x h1 h2 => hds x (by omega) h2 (by omega), fun q => ?_, fun q => by rcases q4 with q4 | ⟨q4, _⟩ <;> omega, fun q => by rcases q4 with q4 | ⟨q4, _⟩ <;> omega⟩
      · rcases q4 with q4 | ⟨_, r1, r2⟩
        · exact absurd q4 q
        · exact ⟨r1, r2, 0, by omega, by rw [q2]; simp⟩
      · rcases q4 with q4 | ⟨q4, _⟩ <;> omega
  · rcases o6 j x sx with s | ⟨a', h1, h2⟩
    · rcases G0.hd j x s nz with ⟨n, s', h1, h2⟩ | h1 | ⟨h1, i, gn, z, p⟩
      · by_cases hn : n = t
        · subst hn
          rw [hT] at h1; cases h1
          rcases o4 j x s h2 with ⟨a', r1, r2⟩ | r
          · exact .inl ⟨n, a', by rw [upT_self]; exact r1, r2⟩
          · exact .inr (.inr r)
        · exact .inl ⟨n, s', by rw [upT_ne hn]; exact h1, h2⟩
      · exact .inr (.inl h1)
      · refine .inr (.inr ⟨?_, i, gn, z, C.pt p⟩)
        rcases C.hds j x s with e | ⟨e, _⟩
        · rw [hd_same e]; exact h1
        · have := hA.kind e; omega
    · exact .inl ⟨t, a', by rw [upT_self]; exact h1, h2⟩
  · rcases cases_o n s h1 with ⟨e1, e2⟩ | ⟨e1, e2⟩ <;> rcases cases_o n' s' h2 with ⟨d1, d2⟩ | ⟨d1, d2⟩
    · rw [e1, d1]
    · rcases o2 s i e2 h3 with r | r
      · rw [e1]; exact G0.oS t n' a s' i hT d2 r h4
      · exact absurd h4 (r n' s' d2)
    · rcases o2 s' i d2 h4 with r | r
      · rw [d1]; exact G0.oS n t s a i e2 hT h3 r
      · exact absurd h3 (r n s e2)
    · exact G0.oS n n' s s' i e2 d2 h3 h4
  · have fresh : ∀ n s, T n = some s → spotO s x → ∃ j, Spot c f j x := by
      intro n s hn hs
      have hk := (G0.th n s hn).2
      obtain ⟨p1, p2⟩ := hs
      have hw := hk.work p1
      cases hkk : s.work with
      | alloc y =>
        rw [hkk] at hw p2
        have hw : AllocOk c f y := hw
        have p2 : y.addr = x ∧ 3 ≤ y.pc ∧ y.pc ≤ 6 := p2
        obtain ⟨rfl, q1, q2⟩ := p2
        rcases (by omega : (y.pc = 3 ∨ y.pc = 4) ∨ (y.pc = 5 ∨ y.pc = 6)) with q | q
        · exact ⟨_, (hw.m0 q).sp⟩
        · exact ⟨_, (hw.m1 q).sp⟩
      | drop y => rw [hkk] at p2; exact p2.elim
      | access y => rw [hkk] at p2; exact p2.elim
    rcases cases_o n s h1 with ⟨e1, e2⟩ | ⟨e1, e2⟩ <;> rcases cases_o n' s' h2 with ⟨d1, d2⟩ | ⟨d1, d2⟩
    · rw [e1, d1]
    · rcases o3 s x e2 h3 with r | r
      · rw [e1]; exact G0.oP t n' a s' x hT d2 r h4
      · obtain ⟨j, sp⟩ := fresh n' s' d2 h4
        exact absurd sp (r j)
    · rcases o3 s' x d2 h4 with r | r
      · rw [d1]; exact G0.oP n t s a x e2 hT h3 r
      · obtain ⟨j, sp⟩ := fresh n s e2 h3
        exact absurd sp (r j)
    · exact G0.oP n n' s s' x e2 d2 h3 h4
  · rcases cases_o n s h1 with ⟨e1, e2⟩ | ⟨e1, e2⟩
    · rcases o3 s x e2 h2 with r | r
      · exact G0.oK t a x hT r h3
      · obtain ⟨q, M, hM, g1, g2, g3, g4⟩ := h3
        obtain ⟨M', hM', mo⟩ := G0.co.mv q
        rw [hM] at hM'; cases hM'
        have := (mo.got g1 g3 g4).1
        rw [g2] at this
        exact r _ this
    · exact G0.oK n s x e2 h2 h3
  · rcases C.opn k k0 k1 with e | e
    · rw [e]; exact G0.op k k0 k1
    · exact e
  · rcases cases_o n s h with ⟨e1, e2⟩ | ⟨e1, e2⟩
    · rw [e1]; exact ⟨hlt, o1 s e2⟩
    · exact ⟨(G0.th n s e2).1, C.act G0 hT e2 e1⟩
end
end Go.FL

/- Safety: what one word changes. No program in sight. -/
namespace Go.FL
open Go Go.SL
section
variable {c : Cfg} {f g : Int → Nat} {K : CompS} {t : Nat} {a : ActS} {T : Th} {B : Nat}
theorem Chg.none (c : Cfg) (f : Int → Nat) (K : CompS) (t : Nat) (a : ActS) : Chg c f f K t a :=
  ⟨rfl, fun _ _ _ => rfl, fun _ _ _ => .inl rfl, .inl rfl, fun _ _ _ => .inl rfl, fun _ _ _ => rfl, fun _ _ _ => .inl rfl, fun _ _ _ => .inl rfl, fun _ _ _ _ _ _ => .inl rfl, fun _ _ _ => .inl rfl⟩
theorem Chg.lo (hc : CfgOk c) (G0 : G c B f T K) {b : Int} {w : Nat} (hb : b < 6 + c.threads + 2 * c.slots + 3 * c.chunks) :
    (∀ j o, 0 ≤ j → j < c.chunks → 0 ≤ o → o < c.words → upd f b w (bA c j + o) = f (bA c j + o)) ∧ ∀ j x, Spot c f j x → upd f b w x = f x := by
  refine ⟨fun j o j0 j1 o0 o1 => upd_ne (by have := bA_ge hc j0; omega), fun j x s => upd_ne ?_⟩
  have := (s.bd (G0.ch j s.j0 s.j1).us).1
  have := bA_ge hc s.j0
  omega
theorem Chg.pinW (hc : CfgOk c) (G0 : G c B f T K) (ht : (t : Int) < c.threads) (w : Nat) : Chg c f (upd f (6 + t) w) K t a := by
  have t0 := hc.t0
  have s0 := hc.s0
  have c0 := hc.c0
  obtain ⟨h1, h2⟩ := Chg.lo hc G0 (b := 6 + t) (w := w) (by omega)
  exact ⟨upd_ne (by omega), fun t' hn _ => upd_ne (by omega), fun k _ _ => .inl (upd_ne (by omega)), .inl (upd_ne (by omega)), fun j _ _ => .inl (upd_ne (by simp only [cA]; omega)), fun j _ _ => upd_ne (by simp only [cA]; omega),
    fun i _ _ => .inl (upd_ne (by simp only [sA]; omega)), fun i _ _ => .inl (upd_ne (by simp only [sA]; omega)), fun j o j0 j1 o0 o1 => .inl (h1 j o j0 j1 o0 o1), fun j x s => .inl (h2 j x s)⟩
theorem Chg.topW (hc : CfgOk c) (G0 : G c B f T K) {w : Nat} (hw : topCount w = topCount (f 1) + 1) : Chg c f (upd f 1 w) K t a := by
  have t0 := hc.t0
  have s0 := hc.s0
  have c0 := hc.c0
  obtain ⟨h1, h2⟩ := Chg.lo hc G0 (b := 1) (w := w) (by omega)
  exact ⟨upd_ne (by omega), fun t' hn _ => upd_ne (by omega), fun k _ _ => .inl (upd_ne (by omega)), .inr (by rw [upd_self]; exact hw), fun j _ _ => .inl (upd_ne (by simp only [cA]; omega)), fun j _ _ => upd_ne (by simp only [cA]; omega),
    fun i _ _ => .inl (upd_ne (by simp only [sA]; omega)), fun i _ _ => .inl (upd_ne (by simp only [sA]; omega)), fun j o j0 j1 o0 o1 => .inl (h1 j o j0 j1 o0 o1), fun j x s => .inl (h2 j x s)⟩
theorem Chg.lnkW (hc : CfgOk c) (G0 : G c B f T K) {i : Int} (i0 : 0 ≤ i) (i1 : i < c.slots) (ho : slotO c a i) (w : Nat) : Chg c f (upd f (sA c i + 1) w) K t a := by
  have t0 := hc.t0
  have s0 := hc.s0
  have c0 := hc.c0
  obtain ⟨h1, h2⟩ := Chg.lo hc G0 (b := sA c i + 1) (w := w) (by simp only [sA]; omega)
  refine ⟨upd_ne (by simp only [sA]; omega), fun t' hn _ => upd_ne (by simp only [sA]; omega), fun k _ _ => .inl (upd_ne (by simp only [sA]; omega)), .inl (upd_ne (by simp only [sA]; omega)), fun j _ _ => .inl (upd_ne (by simp only [cA, sA]; omega)), fun j _ _ => upd_ne (by simp only [cA, sA]; omega),
    fun i' _ _ => .inl (upd_ne (by simp only [sA]; omega)), fun i' _ _ => ?_, fun j o j0 j1 o0 o1 => .inl (h1 j o j0 j1 o0 o1), fun j x s => .inl (h2 j x s)⟩
  by_cases h : i' = i
  · rw [h]; exact .inr ho
  · exact .inl (upd_ne (by simp only [sA]; omega))
theorem Chg.opnW (hc : CfgOk c) (G0 : G c B f T K) {k : Int} (k0 : 0 ≤ k) (k1 : k < 4) {w : Nat} (hw : (w : Int) ≤ c.chunks) : Chg c f (upd f (2 + k) w) K t a := by
  have t0 := hc.t0
  have s0 := hc.s0
  have c0 := hc.c0
  obtain ⟨h1, h2⟩ := Chg.lo hc G0 (b := 2 + k) (w := w) (by omega)
  refine ⟨upd_ne (by omega), fun t' hn _ => upd_ne (by omega), fun k' _ _ => ?_, .inl (upd_ne (by omega)), fun j _ _ => .inl (upd_ne (by simp only [cA]; omega)), fun j _ _ => upd_ne (by simp only [cA]; omega),
    fun i' _ _ => .inl (upd_ne (by simp only [sA]; omega)), fun i' _ _ => .inl (upd_ne (by simp only [sA]; omega)), fun j o j0 j1 o0 o1 => .inl (h1 j o j0 j1 o0 o1), fun j x s => .inl (h2 j x s)⟩
  by_cases h : k' = k
  · rw [h, upd_self]; exact .inr hw
  · exact .inl (upd_ne (by omega))
theorem Chg.ckW (hc : CfgOk c) (G0 : G c B f T K) {j : Int} (j0 : 0 ≤ j) (j1 : j < c.chunks) {w : Nat} (hw : CkChg c f (upd f (cA c j) w) j) : Chg c f (upd f (cA c j) w) K t a := by
  have t0 := hc.t0
  have s0 := hc.s0
  have c0 := hc.c0
  obtain ⟨h1, h2⟩ := Chg.lo hc G0 (b := cA c j) (w := w) (by simp only [cA]; omega)
  refine ⟨upd_ne (by simp only [cA]; omega), fun t' hn _ => upd_ne (by simp only [cA]; omega), fun k' _ _ => .inl (upd_ne (by simp only [cA]; omega)), .inl (upd_ne (by simp only [cA]; omega)), fun j' _ _ => ?_, fun j' _ _ => upd_ne (by simp only [cA]; omega),
    fun i' _ _ => .inl (upd_ne (by simp only [sA, cA]; omega)), fun i' _ _ => .inl (upd_ne (by simp only [sA, cA]; omega)), fun j o j0 j1 o0 o1 => .inl (h1 j o j0 j1 o0 o1), fun j x s => .inl (h2 j x s)⟩
  by_cases h : j' = j
  · rw [h]; exact .inr hw
  · exact .inl (upd_ne (by simp only [cA]; omega))
theorem Chg.liveW (hc : CfgOk c) (G0 : G c B f T K) {j : Int} (j0 : 0 ≤ j) (j1 : j < c.chunks) (w : Nat) : Chg c f (upd f (cA c j + 1) w) K t a := by
  have t0 := hc.t0
  have s0 := hc.s0
  have c0 := hc.c0
  obtain ⟨h1, h2⟩ := Chg.lo hc G0 (b := cA c j + 1) (w := w) (by simp only [cA]; omega)
  exact ⟨upd_ne (by simp only [cA]; omega), fun t' hn _ => upd_ne (by simp only [cA]; omega), fun k' _ _ => .inl (upd_ne (by simp only [cA]; omega)), .inl (upd_ne (by simp only [cA]; omega)), fun j' _ _ => .inl (upd_ne (by simp only [cA]; omega)), fun j' _ _ => upd_ne (by simp only [cA]; omega),
    fun i' _ _ => .inl (upd_ne (by simp only [sA, cA]; omega)), fun i' _ _ => .inl (upd_ne (by simp only [sA, cA]; omega)), fun j o j0 j1 o0 o1 => .inl (h1 j o j0 j1 o0 o1), fun j x s => .inl (h2 j x s)⟩
theorem Chg.slW (hc : CfgOk c) (G0 : G c B f T K) {i : Int} (i0 : 0 ≤ i) (i1 : i < c.slots) {w : Nat} (hw : SlotChg c f (upd f (sA c i) w) K a i) : Chg c f (upd f (sA c i) w) K t a := by
  have t0 := hc.t0
  have s0 := hc.s0
  have c0 := hc.c0
  obtain ⟨h1, h2⟩ := Chg.lo hc G0 (b := sA c i) (w := w) (by simp only [sA]; omega)
  refine ⟨upd_ne (by simp only [sA]; omega), fun t' hn _ => upd_ne (by simp only [sA]; omega), fun k' _ _ => .inl (upd_ne (by simp only [sA]; omega)), .inl (upd_ne (by simp only [sA]; omega)), fun j' _ _ => .inl (upd_ne (by simp only [cA, sA]; omega)), fun j' _ _ => upd_ne (by simp only [cA, sA]; omega),
    fun i' _ _ => ?_, fun i' _ _ => .inl (upd_ne (by simp only [sA]; omega)), fun j o j0 j1 o0 o1 => .inl (h1 j o j0 j1 o0 o1), fun j x s => .inl (h2 j x s)⟩
  by_cases h : i' = i
  · rw [h]; exact .inr hw
  · exact .inl (upd_ne (by simp only [sA]; omega))
theorem Chg.datW (hc : CfgOk c) (G0 : G c B f T K) {j x : Int} {k : Int} {w : Nat} (s : Spot c f j x) (hz : ¬ Zer K j) (k0 : 0 ≤ k) (k1 : k < roomA (ck c f j).cls)
    (hh : k = 0 → spotO a x ∧ ((hd (upd f x w) x).kind ≠ 3 ∨ NotPt c f x) ∧ ((hd f x).kind ≠ 0 → (hd (upd f x w) x).kind ≠ 0 ∧ (hd (upd f x w) x).slot = (hd f x).slot ∧ (hd (upd f x w) x).gen = (hd f x).gen ∧ (hd (upd f x w) x).size = (hd f x).size)) : Chg c f (upd f (x + k) w) K t a := by
  have t0 := hc.t0
  have s0 := hc.s0
  have c0 := hc.c0
  have hus := (G0.ch j s.j0 s.j1).us
  have hb := s.bd hus
  have hlo := bA_ge hc s.j0
  refine ⟨upd_ne (by omega), fun t' hn _ => upd_ne (by omega), fun k' _ _ => .inl (upd_ne (by omega)), .inl (upd_ne (by omega)), fun j' _ _ => .inl (upd_ne (by simp only [cA]; omega)), fun j' _ _ => upd_ne (by simp only [cA]; omega),
    fun i' _ _ => .inl (upd_ne (by simp only [sA]; omega)), fun i' _ _ => .inl (upd_ne (by simp only [sA]; omega)), fun j' o j0 j1 o0 o1 => ?_, fun j' y s' => ?_⟩
  · by_cases e : bA c j' + o = x + k
    · right
      have hj : j' = j := by
        rcases Int.lt_trichotomy j' j with q | q | q
        · have := bA_mono hc q; omega
        · exact q
        · have := bA_mono hc q; omega
      rw [hj] at e ⊢
      exact ⟨by omega, hz⟩
    · exact .inl (upd_ne e)
  · by_cases e : y = x + k
    · have hb' := s'.bd (G0.ch j' s'.j0 s'.j1).us
      have hj : j' = j := by
        rcases Int.lt_trichotomy j' j with q | q | q
        · have := bA_mono hc q; omega
        · exact q
        · have := bA_mono hc q; omega
      subst hj
      have hk : k = 0 := by
        rcases (by omega : k = 0 ∨ 0 < k) with q | q
        · exact q
        · have := s.gap s' (by omega); omega
      subst hk
      rw [Int.add_zero] at e ⊢
      subst e
      exact .inr (hh rfl)
    · exact .inl (upd_ne e)
theorem Chg.frs (C : Chg c f g K t a) (G0 : G c B f T K) (hT : T t = some a) (h1 : g 1 = f 1) {o : Option ActS} (o2 : ∀ a' i, o = some a' → slotO c a' i → slotO c a i) :
    ∃ F : List Int, topSlot (g 1) = headI F ∧ ChainF c g F ∧ F.Nodup ∧ ∀ i ∈ F, (sl c g i).state = 0 ∧ ∀ n s, upT T t o n = some s → ¬ slotO c s i := by
  obtain ⟨F, q1, q2, q3, q4⟩ := G0.fr
  have hb := fun i hi => ChainF.mem q2 i hi
  have hl : ∀ i ∈ F, g (sA c i + 1) = f (sA c i + 1) := fun i hi => by
    rcases C.lnk i (hb i hi).1 (hb i hi).2 with e | e
    · exact e
    · exact absurd e ((q4 i hi).2 t a hT)
  refine ⟨F, by rw [h1]; exact q1, q2.congr hl, q3, fun i hi => ⟨?_, fun n s hn hs => ?_⟩⟩
  · rcases C.slw i (hb i hi).1 (hb i hi).2 with e | e
    · rw [sl_same e]; exact (q4 i hi).1
    · have h0 := (q4 i hi).1
      rcases e with ⟨ho, _⟩ | ⟨hl, _⟩ | ⟨h4, _⟩
      · exact absurd ho ((q4 i hi).2 t a hT)
      · rcases hl with l | l | l <;> omega
      · omega
  · by_cases hnt : n = t
    · subst hnt
      rw [upT_self] at hn
      exact (q4 i hi).2 n a hT (o2 s i hn hs)
    · rw [upT_ne hnt] at hn
      exact (q4 i hi).2 n s hn hs
theorem G.doer (G0 : G c B f T K) (hT : T t = some a) (hp : a.pc = 1) (C : Chg c f g K t a) {b : Bool} {a' : ActS} (ha : a'.pc = if b then 2 else 1) (hi : a'.i = a.i) (hpin : g (6 + t) = f (6 + t))
    (w1 : b = false → DoerOk c g K a.i.epoch a'.work)
    (w2 : b = false → ∀ i, slotD c i a'.work → slotD c i a.work ∨ ∀ n s, T n = some s → ¬ slotO c s i)
    (w3 : b = false → ∀ x, spotD x a'.work → spotD x a.work ∨ ∀ j, ¬ Spot c f j x)
    (w4 : ∀ j x, Spot c f j x → spotD x a.work → (b = false ∧ spotD x a'.work) ∨ (((FL.hd g x).kind = 2 ∨ (FL.hd g x).kind = 3) ∧ ∃ i gn z, Pt c g j x i gn z))
    (w6 : ∀ j x, Spot c g j x → Spot c f j x ∨ (b = false ∧ spotD x a'.work))
    (fr : ∃ F : List Int, topSlot (g 1) = headI F ∧ ChainF c g F ∧ F.Nodup ∧ ∀ i ∈ F, (FL.sl c g i).state = 0 ∧ ∀ n s, upT T t (some a') n = some s → ¬ slotO c s i) : G c (B + 1) g (upT T t (some a')) K := by
  have hA := (G0.th t a hT).2
  have hb : a'.pc = 1 → b = false := fun h => by cases b <;> simp_all
  have hb2 : b = false → a'.pc = 1 := fun h => by subst h; exact ha
  refine G0.thread hT C (some a') (fun a2 h2 => ?_) (fun a2 i h2 hs => ?_) (fun a2 x h2 hs => ?_) (fun j x s hs => ?_) (fun a2 h2 h1 => ?_) (fun j x s => ?_) fr
  · cases h2
    refine ⟨fun h0 => ?_, fun h1 => ?_, fun h1 => ?_, fun h0 => ?_⟩
    · cases b <;> simp_all
    · rw [hi, hpin, C.ep]; exact hA.pin hp
    · rw [hi]; exact w1 (hb h1)
    · cases b <;> simp_all
  · cases h2
    rcases w2 (hb hs.1) i hs.2 with r | r
    · exact .inl ⟨hp, r⟩
    · exact .inr r
  · cases h2
    rcases w3 (hb hs.1) x hs.2 with r | r
    · exact .inl ⟨hp, r⟩
    · exact .inr r
  · rcases w4 j x s hs.2 with ⟨r1, r2⟩ | r
    · exact .inl ⟨a', rfl, hb2 r1, r2⟩
    · exact .inr r
  · cases h2
    exact .inl ⟨hp, by rw [hi]⟩
  · rcases w6 j x s with r | ⟨r1, r2⟩
    · exact .inl r
    · exact .inr ⟨a', rfl, hb2 r1, r2⟩
theorem G.doerS (G0 : G c B f T K) (hT : T t = some a) (hp : a.pc = 1) (C : Chg c f g K t a) {b : Bool} {a' : ActS} (ha : a'.pc = if b then 2 else 1) (hi : a'.i = a.i) (hpin : g (6 + t) = f (6 + t)) (h1 : g 1 = f 1) (hk : ∀ j, 0 ≤ j → j < c.chunks → g (cA c j) = f (cA c j))
    (w1 : b = false → DoerOk c g K a.i.epoch a'.work) (w2 : b = false → ∀ i, slotD c i a'.work → slotD c i a.work) (w3 : b = false → ∀ x, spotD x a'.work → spotD x a.work)
    (w4 : ∀ j x, Spot c f j x → spotD x a.work → (b = false ∧ spotD x a'.work) ∨ (((FL.hd g x).kind = 2 ∨ (FL.hd g x).kind = 3) ∧ ∃ i gn z, Pt c g j x i gn z)) : G c (B + 1) g (upT T t (some a')) K := by
  have hb : a'.pc = 1 → b = false := fun h => by cases b <;> simp_all
  refine G0.doer hT hp C ha hi hpin w1 (fun h i hs => .inl (w2 h i hs)) (fun h x hs => .inl (w3 h x hs)) w4 (fun j x s => .inl (s.same (hk j s.j0 s.j1).symm)) (C.frs G0 hT h1 fun a2 i h2 hs => ?_)
  cases h2
  exact ⟨hp, w2 (hb hs.1) i hs.2⟩
end
end Go.FL

/- Safety: a thread begins, pins, and is done. No program in sight. -/
namespace Go.FL
open Go Go.SL
structure Now (c : Cfg) (B : Nat) (m : MemS) (T : Th) (K : CompS) : Prop where
  len : (m.cs.length : Int) = bA c c.chunks
  g : G c B (wd m) T K
theorem topCount_put {s n : Int} (h0 : 0 ≤ n) (h1 : n ≤ 68719476735) : topCount (putTop s n) = n := by
  have hx := fitN_le (w64 (min s 65535 + 1)) 65536
  simp only [topCount, putTop]
  rw [or_shl _ _ 17 (by omega), m36, Nat.shiftRight_eq_div_pow, fitN_eq h0 (by omega)]
  omega
theorem topSlot_bd (w : Nat) : -1 ≤ topSlot w := by simp only [topSlot]; omega
theorem topCount_nn (w : Nat) : 0 ≤ topCount w := by simp only [topCount]; omega
section
variable {c : Cfg} {f g : Int → Nat} {K : CompS} {t : Nat} {a : ActS} {T : Th} {B : Nat} {m : MemS}
theorem bA_pos (hc : CfgOk c) : 6 + c.threads + 2 * c.slots + 3 * c.chunks < bA c c.chunks := by
  have h := bA_le hc (j := 0) (by have := hc.c0; omega)
  have h2 := bA_zero c
  have := hc.w0
  omega
theorem G.free (G0 : G c B f T K) (hT : T t = some a) (C : Chg c f g K t a) (hx0 : ∀ x, ¬ spotO a x) (o : Option ActS) (o1 : ∀ a', o = some a' → ActOk c g K t a') (hs : ∀ a' i, o = some a' → ¬ slotO c a' i) (hx : ∀ a' x, o = some a' → ¬ spotO a' x)
    (o5 : ∀ a', o = some a' → a'.pc = 1 → (a.pc = 1 ∧ a'.i.epoch = a.i.epoch) ∨ a'.i.epoch = f 0) (h1 : g 1 = f 1) (hk : ∀ j, 0 ≤ j → j < c.chunks → g (cA c j) = f (cA c j)) : G c (B + 1) g (upT T t o) K :=
  G0.thread hT C o o1 (fun a' i h q => absurd q (hs a' i h)) (fun a' x h q => absurd q (hx a' x h)) (fun _ x _ q => absurd q (hx0 x)) o5 (fun j x s => .inl (s.same (hk j s.j0 s.j1).symm)) (C.frs G0 hT h1 fun a' i h q => absurd q (hs a' i h))
theorem new_own {d : DoerS} (h : DNew d) : (∀ i, ¬ slotD c i d) ∧ ∀ x, ¬ spotD x d := by
  cases d with
  | alloc s => obtain ⟨h, _⟩ := h; exact ⟨fun i q => by have := q.2.1; omega, fun x q => by have := q.2.1; omega⟩
  | drop s => have h : s.pc = 0 := h; exact ⟨fun i q => by have := q.2; omega, fun x q => q⟩
  | access s => exact ⟨fun i q => q, fun x q => q⟩
theorem new_ok {d : DoerS} (h : DNew d) (p : Nat) : DoerOk c f K p d := by
  cases d with
  | alloc s =>
    obtain ⟨h, h2, h3⟩ := h
    exact (⟨fun _ => ⟨h3, fun q => absurd h2 q, fun q => absurd h2 q, fun q => absurd h2 q⟩, fun q => by omega, fun q => by omega, fun q => by omega, fun q => by omega, fun q => by omega, fun q => by omega, fun q => by omega, fun q => by omega⟩ : AllocOk c f s)
  | drop s =>
    have h : s.pc = 0 := h
    exact (⟨fun q => by omega, fun q => by omega, fun q => by omega, fun q => by omega, fun q => by omega, fun q => by omega, fun q => by omega⟩ : DropOk c f K p s)
  | access s =>
    have h : s.pc = 0 := h
    exact (⟨fun q => by omega, fun q => by omega, fun q => by omega⟩ : AccessOk c f K p s)
theorem newAct_new (x : ActX) : DNew (newAct x).work := by
  show DNew (doerOf x)
  unfold doerOf
  split
  · exact ⟨rfl, rfl, rfl⟩
  · split
    · exact (rfl : (newDrop x.handle x.own).pc = 0)
    · exact (rfl : (newAccess _ x.own).pc = 0)
theorem G.begin (G0 : G c B f T K) (hT : T t = none) (ht : (t : Int) < c.threads) (x : ActX) : G c B f (upT T t (some (newAct x))) K := by
  have cs : ∀ n s, upT T t (some (newAct x)) n = some s → (n = t ∧ s = newAct x) ∨ (n ≠ t ∧ T n = some s) := by
    intro n s h
    by_cases hn : n = t
    · subst hn; rw [upT_self] at h; cases h; exact .inl ⟨rfl, rfl⟩
    · rw [upT_ne hn] at h; exact .inr ⟨hn, h⟩
  have nS : ∀ i, ¬ slotO c (newAct x) i := fun i h => by have h1 : (0 : Nat) = 1 := h.1; omega
  have nP : ∀ i, ¬ spotO (newAct x) i := fun i h => by have h1 : (0 : Nat) = 1 := h.1; omega
  have pas : ∀ j pos, Passed c f T j pos → Passed c f (upT T t (some (newAct x))) j pos := by
    intro j pos h y sy hy
    obtain ⟨r1, r2⟩ := h y sy hy
    refine ⟨r1, fun n s hn hs => ?_⟩
    rcases cs n s hn with ⟨_, rfl⟩ | ⟨_, h2⟩
    · exact nP y hs
    · exact r2 n s h2 hs
  obtain ⟨F, q1, q2, q3, q4⟩ := G0.fr
  refine ⟨G0.ep, G0.tc, ⟨F, q1, q2, q3, fun i hi => ⟨(q4 i hi).1, fun n s hn hs => ?_⟩⟩, G0.gn, G0.ob, G0.s2, G0.ch, fun j y sy nz => ?_, fun n n' s s' i h1 h2 h3 h4 => ?_, fun n n' s s' i h1 h2 h3 h4 => ?_, fun n s y h1 h2 => ?_, G0.op, fun n s h => ?_, ?_⟩
  · rcases cs n s hn with ⟨_, rfl⟩ | ⟨_, h2⟩
    · exact nS i hs
    · exact (q4 i hi).2 n s h2 hs
  · rcases G0.hd j y sy nz with ⟨n, s, h1, h2⟩ | h | h
    · refine .inl ⟨n, s, ?_, h2⟩
      rw [upT_ne]
      · exact h1
      · intro e; subst e; rw [hT] at h1; cases h1
    · exact .inr (.inl h)
    · exact .inr (.inr h)
  · rcases cs n s h1 with ⟨_, rfl⟩ | ⟨e1, e2⟩
    · exact absurd h3 (nS i)
    · rcases cs n' s' h2 with ⟨_, rfl⟩ | ⟨d1, d2⟩
      · exact absurd h4 (nS i)
      · exact G0.oS n n' s s' i e2 d2 h3 h4
  · rcases cs n s h1 with ⟨_, rfl⟩ | ⟨e1, e2⟩
    · exact absurd h3 (nP i)
    · rcases cs n' s' h2 with ⟨_, rfl⟩ | ⟨d1, d2⟩
      · exact absurd h4 (nP i)
      · exact G0.oP n n' s s' i e2 d2 h3 h4
  · rcases cs n s h1 with ⟨_, rfl⟩ | ⟨e1, e2⟩
    · exact absurd h2 (nP y)
    · exact G0.oK n s y e2 h2
  · rcases cs n s h with ⟨rfl, rfl⟩ | ⟨e1, e2⟩
    · exact ⟨ht, fun _ (h : 2 ≤ 0) => by omega, fun (h : 0 = 1) => by omega, fun (h : 0 = 1) => by omega, fun _ => newAct_new x⟩
    · exact G0.th n s e2
  · have h := G0.co
    refine ⟨h.at_, h.le, h.a0, h.z0, h.sb, h.s0, h.s1, h.s2, h.w3, h.ev, h.pos, fun q => pas _ _ (h.ps q), fun q1 q2 => pas _ _ (h.pu q1 q2), h.mv, h.now, h.s8, fun q s hs => ?_, h.set⟩
    have v := h.adv q s hs
    refine ⟨v.now, v.at_, v.a1, v.a0, fun q1 n s' hn hs' hp => ?_, v.all⟩
    rcases cs n s' hs' with ⟨_, rfl⟩ | ⟨_, e2⟩
    · have h1 : (0 : Nat) = 1 := hp
      omega
    · exact v.seen q1 n s' hn e2 hp
theorem act_in (hc : CfgOk c) (N : Now c B m T K) (hT : T t = some a) (hp : a.pc = 0) (hB : B < 34359738368) : (a.step ⟨c, t⟩ m).1 = false ∧ Now c (B + 1) (a.step ⟨c, t⟩ m).2.2 (upT T t (some (a.step ⟨c, t⟩ m).2.1)) K := by
  obtain ⟨len, G0⟩ := N
  have M : Mf m (bA c c.chunks) (wd m) := ⟨len, rfl⟩
  generalize wd m = f at *
  obtain ⟨hlt, hA⟩ := G0.th t a hT
  have hL := bA_pos hc
  have t0 := hc.t0
  have t1 := hc.t1
  have s0 := hc.s0
  have c0 := hc.c0
  obtain ⟨⟨ip, ep⟩, pc, work, out⟩ := a
  obtain rfl : pc = 0 := hp
  have hn := hA.n0 rfl
  have hx0 : ∀ x, ¬ spotO (⟨⟨ip, ep⟩, 0, work, out⟩ : ActS) x := fun x h => by have h1 : (0 : Nat) = 1 := h.1; omega
  have key : ∀ (i : InS) (g : Int → Nat) (m' : MemS), Mf m' (bA c c.chunks) g → Chg c f g K t ⟨⟨ip, ep⟩, 0, work, out⟩ → g 1 = f 1 → (∀ j, 0 ≤ j → j < c.chunks → g (cA c j) = f (cA c j)) → (2 ≤ i.pc → g (6 + t) = inc64 i.epoch) → Now c (B + 1) m' (upT T t (some ⟨i, 0, work, out⟩)) K := by
    intro i g m' M' C h1 hk h2
    refine ⟨M'.len, ?_⟩
    rw [M'.wd]
    refine G0.free hT C hx0 _ (fun a' h => ?_) (fun a' i h hs => ?_) (fun a' i h hs => ?_) (fun a' h h1 => ?_) h1 hk
    · cases h; exact ⟨fun _ => h2, fun (h : 0 = 1) => by omega, fun (h : 0 = 1) => by omega, fun _ => hn⟩
    · cases h; have h1 : (0 : Nat) = 1 := hs.1; omega
    · cases h; have h1 : (0 : Nat) = 1 := hs.1; omega
    · cases h; have h1 : (0 : Nat) = 1 := h1; omega
  rcases ip with _ | _ | ip
  · obtain ⟨m', e1, M', _⟩ := M.ld ⟨c, t⟩ (a := 0) (by omega) (by omega)
    have e2 : (⟨⟨0, ep⟩, 0, work, out⟩ : ActS).step ⟨c, t⟩ m = (false, ⟨⟨1, f 0⟩, 0, work, out⟩, m') := by simp [ActS.step, InS.step, e1]
    rw [e2]
    exact ⟨rfl, key _ f m' M' (Chg.none ..) rfl (fun _ _ _ => rfl) (fun (h : 2 ≤ 1) => by omega)⟩
  · have hpa : pinA (t : Int) = 6 + t := w64_id (by omega) (by omega)
    obtain ⟨m', e1, M', _⟩ := M.st ⟨c, t⟩ (inc64 ep) (a := 6 + t) (by omega) (by omega)
    have e2 : (⟨⟨1, ep⟩, 0, work, out⟩ : ActS).step ⟨c, t⟩ m = (false, ⟨⟨2, ep⟩, 0, work, out⟩, m') := by simp [ActS.step, InS.step, hpa, e1]
    rw [e2]
    exact ⟨rfl, key _ _ m' M' (Chg.pinW hc G0 hlt _) (upd_ne (by omega)) (fun j _ _ => upd_ne (by simp only [cA]; omega)) (fun _ => upd_self _ _ _)⟩
  · obtain ⟨m', e1, M', _⟩ := M.ld ⟨c, t⟩ (a := 0) (by omega) (by omega)
    by_cases he : f 0 = ep
    · have e2 : (⟨⟨ip + 2, ep⟩, 0, work, out⟩ : ActS).step ⟨c, t⟩ m = (false, ⟨⟨ip + 2, ep⟩, 1, work, out⟩, m') := by simp [ActS.step, InS.step, e1, he]
      rw [e2]
      refine ⟨rfl, M'.len, ?_⟩
      rw [M'.wd]
      have hw := new_own (c := c) hn
      refine G0.free hT (Chg.none ..) hx0 _ (fun a' h => ?_) (fun a' i h hs => ?_) (fun a' i h hs => ?_) (fun a' h h1 => ?_) rfl (fun _ _ _ => rfl)
      · cases h
        exact ⟨fun (h : 1 = 0) => by omega, fun _ => ⟨hA.i2 rfl (by show 2 ≤ ip + 2; omega), .inl he⟩, fun _ => new_ok hn _, fun (h : 1 = 0) => by omega⟩
      · cases h; exact hw.1 i hs.2
      · cases h; exact hw.2 i hs.2
      · cases h; exact .inr he.symm
    · have hb : Nat.beq (f 0) ep = false := by rw [beq_false]; exact he
      have e2 : (⟨⟨ip + 2, ep⟩, 0, work, out⟩ : ActS).step ⟨c, t⟩ m = (false, ⟨⟨1, f 0⟩, 0, work, out⟩, m') := by simp [ActS.step, InS.step, e1, hb]
      rw [e2]
      exact ⟨rfl, key _ f m' M' (Chg.none ..) rfl (fun _ _ _ => rfl) (fun (h : 2 ≤ 1) => by omega)⟩
theorem act_out (hc : CfgOk c) (N : Now c B m T K) (hT : T t = some a) (hp : 2 ≤ a.pc) : (a.step ⟨c, t⟩ m).1 = true ∧ Now c (B + 1) (a.step ⟨c, t⟩ m).2.2 (upT T t none) K := by
  obtain ⟨len, G0⟩ := N
  have M : Mf m (bA c c.chunks) (wd m) := ⟨len, rfl⟩
  generalize wd m = f at *
  obtain ⟨hlt, hA⟩ := G0.th t a hT
  have hL := bA_pos hc
  have t0 := hc.t0
  have t1 := hc.t1
  have s0 := hc.s0
  have c0 := hc.c0
  have hpa : pinA (t : Int) = 6 + t := w64_id (by omega) (by omega)
  obtain ⟨m', e1, M', _⟩ := M.st ⟨c, t⟩ 0 (a := 6 + t) (by omega) (by omega)
  have e2 : a.step ⟨c, t⟩ m = (true, a, m') := by
    obtain ⟨i, pc, work, out⟩ := a
    obtain ⟨n, rfl⟩ : ∃ n, pc = n + 2 := ⟨pc - 2, by have : 2 ≤ pc := hp; omega⟩
    simp [ActS.step, outStep, hpa, e1]
  rw [e2]
  refine ⟨rfl, M'.len, ?_⟩
  rw [M'.wd]
  exact G0.free hT (Chg.pinW hc G0 hlt _) (fun x h => by have := h.1; omega) none (fun a' h => by cases h) (fun a' i h => by cases h) (fun a' i h => by cases h) (fun a' h => by cases h) (upd_ne (by omega)) (fun j _ _ => upd_ne (by simp only [cA]; omega))
end
end Go.FL

/- Safety: who takes a slot, gives one, wants words. No program in sight. -/
namespace Go.FL
open Go Go.SL
section
variable {c : Cfg} {f g : Int → Nat} {K : CompS} {t : Nat} {a : ActS} {T : Th} {B : Nat} {m : MemS} {e : EnvS}
theorem slA_eq (hc : CfgOk c) {i : Int} (i0 : 0 ≤ i) (i1 : i < c.slots) : slotA c i = sA c i ∧ w64 (slotA c i + 1) = sA c i + 1 ∧ 0 ≤ sA c i ∧ sA c i + 1 < bA c c.chunks := by
  have h := bA_pos hc
  have h2 := bA_bd hc
  have s1 := hc.s1
  have t0 := hc.t0
  have c0 := hc.c0
  have e := slotA_eq hc (i := i) (by omega) (by omega)
  rw [e]
  simp only [sA]
  exact ⟨trivial, w64_id (by omega) (by omega), by omega, by omega⟩
theorem ckA_eq (hc : CfgOk c) {j : Int} (j0 : 0 ≤ j) (j1 : j < c.chunks) : chunkA c j = cA c j ∧ w64 (chunkA c j + 1) = cA c j + 1 ∧ w64 (chunkA c j + 2) = cA c j + 2 ∧ 0 ≤ cA c j ∧ cA c j + 2 < bA c c.chunks := by
  have h := bA_pos hc
  have h2 := bA_bd hc
  have s0 := hc.s0
  have t0 := hc.t0
  have c1 := hc.c1
  have e := chunkA_eq hc (i := j) (by omega) (by omega)
  rw [e]
  simp only [cA]
  exact ⟨trivial, w64_id (by omega) (by omega), w64_id (by omega) (by omega), by omega, by omega⟩
theorem top_range (hc : CfgOk c) (G0 : G c B f T K) (h : 0 ≤ topSlot (f 1)) : ∃ F : List Int, topSlot (f (sA c (topSlot (f 1)) + 1)) = headI F ∧ ChainF c f F ∧ F.Nodup ∧ topSlot (f 1) ∉ F ∧ Own c f (topSlot (f 1)) ∧ (∀ n s, T n = some s → ¬ slotO c s (topSlot (f 1))) ∧ ∀ i ∈ F, (sl c f i).state = 0 ∧ ∀ n s, T n = some s → ¬ slotO c s i := by
  obtain ⟨F, q1, q2, q3, q4⟩ := G0.fr
  cases F with
  | nil => simp only [headI] at q1; omega
  | cons i F =>
    simp only [headI] at q1
    rw [q1]
    have hi := q4 i (by simp)
    exact ⟨F, q2.2.1, q2.2.2, (List.nodup_cons.1 q3).2, (List.nodup_cons.1 q3).1, ⟨q2.1.1, q2.1.2, hi.1⟩, hi.2, fun x hx => q4 x (by simp [hx])⟩
theorem top_lt (hc : CfgOk c) (G0 : G c B f T K) : topSlot (f 1) < c.slots := by
  rcases (by omega : 0 ≤ topSlot (f 1) ∨ topSlot (f 1) < 0) with h | h
  · obtain ⟨F, _, _, _, _, o, _⟩ := top_range hc G0 h
    exact o.2.1
  · have := hc.s0; omega
theorem take_step (hc : CfgOk c) (ec : e.c = c) (M : Mf m (bA c c.chunks) f) (G0 : G c B f T K) {s : TakeS} (h : TakeOk c f s) : ∃ b s' m' g, s.step e m = (b, s', m') ∧ Mf m' (bA c c.chunks) g ∧
    ((g = f ∧ s'.ok = false ∧ (b = false → TakeOk c f s')) ∨ (b = true ∧ s'.ok = true ∧ s'.slot = s.slot ∧ 0 ≤ s.slot ∧ s.slot = topSlot (f 1) ∧ s.next = topSlot (f (sA c s.slot + 1)) ∧ f 1 = s.top ∧ g = upd f 1 (putTop s.next (w64 (topCount s.top + 1))))) := by
  have hL := bA_pos hc
  have t0 := hc.t0
  have s0 := hc.s0
  have c0 := hc.c0
  obtain ⟨pc, top, next, slot, ok⟩ := s
  have hok : ok = false := h.ok
  subst hok
  rcases pc with _ | _ | pc
  · obtain ⟨m', e1, M', _⟩ := M.ld e (a := 1) (by omega) (by omega)
    refine ⟨decide (topSlot (f 1) < 0), ⟨1, f 1, next, topSlot (f 1), false⟩, m', f, by simp [TakeS.step, e1], M', .inl ⟨rfl, rfl, fun hb => ?_⟩⟩
    have h0 : 0 ≤ topSlot (f 1) := by simpa using hb
    obtain ⟨F, _, _, _, _, o, _⟩ := top_range hc G0 h0
    exact ⟨rfl, fun _ => ⟨o.1, o.2.1, rfl⟩, fun _ => ⟨Int.le_refl _, fun _ => rfl⟩, fun _ h1 => absurd rfl h1⟩
  · have hs := h.sl (by simp)
    obtain ⟨_, a1, a2, a3⟩ := slA_eq hc hs.1 hs.2.1
    obtain ⟨m', e1, M', _⟩ := M.ld e (a := sA c slot + 1) (by have : 0 ≤ sA c slot := a2; omega) a3
    have a1' : w64 (slotA e.c slot + 1) = sA c slot + 1 := by rw [ec]; exact a1
    refine ⟨false, ⟨2, top, topSlot (f (sA c slot + 1)), slot, false⟩, m', f, by simp [TakeS.step, a1', e1], M', .inl ⟨rfl, rfl, fun _ => ⟨rfl, fun _ => hs, fun _ => h.old (by simp), fun _ _ _ => rfl⟩⟩⟩
  · have hs := h.sl (by simp)
    by_cases he : f 1 = top
    · obtain ⟨m', e1, M', _⟩ := M.casT e (a := 1) (old := top) (putTop next (w64 (topCount top + 1))) (by omega) (by omega) he
      refine ⟨true, ⟨0, top, next, slot, true⟩, m', _, by simp [TakeS.step, e1], M', .inr ⟨rfl, rfl, rfl, hs.1, by rw [he]; exact hs.2.2, h.nx (by simp) (by simp) he, he, rfl⟩⟩
    · obtain ⟨m', e1, M', _⟩ := M.casF e (a := 1) (old := top) (putTop next (w64 (topCount top + 1))) (by omega) (by omega) he
      refine ⟨false, ⟨0, top, next, slot, false⟩, m', f, by simp [TakeS.step, e1], M', .inl ⟨rfl, rfl, fun _ => ⟨rfl, fun h => absurd rfl h, fun h => absurd rfl h, fun h => absurd rfl h⟩⟩⟩
theorem give_step (hc : CfgOk c) (ec : e.c = c) (M : Mf m (bA c c.chunks) f) (G0 : G c B f T K) {s : GiveS} (i0 : 0 ≤ s.slot) (i1 : s.slot < c.slots) (h : GiveOk c f s) : ∃ b s' m' g, s.step e m = (b, s', m') ∧ Mf m' (bA c c.chunks) g ∧ s'.slot = s.slot ∧
    ((g = f ∧ b = false ∧ GiveOk c f s') ∨ (b = false ∧ (∃ w, g = upd f (sA c s.slot + 1) w) ∧ GiveOk c g s') ∨ (b = true ∧ topSlot (f (sA c s.slot + 1)) = topSlot (f 1) ∧ f 1 = s.top ∧ g = upd f 1 (putTop s.slot (w64 (topCount s.top + 1))))) := by
  have hL := bA_pos hc
  have t0 := hc.t0
  have s0 := hc.s0
  have c0 := hc.c0
  obtain ⟨pc, slot, top⟩ := s
  simp only at i0 i1
  obtain ⟨_, a1, a2, a3⟩ := slA_eq hc i0 i1
  have a1' : w64 (slotA e.c slot + 1) = sA c slot + 1 := by rw [ec]; exact a1
  rcases pc with _ | _ | pc
  · obtain ⟨m', e1, M', _⟩ := M.ld e (a := 1) (by omega) (by omega)
    exact ⟨false, ⟨1, slot, f 1⟩, m', f, by simp [GiveS.step, e1], M', rfl, .inl ⟨rfl, rfl, ⟨fun _ h => absurd rfl h, fun _ => top_lt hc G0⟩⟩⟩
  · obtain ⟨m', e1, M', _⟩ := M.st e (putTop (topSlot top) 0) (a := sA c slot + 1) (by omega) a3
    refine ⟨false, ⟨2, slot, top⟩, m', _, by simp [GiveS.step, a1', e1], M', rfl, .inr (.inl ⟨rfl, ⟨_, rfl⟩, ⟨fun _ _ => ?_, fun _ => h.tb (by simp)⟩⟩)⟩
    show topSlot (upd f (sA c slot + 1) _ (sA c slot + 1)) = _
    rw [upd_self]
    have hb := topSlot_bd top
    have hb2 : topSlot top < c.slots := h.tb (by simp)
    have := hc.s1
    rw [topSlot_put hb (by omega)]
  · by_cases he : f 1 = top
    · obtain ⟨m', e1, M', _⟩ := M.casT e (a := 1) (old := top) (putTop slot (w64 (topCount top + 1))) (by omega) (by omega) he
      exact ⟨true, ⟨0, slot, top⟩, m', _, by simp [GiveS.step, e1], M', rfl, .inr (.inr ⟨rfl, by rw [he]; exact h.lk (by simp) (by simp), he, rfl⟩)⟩
    · obtain ⟨m', e1, M', _⟩ := M.casF e (a := 1) (old := top) (putTop slot (w64 (topCount top + 1))) (by omega) (by omega) he
      exact ⟨false, ⟨0, slot, top⟩, m', f, by simp [GiveS.step, e1], M', rfl, .inl ⟨rfl, rfl, ⟨fun h => absurd rfl h, fun h => absurd rfl h⟩⟩⟩
theorem chunkOf_put' {s k u x : Int} (h1 : 0 ≤ s ∧ s ≤ 3) (h2 : 0 ≤ k ∧ k ≤ 63) (h3 : 0 ≤ u ∧ u ≤ 1048575) : chunkOf (putChunk ⟨s, k, u, x⟩) = ⟨s, k, u, fitN x 68719476735⟩ := chunkOf_put h1 h2 h3
theorem w64_nat' {n : Nat} (h : (n : Int) < 9223372036854775808) : IntKind.i64.wrap (n : Int) = n := w64_id (by omega) (by omega)
theorem place_step (hc : CfgOk c) (ec : e.c = c) (M : Mf m (bA c c.chunks) f) (G0 : G c B f T K) {s : PlaceS} (h : PlaceOk c s) : ∃ b s' m' g, s.step e m = (b, s', m') ∧ Mf m' (bA c c.chunks) g ∧ s'.cls = s.cls ∧
    ((g = f ∧ s'.ok = false ∧ (b = false → PlaceOk c s')) ∨
     (b = false ∧ PlaceOk c s' ∧ s'.ok = false ∧ ∃ w : Nat, (w : Int) ≤ c.chunks ∧ g = upd f (2 + s.cls) w) ∨
     (b = false ∧ PlaceOk c s' ∧ s'.ok = false ∧ ∃ j w, 0 ≤ j ∧ j < c.chunks ∧ g = upd f (cA c j) w ∧ CkChg c f (upd f (cA c j) w) j ∧ (ck c f j).used = 0 ∧ (chunkOf w).used = 0) ∨
     (b = true ∧ s'.ok = true ∧ ∃ j w, 0 ≤ j ∧ j < c.chunks ∧ s'.chunk = j ∧ s'.addr = bA c j + (ck c f j).used ∧ g = upd f (cA c j) w ∧ CkChg c f (upd f (cA c j) w) j ∧ (ck c f j).state = 1 ∧ (chunkOf w).state = 1 ∧ (ck c f j).cls = s.cls ∧ (chunkOf w).cls = s.cls ∧ (chunkOf w).used = (ck c f j).used + roomA s.cls ∧ (ck c f j).used + roomA s.cls ≤ c.words)) := by
  have hL := bA_pos hc
  have hbd := bA_bd hc
  have t0 := hc.t0
  have s0 := hc.s0
  have c0 := hc.c0
  have c1 := hc.c1
  have w1 := hc.w1
  obtain ⟨cls, pc, opn, at_, w, addr, chunk, ok⟩ := s
  have hok : ok = false := h.ok
  subst hok
  have k0 : 0 ≤ cls := h.k0
  have k1 : cls < 4 := h.k1
  have hr := room_bd k0 k1
  have hpos : 0 < c.chunks := by omega
  rcases pc with _ | _ | _ | _ | _ | _ | pc
  · have ho := openA_eq k0 k1
    obtain ⟨m', e1, M', _⟩ := M.ld e (a := 2 + cls) (by omega) (by omega)
    have hop := G0.op cls k0 k1
    have ew : w64 (IntKind.i64.wrap (f (2 + cls)) - 1) = (f (2 + cls) : Int) - 1 := by
      rw [w64_nat' (by omega)]; exact w64_id (by omega) (by omega)
    by_cases hz : (f (2 + cls) : Int) - 1 < 0
    · refine ⟨false, ⟨cls, 3, f (2 + cls), 0, w, addr, chunk, false⟩, m', f, by simp [PlaceS.step, ho, e1, ew, hz], M', rfl, .inl ⟨rfl, rfl, fun _ => ⟨k0, k1, rfl, fun _ => ⟨Int.le_refl 0, hpos⟩, fun (h : 3 = 2) => by omega, fun (h : 3 = 4) => by omega⟩⟩⟩
    · refine ⟨false, ⟨cls, 1, f (2 + cls), (f (2 + cls) : Int) - 1, w, addr, chunk, false⟩, m', f, by simp [PlaceS.step, ho, e1, ew, hz], M', rfl, .inl ⟨rfl, rfl, fun _ => ⟨k0, k1, rfl, fun _ => ⟨by show 0 ≤ (f (2 + cls) : Int) - 1; omega, by show (f (2 + cls) : Int) - 1 < c.chunks; omega⟩, fun (h : 1 = 2) => by omega, fun (h : 1 = 4) => by omega⟩⟩⟩
  · have ha := h.at_ (by simp)
    simp only at ha
    obtain ⟨a0, _, _, a3, a4⟩ := ckA_eq hc ha.1 ha.2
    obtain ⟨m', e1, M', _⟩ := M.ld e (a := cA c at_) a3 (by omega)
    have a0' : chunkA e.c at_ = cA c at_ := by rw [ec]; exact a0
    have hcb := chunkOf_bd (f (cA c at_))
    have ew : w64 ((chunkOf (f (cA c at_))).used + roomA cls) = (chunkOf (f (cA c at_))).used + roomA cls := w64_id (by omega) (by omega)
    by_cases hz : (chunkOf (f (cA c at_))).state ≠ 1 ∨ (chunkOf (f (cA c at_))).cls ≠ cls ∨ (chunkOf (f (cA c at_))).used + roomA cls > e.c.words
    · refine ⟨false, ⟨cls, 3, opn, 0, f (cA c at_), addr, chunk, false⟩, m', f, by simp only [PlaceS.step, a0', e1, ew, if_pos hz], M', rfl, .inl ⟨rfl, rfl, fun _ => ⟨k0, k1, rfl, fun _ => ⟨Int.le_refl 0, hpos⟩, fun (h : 3 = 2) => by omega, fun (h : 3 = 4) => by omega⟩⟩⟩
    · refine ⟨false, ⟨cls, 2, opn, at_, f (cA c at_), addr, chunk, false⟩, m', f, by simp only [PlaceS.step, a0', e1, ew, if_neg hz], M', rfl, .inl ⟨rfl, rfl, fun _ => ⟨k0, k1, rfl, fun _ => ha, fun _ => ?_, fun (h : 2 = 4) => by omega⟩⟩⟩
      rw [ec] at hz
      simp only [not_or, Decidable.not_not] at hz
      exact ⟨hz.1, hz.2.1, by show (chunkOf (f (cA c at_))).used + roomA cls ≤ c.words; omega⟩
  · have ha := h.at_ (by simp)
    have hw := h.w2 rfl
    simp only at ha hw
    obtain ⟨a0, _, _, a3, a4⟩ := ckA_eq hc ha.1 ha.2
    have a0' : chunkA e.c at_ = cA c at_ := by rw [ec]; exact a0
    have hcb := chunkOf_bd w
    have ew : w64 ((chunkOf w).used + roomA cls) = (chunkOf w).used + roomA cls := w64_id (by omega) (by omega)
    by_cases he : f (cA c at_) = w
    · obtain ⟨m', e1, M', _⟩ := M.casT e (a := cA c at_) (old := w) (putChunk { chunkOf w with used := (chunkOf w).used + roomA cls }) a3 (by omega) he
      have hb := bA_ge hc ha.1
      have hb2 := bA_le hc ha.2
      have hbb : w64 (baseA e.c at_ + (chunkOf w).used) = bA c at_ + (chunkOf w).used := by
        rw [ec, baseA_eq hc ha.1 (by omega)]; exact w64_id (by omega) (by omega)
      have hcw : chunkOf (putChunk { chunkOf w with used := (chunkOf w).used + roomA cls }) = ⟨(chunkOf w).state, (chunkOf w).cls, (chunkOf w).used + roomA cls, fitN (chunkOf w).stamp 68719476735⟩ :=
        chunkOf_put' (by omega) (by omega) (by omega)
      have hck : ck c f at_ = chunkOf w := by simp only [ck, he]
      refine ⟨true, ⟨cls, 0, opn, at_, w, bA c at_ + (chunkOf w).used, at_, true⟩, m', _, by simp [PlaceS.step, PlaceS.get, a0', ew, e1, hbb], M', rfl, .inr (.inr (.inr ⟨rfl, rfl, at_, _, ha.1, ha.2, rfl, by rw [hck], rfl, ?_, by rw [hck]; exact hw.1, by rw [hcw]; exact hw.1, by rw [hck]; exact hw.2.1, by rw [hcw]; exact hw.2.1, by rw [hcw, hck], by rw [hck]; exact hw.2.2⟩))⟩
      have hk := (G0.ch at_ ha.1 ha.2).kl (by rw [hck]; omega)
      obtain ⟨_, _, n, n0, hn⟩ := hk
      left
      simp only [ck, upd_self, hcw]
      refine ⟨by simp only [he]; exact hw.1, hw.1, by simp only [he], by simp only [he]; omega, hw.2.2, n + 1, by omega, ?_⟩
      simp only [ck, he] at hn ⊢
      rw [Int.add_mul, Int.one_mul, ← hn, hw.2.1]
    · obtain ⟨m', e1, M', _⟩ := M.casF e (a := cA c at_) (old := w) (putChunk { chunkOf w with used := (chunkOf w).used + roomA cls }) a3 (by omega) he
      refine ⟨false, ⟨cls, 0, opn, at_, w, addr, chunk, false⟩, m', f, by simp [PlaceS.step, PlaceS.get, a0', ew, e1], M', rfl, .inl ⟨rfl, rfl, fun _ => ⟨k0, k1, rfl, fun h => absurd rfl h, fun (h : 0 = 2) => by omega, fun (h : 0 = 4) => by omega⟩⟩⟩
  · have ha := h.at_ (by simp)
    simp only at ha
    obtain ⟨a0, _, _, a3, a4⟩ := ckA_eq hc ha.1 ha.2
    obtain ⟨m', e1, M', _⟩ := M.ld e (a := cA c at_) a3 (by omega)
    have a0' : chunkA e.c at_ = cA c at_ := by rw [ec]; exact a0
    have ew : w64 (at_ + 1) = at_ + 1 := w64_id (by omega) (by omega)
    by_cases hz : (chunkOf (f (cA c at_))).state ≠ 0
    · refine ⟨decide (at_ + 1 ≥ c.chunks), ⟨cls, 3, opn, at_ + 1, f (cA c at_), addr, chunk, false⟩, m', f, by simp [PlaceS.step, PlaceS.on, a0, e1, ew, hz, ec], M', rfl, .inl ⟨rfl, rfl, fun hb => ⟨k0, k1, rfl, fun _ => ⟨by show 0 ≤ at_ + 1; omega, ?_⟩, fun (h : 3 = 2) => by omega, fun (h : 3 = 4) => by omega⟩⟩⟩
      have : ¬ (at_ + 1 ≥ c.chunks) := of_decide_eq_false hb
      show at_ + 1 < c.chunks
      omega
    · refine ⟨false, ⟨cls, 4, opn, at_, f (cA c at_), addr, chunk, false⟩, m', f, by simp only [PlaceS.step, a0', e1, if_neg hz], M', rfl, .inl ⟨rfl, rfl, fun _ => ⟨k0, k1, rfl, fun _ => ha, fun (h : 4 = 2) => by omega, fun _ => ?_⟩⟩⟩
      simpa using hz
  · have ha := h.at_ (by simp)
    have hw := h.w4 rfl
    simp only at ha hw
    obtain ⟨a0, _, _, a3, a4⟩ := ckA_eq hc ha.1 ha.2
    have a0' : chunkA e.c at_ = cA c at_ := by rw [ec]; exact a0
    have ew : w64 (at_ + 1) = at_ + 1 := w64_id (by omega) (by omega)
    have hcw : chunkOf (putChunk ⟨1, cls, 0, w64 ((chunkOf w).stamp + 1)⟩) = ⟨1, cls, 0, fitN (w64 ((chunkOf w).stamp + 1)) 68719476735⟩ :=
      chunkOf_put' (by omega) (by omega) (by omega)
    by_cases he : f (cA c at_) = w
    · obtain ⟨m', e1, M', _⟩ := M.casT e (a := cA c at_) (old := w) (putChunk ⟨1, cls, 0, w64 ((chunkOf w).stamp + 1)⟩) a3 (by omega) he
      have hst := (G0.ch at_ ha.1 ha.2).st (by simp only [ck, he]; exact hw)
      refine ⟨false, ⟨cls, 5, opn, at_, w, addr, chunk, false⟩, m', _, by simp [PlaceS.step, PlaceS.fresh, a0', e1], M', rfl, .inr (.inr (.inl ⟨rfl, ⟨k0, k1, rfl, fun _ => ha, fun (h : 5 = 2) => by omega, fun (h : 5 = 4) => by omega⟩, rfl, at_, _, ha.1, ha.2, rfl, ?_, hst, by rw [hcw]⟩))⟩
      right
      refine ⟨hst, ?_, .inl (by simp only [ck, he]; exact hw), .inr ?_⟩ <;> simp only [ck, upd_self, hcw]
      exact ⟨trivial, k0, k1⟩
    · obtain ⟨m', e1, M', _⟩ := M.casF e (a := cA c at_) (old := w) (putChunk ⟨1, cls, 0, w64 ((chunkOf w).stamp + 1)⟩) a3 (by omega) he
      refine ⟨decide (at_ + 1 ≥ c.chunks), ⟨cls, 3, opn, at_ + 1, w, addr, chunk, false⟩, m', f, by simp [PlaceS.step, PlaceS.fresh, PlaceS.on, a0, e1, ew, ec], M', rfl, .inl ⟨rfl, rfl, fun hb => ⟨k0, k1, rfl, fun _ => ⟨by show 0 ≤ at_ + 1; omega, ?_⟩, fun (h : 3 = 2) => by omega, fun (h : 3 = 4) => by omega⟩⟩⟩
      have : ¬ (at_ + 1 ≥ c.chunks) := of_decide_eq_false hb
      show at_ + 1 < c.chunks
      omega
  · have ha := h.at_ (by simp)
    simp only at ha
    have ho := openA_eq k0 k1
    have ew : w64 (at_ + 1) = at_ + 1 := w64_id (by omega) (by omega)
    have eu : (IntKind.u64.wrap (at_ + 1)).toNat = (at_ + 1).toNat := by rw [u64w]; omega
    by_cases he : f (2 + cls) = opn
    · obtain ⟨m', e1, M', _⟩ := M.casT e (a := 2 + cls) (old := opn) (at_ + 1).toNat (by omega) (by omega) he
      refine ⟨false, ⟨cls, 0, opn, at_, w, addr, chunk, false⟩, m', _, by simp only [PlaceS.step, ho, ew, eu, e1, if_true], M', rfl, .inr (.inl ⟨rfl, ⟨k0, k1, rfl, fun h => absurd rfl h, fun (h : 0 = 2) => by omega, fun (h : 0 = 4) => by omega⟩, rfl, _, by omega, rfl⟩)⟩
    · obtain ⟨m', e1, M', _⟩ := M.casF e (a := 2 + cls) (old := opn) (at_ + 1).toNat (by omega) (by omega) he
      refine ⟨false, ⟨cls, 6, opn, at_, w, addr, chunk, false⟩, m', f, by simp [PlaceS.step, ho, ew, eu, e1], M', rfl, .inl ⟨rfl, rfl, fun _ => ⟨k0, k1, rfl, fun _ => ha, fun (h : 6 = 2) => by omega, fun (h : 6 = 4) => by omega⟩⟩⟩
  · have ha := h.at_ (by simp)
    simp only at ha
    obtain ⟨a0, _, _, a3, a4⟩ := ckA_eq hc ha.1 ha.2
    have a0' : chunkA e.c at_ = cA c at_ := by rw [ec]; exact a0
    have hcw : chunkOf (putChunk ⟨1, cls, 0, w64 ((chunkOf w).stamp + 1)⟩) = ⟨1, cls, 0, fitN (w64 ((chunkOf w).stamp + 1)) 68719476735⟩ :=
      chunkOf_put' (by omega) (by omega) (by omega)
    have hcw2 : chunkOf (putChunk ⟨0, 0, 0, w64 ((chunkOf w).stamp + 2)⟩) = ⟨0, 0, 0, fitN (w64 ((chunkOf w).stamp + 2)) 68719476735⟩ :=
      chunkOf_put' (by omega) (by omega) (by omega)
    have hP : PlaceOk c ⟨cls, 0, opn, at_, w, addr, chunk, false⟩ := ⟨k0, k1, rfl, fun h => absurd rfl h, fun (h : 0 = 2) => by omega, fun (h : 0 = 4) => by omega⟩
    by_cases he : f (cA c at_) = putChunk ⟨1, cls, 0, w64 ((chunkOf w).stamp + 1)⟩
    · obtain ⟨m', e1, M', _⟩ := M.casT e (a := cA c at_) (putChunk ⟨0, 0, 0, w64 ((chunkOf w).stamp + 2)⟩) a3 (by omega) he
      have hck : ck c f at_ = ⟨1, cls, 0, fitN (w64 ((chunkOf w).stamp + 1)) 68719476735⟩ := by simp only [ck, he, hcw]
      refine ⟨false, ⟨cls, 0, opn, at_, w, addr, chunk, false⟩, m', _, by simp [PlaceS.step, PlaceS.fresh, a0', e1], M', rfl, .inr (.inr (.inl ⟨rfl, hP, rfl, at_, _, ha.1, ha.2, rfl, ?_, by rw [hck], by rw [hcw2]⟩))⟩
      right
      refine ⟨by rw [hck], ?_, .inr (by rw [hck]), .inl ?_⟩ <;> simp only [ck, upd_self, hcw2]
    · obtain ⟨m', e1, M', _⟩ := M.casF e (a := cA c at_) (putChunk ⟨0, 0, 0, w64 ((chunkOf w).stamp + 2)⟩) a3 (by omega) he
      refine ⟨false, ⟨cls, 0, opn, at_, w, addr, chunk, false⟩, m', f, by simp [PlaceS.step, PlaceS.fresh, a0', e1], M', rfl, .inl ⟨rfl, rfl, fun _ => hP⟩⟩
end
end Go.FL

/- Safety: who makes an object. No program in sight. -/
namespace Go.FL
open Go Go.SL
section
variable {c : Cfg} {f g : Int → Nat} {K : CompS} {t : Nat} {a : ActS} {T : Th} {B : Nat} {m m' : MemS}
theorem act_do {e : EnvS} (hp : a.pc = 1) {b : Bool} {d' : DoerS} (hs : a.work.step e m = (b, d', m')) : a.step e m = (false, { a with work := d', out := if b then d'.done else a.out, pc := if b then 2 else 1 }, m') := by
  obtain ⟨i, pc, work, out⟩ := a
  obtain rfl : pc = 1 := hp
  simp only at hs
  cases b <;> simp [ActS.step, hs]
def DNext (c : Cfg) (B : Nat) (T : Th) (K : CompS) (t : Nat) (a : ActS) (b : Bool) (d' : DoerS) (m' : MemS) : Prop :=
  ∀ a' : ActS, a'.pc = (if b then 2 else 1) → a'.work = d' → a'.i = a.i → Now c (B + 1) m' (upT T t (some a')) K
theorem DNext.simple (G0 : G c B f T K) (hT : T t = some a) (hp : a.pc = 1) (M' : Mf m' (bA c c.chunks) g) (C : Chg c f g K t a) {b : Bool} {d' : DoerS} (hpin : g (6 + t) = f (6 + t)) (h1 : g 1 = f 1) (hk : ∀ j, 0 ≤ j → j < c.chunks → g (cA c j) = f (cA c j))
    (w1 : b = false → DoerOk c g K a.i.epoch d') (w2 : b = false → ∀ i, slotD c i d' → slotD c i a.work) (w3 : b = false → ∀ x, spotD x d' → spotD x a.work)
    (w4 : ∀ j x, Spot c f j x → spotD x a.work → (b = false ∧ spotD x d') ∨ (((FL.hd g x).kind = 2 ∨ (FL.hd g x).kind = 3) ∧ ∃ i gn z, Pt c g j x i gn z)) : DNext c B T K t a b d' m' := by
  intro a' h1' h2 h3
  subst h2
  refine ⟨M'.len, ?_⟩
  rw [M'.wd]
  exact G0.doerS hT hp C h1' h3 hpin h1 hk w1 w2 w3 w4
theorem DNext.full (G0 : G c B f T K) (hT : T t = some a) (hp : a.pc = 1) (M' : Mf m' (bA c c.chunks) g) (C : Chg c f g K t a) {b : Bool} {d' : DoerS} (hpin : g (6 + t) = f (6 + t))
    (w1 : b = false → DoerOk c g K a.i.epoch d') (w2 : b = false → ∀ i, slotD c i d' → slotD c i a.work ∨ ∀ n s, T n = some s → ¬ slotO c s i) (w3 : b = false → ∀ x, spotD x d' → spotD x a.work ∨ ∀ j, ¬ Spot c f j x)
    (w4 : ∀ j x, Spot c f j x → spotD x a.work → (b = false ∧ spotD x d') ∨ (((FL.hd g x).kind = 2 ∨ (FL.hd g x).kind = 3) ∧ ∃ i gn z, Pt c g j x i gn z))
    (w6 : ∀ j x, Spot c g j x → Spot c f j x ∨ (b = false ∧ spotD x d'))
    (fr : ∀ a' : ActS, a'.pc = (if b then 2 else 1) → a'.work = d' → ∃ F : List Int, topSlot (g 1) = headI F ∧ ChainF c g F ∧ F.Nodup ∧ ∀ i ∈ F, (FL.sl c g i).state = 0 ∧ ∀ n s, upT T t (some a') n = some s → ¬ slotO c s i) : DNext c B T K t a b d' m' := by
  intro a' h1' h2 h3
  subst h2
  refine ⟨M'.len, ?_⟩
  rw [M'.wd]
  exact G0.doer hT hp C h1' h3 hpin w1 w2 w3 w4 w6 (fr a' h1' rfl)
theorem Mine.same {j x z : Int} {w : Nat} (h : Mine c f j x z w) (h1 : g (cA c j) = f (cA c j)) (h2 : g x = f x) : Mine c g j x z w :=
  ⟨h.sp.same h1, by rw [ck_same h1]; exact h.st, by rw [ck_same h1]; exact h.cl, by rw [h2]; exact h.hd⟩
theorem Own.same {i : Int} (h : Own c f i) (h1 : g (sA c i) = f (sA c i)) : Own c g i := ⟨h.1, h.2.1, by rw [sl_same h1]; exact h.2.2⟩
theorem Spot.lo (hc : CfgOk c) (G0 : G c B f T K) {j x : Int} (s : Spot c f j x) : 6 + c.threads + 2 * c.slots + 3 * c.chunks ≤ x ∧ x + roomA (ck c f j).cls ≤ bA c c.chunks := by
  have h := s.bd (G0.ch j s.j0 s.j1).us
  have h1 := bA_ge hc s.j0
  have h2 := bA_le hc s.j1
  omega
theorem zer_state (G0 : G c B f T K) {j : Int} (h : Zer K j) : (ck c f j).state = 3 := by
  obtain ⟨h1, s, hs, rfl, h3⟩ := h
  obtain ⟨_, v⟩ := G0.co.set h1 s hs
  have := v.w (by omega)
  simp only [ck, this.1]; exact this.2
theorem ck_empty {j : Int} {w : Nat} (h0 : (chunkOf w).used = 0) : ∀ j' x, Spot c (upd f (cA c j) w) j' x → Spot c f j' x := by
  intro j' x s
  by_cases h : j' = j
  · subst h
    have hu := s.used
    simp only [ck, upd_self, h0] at hu
    omega
  · exact s.same (upd_ne (by simp only [cA]; omega)).symm
theorem head_of {s : AllocS} {kd : Int} (k0 : 0 ≤ kd) (k1 : kd ≤ 3) (z0 : 1 ≤ s.size) (z1 : s.size ≤ 16) (i0 : 0 ≤ s.at_) (i1 : s.at_ ≤ 65535) (g0 : 1 ≤ s.gen) (g1 : s.gen ≤ 65535) : headOf (s.head kd) = ⟨kd, s.size, s.at_, s.gen, s.own⟩ :=
  headOf_put ⟨k0, k1⟩ ⟨by show 0 ≤ s.size; omega, by show s.size ≤ 65535; omega⟩ ⟨i0, i1⟩ ⟨by show 0 ≤ s.gen; omega, g1⟩
theorem give_fr (hc : CfgOk c) (G0 : G c B f T K) (hT : T t = some a) (hp : a.pc = 1) {s : GiveS} (M' : Mf m' (bA c c.chunks) (upd f 1 (putTop s.slot (w64 (topCount s.top + 1))))) (hB : B < 34359738368) (ho : Own c f s.slot) (hsl : slotO c a s.slot)
    (h2 : topSlot (f (sA c s.slot + 1)) = topSlot (f 1)) (h3 : f 1 = s.top) (now4 : ∀ x, spotD x a.work → False) {d' : DoerS} : DNext c B T K t a true d' m' := by
  have t0 := hc.t0
  have s0 := hc.s0
  have s1 := hc.s1
  have hcnt := topCount_nn (f 1)
  have htc := G0.tc
  have ew : w64 (topCount s.top + 1) = topCount (f 1) + 1 := by rw [← h3]; exact w64_id (by omega) (by omega)
  rw [ew] at M'
  have i0 := ho.1
  have i1 := ho.2.1
  refine DNext.full G0 hT hp M' (Chg.topW hc G0 (topCount_put (by omega) (by omega))) (upd_ne (by omega)) (fun h => by cases h) (fun h => by cases h) (fun h => by cases h) (fun _ x _ hs => (now4 x hs).elim) (fun j x sp => .inl (sp.same (upd_ne (by simp only [cA]; have := sp.j0; omega)).symm)) (fun a' ha1 ha2 => ?_)
  obtain ⟨F, q1, q2, q3, q4⟩ := G0.fr
  have hsl' : ∀ i, upd f 1 (putTop s.slot (topCount (f 1) + 1)) (sA c i) = f (sA c i) ∨ i < 0 := fun i => by
    rcases (by omega : 0 ≤ i ∨ i < 0) with q | q
    · exact .inl (upd_ne (by simp only [sA]; omega))
    · exact .inr q
  refine ⟨s.slot :: F, by rw [upd_self, topSlot_put (by omega) (by omega)]; rfl, ⟨⟨i0, i1⟩, by rw [upd_ne (by simp only [sA]; omega), h2, q1], q2.congr fun i hi => upd_ne (by have := q2.mem i hi; simp only [sA]; omega)⟩, List.nodup_cons.2 ⟨fun hm => (q4 _ hm).2 t a hT hsl, q3⟩, fun i hi => ?_⟩
  rcases List.mem_cons.1 hi with rfl | hi
  · refine ⟨by rw [sl_same (upd_ne (by simp only [sA]; omega))]; exact ho.2.2, fun n s' hn hs => ?_⟩
    by_cases hnt : n = t
    · subst hnt
      rw [upT_self] at hn; cases hn
      have := hs.1
      simp only [if_true] at ha1
      omega
    · rw [upT_ne hnt] at hn
      exact hnt (G0.oS n t s' a _ hn hT hs hsl)
  · have hm := q2.mem i hi
    refine ⟨by rw [sl_same (upd_ne (by simp only [sA]; omega))]; exact (q4 i hi).1, fun n s' hn hs => ?_⟩
    by_cases hnt : n = t
    · subst hnt
      rw [upT_self] at hn; cases hn
      have := hs.1
      simp only [if_true] at ha1
      omega
    · rw [upT_ne hnt] at hn
      exact (q4 i hi).2 n s' hn hs
theorem alloc_step (hc : CfgOk c) (N : Now c B m T K) (hT : T t = some a) (hp : a.pc = 1) {s : AllocS} (hk : a.work = .alloc s) (hB : B < 34359738368) :
    (DoerS.alloc s).wfb c = true ∧ ∃ b s' m', s.step ⟨c, t⟩ m = (b, s', m') ∧ DNext c B T K t a b (.alloc s') m' := by
  obtain ⟨len, G0⟩ := N
  have M : Mf m (bA c c.chunks) (wd m) := ⟨len, rfl⟩
  generalize wd m = f at *
  obtain ⟨hlt, hA⟩ := G0.th t a hT
  have hw : AllocOk c f s := by have := hA.work hp; rw [hk] at this; exact this
  have hL := bA_pos hc
  have t0 := hc.t0
  have t1 := hc.t1
  have s0 := hc.s0
  have s1 := hc.s1
  have c0 := hc.c0
  have hg1 := hc.g1
  have nosp : (s.pc < 3 ∨ 6 < s.pc) → ∀ x, spotD x a.work → False := by
    intro q x hs
    rw [hk] at hs
    have hs : s.addr = x ∧ 3 ≤ s.pc ∧ s.pc ≤ 6 := hs
    omega
  obtain ⟨size, own, pc, take, at_, gen, p, addr, chunk, give, out⟩ := s
  rcases pc with _ | _ | _ | _ | _ | _ | _ | pc
  · refine ⟨rfl, ?_⟩
    have htk := hw.tk rfl
    simp only at htk
    by_cases hz : classA size < 0
    · refine ⟨true, _, m, by simp only [AllocS.step, if_pos hz]; rfl, DNext.simple G0 hT hp M (Chg.none ..) rfl rfl (fun _ _ _ => rfl) (fun h => by cases h) (fun h => by cases h) (fun h => by cases h) (fun _ x _ hs => (nosp (.inl (by simp)) x hs).elim)⟩
    · have hsz : 1 ≤ size ∧ size ≤ 16 := by
        rcases (by omega : (size < 1 ∨ 16 < size) ∨ (1 ≤ size ∧ size ≤ 16)) with q | q
        · rw [class_neg q] at hz; omega
        · exact q
      obtain ⟨tb, k', m', g, e1, M', hcs⟩ := take_step hc (e := ⟨c, t⟩) rfl M G0 htk
      rcases hcs with ⟨rfl, h2, h3⟩ | ⟨rfl, h2, h3, h4, h5, h6, h7, rfl⟩
      · cases tb with
        | true =>
          refine ⟨true, _, m', by simp only [AllocS.step, if_neg hz, e1, if_true, h2, Bool.false_eq_true, if_false]; rfl, DNext.simple G0 hT hp M' (Chg.none ..) rfl rfl (fun _ _ _ => rfl) (fun h => by cases h) (fun h => by cases h) (fun h => by cases h) (fun _ x _ hs => (nosp (.inl (by simp)) x hs).elim)⟩
        | false =>
          refine ⟨false, ⟨size, own, 0, k', at_, gen, p, addr, chunk, give, out⟩, m', by simp only [AllocS.step, if_neg hz, e1, Bool.false_eq_true, if_false], DNext.simple G0 hT hp M' (Chg.none ..) rfl rfl (fun _ _ _ => rfl) (fun _ => ?_) (fun _ i h => ?_) (fun _ x h => ?_) (fun _ x _ hs => (nosp (.inl (by simp)) x hs).elim)⟩
          · show AllocOk c _ _; exact ⟨fun _ => h3 rfl, fun (q : 1 ≤ 0) => by omega, fun (q : 1 ≤ 0) => by omega, fun (q : 2 ≤ 0) => by omega, fun (q : 0 = 2) => by omega, fun (q : 0 = 3 ∨ 0 = 4) => by omega, fun (q : 0 = 5 ∨ 0 = 6) => by omega, fun (q : 0 = 6) => by omega, fun (q : 7 ≤ 0) => by omega⟩
          · have h : at_ = i ∧ 1 ≤ 0 ∧ 0 ≠ 6 := h; omega
          · have h : addr = x ∧ 3 ≤ 0 ∧ 0 ≤ 6 := h; omega
      · obtain ⟨F, f1, f2, f3, f4, f5, f6, f7⟩ := top_range hc G0 (by omega)
        rw [← h5] at f1 f4 f5 f6
        have hcnt := topCount_nn (f 1)
        have htc := G0.tc
        have ew : w64 (topCount take.top + 1) = topCount (f 1) + 1 := by rw [← h7]; exact w64_id (by omega) (by omega)
        have hnx : -1 ≤ take.next ∧ take.next ≤ 65535 := by
          have := topSlot_bd (f (sA c take.slot + 1))
          rw [h6]
          refine ⟨this, ?_⟩
          rw [f1]
          cases F with
          | nil => simp [headI]
          | cons i F => simp only [headI]; have := f2.1; omega
        refine ⟨false, ⟨size, own, 1, k', take.slot, gen, p, addr, chunk, give, out⟩, m', by simp only [AllocS.step, if_neg hz, e1, if_true, h2, h3], ?_⟩
        rw [ew] at M'
        refine DNext.full G0 hT hp M' (Chg.topW hc G0 (topCount_put (by omega) (by omega))) (upd_ne (by omega)) (fun _ => ?_) (fun _ i h => ?_) (fun _ x h => ?_) (fun _ x _ hs => (nosp (.inl (by simp)) x hs).elim) (fun j x sp => .inl (sp.same (upd_ne (by simp only [cA]; have := sp.j0; omega)).symm)) (fun a' ha1 ha2 => ?_)
        · show AllocOk c _ _; exact ⟨fun (q : 1 = 0) => by omega, fun _ _ => f5.same (upd_ne (by simp only [sA]; omega)), fun _ => hsz, fun (q : 2 ≤ 1) => by omega, fun (q : 1 = 2) => by omega, fun (q : 1 = 3 ∨ 1 = 4) => by omega, fun (q : 1 = 5 ∨ 1 = 6) => by omega, fun (q : 1 = 6) => by omega, fun (q : 7 ≤ 1) => by omega⟩
        · have h : take.slot = i ∧ 1 ≤ 1 ∧ 1 ≠ 6 := h
          rw [← h.1]; exact .inr f6
        · have h : addr = x ∧ 3 ≤ 1 ∧ 1 ≤ 6 := h; omega
        · refine ⟨F, by rw [upd_self, topSlot_put hnx.1 hnx.2, h6, f1], f2.congr fun i hi => upd_ne (by have := f2.mem i hi; simp only [sA]; omega), f3, fun i hi => ⟨?_, fun n s hn hs => ?_⟩⟩
          · rw [sl_same (upd_ne (by have := f2.mem i hi; simp only [sA]; omega))]; exact (f7 i hi).1
          · by_cases hnt : n = t
            · subst hnt
              rw [upT_self] at hn; cases hn
              have h2 := hs.2
              rw [ha2] at h2
              have h2 : take.slot = i ∧ _ := h2
              rw [h2.1] at f4
              exact f4 hi
            · rw [upT_ne hnt] at hn
              exact (f7 i hi).2 n s hn hs
  · refine ⟨rfl, ?_⟩
    have ho := hw.own (Nat.le_refl 1) (by simp)
    have hz := hw.z (Nat.le_refl 1)
    simp only at ho hz
    obtain ⟨a0, _, a2, a3⟩ := slA_eq hc ho.1 ho.2.1
    obtain ⟨m', e1, M', _⟩ := M.ld ⟨c, t⟩ (a := sA c at_) a2 (by omega)
    have hcl := class_cases hz.1 hz.2
    refine ⟨false, ⟨size, own, 2, take, at_, (slotOf (f (sA c at_))).gen, some { place0 with cls := classA size }, addr, chunk, give, out⟩, m', by simp only [AllocS.step, a0, e1], DNext.simple G0 hT hp M' (Chg.none ..) rfl rfl (fun _ _ _ => rfl) (fun _ => ?_) (fun _ i h => ?_) (fun _ x h => ?_) (fun _ x _ hs => (nosp (.inl (by simp)) x hs).elim)⟩
    · show AllocOk c _ _; exact ⟨fun (q : 2 = 0) => by omega, fun _ _ => ho, fun _ => hz, fun _ _ => rfl, fun _ => ⟨_, rfl, rfl, hcl.1, hcl.2.1, rfl, fun (q : 0 ≠ 0) => absurd rfl q, fun (q : 0 = 2) => by omega, fun (q : 0 = 4) => by omega⟩, fun (q : 2 = 3 ∨ 2 = 4) => by omega, fun (q : 2 = 5 ∨ 2 = 6) => by omega, fun (q : 2 = 6) => by omega, fun (q : 7 ≤ 2) => by omega⟩
    · rw [hk]
      have h : at_ = i ∧ _ := h
      exact ⟨h.1, Nat.le_refl 1, by simp⟩
    · have h : addr = x ∧ 3 ≤ 2 ∧ 2 ≤ 6 := h; omega
  · have ho := hw.own (by simp) (by simp)
    have hz := hw.z (by simp)
    have hgn := hw.gn (by simp) (by simp)
    obtain ⟨p', hp', hpc, hP⟩ := hw.pl rfl
    simp only at ho hz hgn hp' hpc
    subst hp'
    refine ⟨by simp only [DoerS.wfb]; exact decide_eq_true hP.k0, ?_⟩
    have hcl := class_cases hz.1 hz.2
    obtain ⟨pb, q', m', g, e1, M', ecl, hcs⟩ := place_step hc (e := ⟨c, t⟩) rfl M G0 hP
    have mk : ∀ {g : Int → Nat}, (g (sA c at_) = f (sA c at_)) → PlaceOk c q' → AllocOk c g ⟨size, own, 2, take, at_, gen, some q', addr, chunk, give, out⟩ := fun hs hq =>
      ⟨fun (q : 2 = 0) => by omega, fun _ _ => ho.same hs, fun _ => hz, fun _ _ => by rw [sl_same hs]; exact hgn, fun _ => ⟨_, rfl, by rw [ecl]; exact hpc, hq⟩, fun (q : 2 = 3 ∨ 2 = 4) => by omega, fun (q : 2 = 5 ∨ 2 = 6) => by omega, fun (q : 2 = 6) => by omega, fun (q : 7 ≤ 2) => by omega⟩
    have slo : ∀ i, slotD c i (.alloc ⟨size, own, 2, take, at_, gen, some q', addr, chunk, give, out⟩) → slotD c i a.work := fun i h => by
      rw [hk]; exact ⟨h.1, by simp, by simp⟩
    have spo : ∀ {P : Prop} x, spotD x (.alloc ⟨size, own, 2, take, at_, gen, some q', addr, chunk, give, out⟩) → P := fun x h => by
      have h : addr = x ∧ 3 ≤ 2 ∧ 2 ≤ 6 := h; omega
    rcases hcs with ⟨rfl, h2, h3⟩ | ⟨rfl, h3, h2, w, hw2, rfl⟩ | ⟨rfl, h3, h2, j, w, j0, j1, rfl, hck, hu0, hw0⟩ | ⟨rfl, h2, j, w, j0, j1, ech, ead, rfl, hck, st1, st2, cl1, cl2, us2, us3⟩
    · cases pb with
      | true =>
        refine ⟨false, ⟨size, own, 7, take, at_, gen, some q', 0, 0, some { give0 with slot := at_ }, ⟨6, 0, 0, m'.steps⟩⟩, m', by simp only [AllocS.step, Option.getD_some, e1, if_true, h2, Bool.false_eq_true, if_false], DNext.simple G0 hT hp M' (Chg.none ..) rfl rfl (fun _ _ _ => rfl) (fun _ => ?_) (fun _ i h => ?_) (fun _ x h => ?_) (fun _ x _ hs => (nosp (.inl (by simp)) x hs).elim)⟩
        · show AllocOk c _ _; exact ⟨fun (q : 7 = 0) => by omega, fun _ _ => ho, fun _ => hz, fun _ (q : 7 ≤ 5) => by omega, fun (q : 7 = 2) => by omega, fun (q : 7 = 3 ∨ 7 = 4) => by omega, fun (q : 7 = 5 ∨ 7 = 6) => by omega, fun (q : 7 = 6) => by omega, fun _ => ⟨_, rfl, rfl, fun q => absurd rfl q, fun q => absurd rfl q⟩⟩
        · rw [hk]; have h : at_ = i ∧ _ := h; exact ⟨h.1, by simp, by simp⟩
        · have h : (0 : Int) = x ∧ 3 ≤ 7 ∧ 7 ≤ 6 := h; omega
      | false =>
        exact ⟨false, ⟨size, own, 2, take, at_, gen, some q', addr, chunk, give, out⟩, m', by simp only [AllocS.step, Option.getD_some, e1, Bool.false_eq_true, if_false], DNext.simple G0 hT hp M' (Chg.none ..) rfl rfl (fun _ _ _ => rfl) (fun _ => mk rfl (h3 rfl)) (fun _ => slo) (fun _ x h => spo x h) (fun _ x _ hs => (nosp (.inl (by simp)) x hs).elim)⟩
    · exact ⟨false, ⟨size, own, 2, take, at_, gen, some q', addr, chunk, give, out⟩, m', by simp only [AllocS.step, Option.getD_some, e1, Bool.false_eq_true, if_false], DNext.simple G0 hT hp M' (Chg.opnW hc G0 hP.k0 hP.k1 hw2) (upd_ne (by have := hP.k1; omega)) (upd_ne (by have := hP.k0; omega)) (fun j _ _ => upd_ne (by have := hP.k1; simp only [cA]; omega)) (fun _ => mk (upd_ne (by have := hP.k1; have := ho.1; simp only [sA]; omega)) h3) (fun _ => slo) (fun _ x h => spo x h) (fun _ x _ hs => (nosp (.inl (by simp)) x hs).elim)⟩
    · have C := Chg.ckW (t := t) (a := a) hc G0 j0 j1 hck
      exact ⟨false, ⟨size, own, 2, take, at_, gen, some q', addr, chunk, give, out⟩, m', by simp only [AllocS.step, Option.getD_some, e1, Bool.false_eq_true, if_false], DNext.full G0 hT hp M' C (upd_ne (by simp only [cA]; omega)) (fun _ => mk (upd_ne (by have := ho.2.1; simp only [sA, cA]; omega)) h3) (fun _ i h => .inl (slo i h)) (fun _ x h => spo x h) (fun _ x _ hs => (nosp (.inl (by simp)) x hs).elim) (fun j' x sp => .inl (ck_empty hw0 j' x sp))
        (fun a' ha1 ha2 => C.frs G0 hT (upd_ne (by simp only [cA]; omega)) fun a2 i h2 hs => by cases h2; exact ⟨hp, slo i (by rw [← ha2]; exact hs.2)⟩)⟩
    · have C := Chg.ckW (t := t) (a := a) hc G0 j0 j1 hck
      have hch := G0.ch j j0 j1
      obtain ⟨_, _, n, n0, hn⟩ := hch.kl (by omega)
      have hgk : ck c (upd f (cA c j) w) j = chunkOf w := by simp only [ck, upd_self]
      have hr := room_bd (k := (chunkOf w).cls) (by rw [cl2]; exact hP.k0) (by rw [cl2]; exact hP.k1)
      have sp : Spot c (upd f (cA c j) w) j (bA c j + (ck c f j).used) := by
        refine ⟨j0, j1, by rw [hgk]; omega, by rw [hgk, cl2]; exact hP.k0, by rw [hgk, cl2]; exact hP.k1, n, n0, ?_, ?_⟩
        · rw [hgk, cl2, hn, cl1]
        · rw [hgk, us2, cl2, hn, cl1]; omega
      have hb := sp.bd (by rw [hgk]; omega)
      rw [hgk] at hb
      have u0 : 0 ≤ (ck c f j).used := (chunkOf_bd _).2.2.2.2.1
      have hlo := bA_ge hc j0
      have hmy : AllocOk c (upd f (cA c j) w) ⟨size, own, 3, take, at_, gen, some q', bA c j + (ck c f j).used, j, give, out⟩ := by
        have hs : upd f (cA c j) w (sA c at_) = f (sA c at_) := upd_ne (by have := ho.2.1; simp only [sA, cA]; omega)
        refine ⟨fun (q : 3 = 0) => by omega, fun _ _ => ho.same hs, fun _ => hz, fun _ _ => by rw [sl_same hs]; exact hgn, fun (q : 3 = 2) => by omega, fun _ => ⟨sp, .inl (by rw [hgk]; exact st2), by rw [hgk, cl2]; exact hpc.symm, ?_⟩, fun (q : 3 = 5 ∨ 3 = 6) => by omega, fun (q : 3 = 6) => by omega, fun (q : 7 ≤ 3) => by omega⟩
        show upd f (cA c j) w (bA c j + (ck c f j).used) = 0
        rw [upd_ne (by simp only [cA]; omega)]
        exact hch.ze _ (Int.le_refl _) (by omega)
      refine ⟨false, ⟨size, own, 3, take, at_, gen, some q', bA c j + (ck c f j).used, j, give, out⟩, m', by simp only [AllocS.step, Option.getD_some, e1, if_true, h2, ech, ead], DNext.full G0 hT hp M' C (upd_ne (by simp only [cA]; omega)) (fun _ => hmy) (fun _ i h => .inl ?_) (fun _ x h => .inr ?_) (fun _ x _ hs => (nosp (.inl (by simp)) x hs).elim) (fun j' x sp' => ?_) (fun a' ha1 ha2 => C.frs G0 hT (upd_ne (by simp only [cA]; omega)) fun a2 i h2 hs => ?_)⟩
      · rw [hk]; have h : at_ = i ∧ _ := h; exact ⟨h.1, by simp, by simp⟩
      · have h : bA c j + (ck c f j).used = x ∧ _ := h
        obtain ⟨rfl, _⟩ := h
        intro j' sp'
        have hb' := sp'.bd (G0.ch j' sp'.j0 sp'.j1).us
        have hj : j' = j := by
          rcases Int.lt_trichotomy j' j with q | q | q
          · have := bA_mono hc q; omega
          · exact q
          · have := bA_mono hc q; omega
        subst hj
        omega
      · by_cases hj : j' = j
        · subst hj
          obtain ⟨k, k0, ex, hku⟩ := sp'.at_
          rw [hgk] at ex hku
          rw [us2, cl2] at hku
          rw [cl2] at ex
          rw [cl1] at hn
          rcases Int.lt_trichotomy k n with q | q | q
          · left
            refine ⟨j0, j1, by omega, by rw [cl1]; exact hP.k0, by rw [cl1]; exact hP.k1, k, k0, by rw [cl1]; exact ex, ?_⟩
            rw [cl1, hn]
            have : (k + 1) * roomA p'.cls ≤ n * roomA p'.cls := Int.mul_le_mul_of_nonneg_right (by omega) (by rw [cl2] at hr; omega)
            rw [Int.add_mul, Int.one_mul] at this
            exact this
          · right
            refine ⟨rfl, ?_, by simp, by simp⟩
            show bA c j' + (ck c f j').used = x
            rw [ex, q, hn]
          · exfalso
            have : (n + 1) * roomA p'.cls ≤ k * roomA p'.cls := Int.mul_le_mul_of_nonneg_right (by omega) (by rw [cl2] at hr; omega)
            rw [Int.add_mul, Int.one_mul] at this
            rw [cl2] at hr
            omega
        · exact .inl (sp'.same (upd_ne (by simp only [cA]; omega)).symm)
      · cases h2
        have h3 := hs.2
        rw [ha2] at h3
        refine ⟨hp, ?_⟩
        rw [hk]
        have h : at_ = i ∧ _ := h3
        exact ⟨h.1, by simp, by simp⟩
  · have ho := hw.own (by simp) (by simp)
    have hz := hw.z (by simp)
    have hgn := hw.gn (by simp) (by simp)
    have hm := hw.m0 (.inl rfl)
    simp only at ho hz hgn hm
    have hcl := class_cases hz.1 hz.2
    refine ⟨by simp only [DoerS.wfb]; exact decide_eq_true hcl.1, ?_⟩
    obtain ⟨a0, a1, a2, a3, a4⟩ := ckA_eq hc hm.sp.j0 hm.sp.j1
    obtain ⟨m', w, e1, M', _⟩ := M.add ⟨c, t⟩ (roomA (classA size)) (a := cA c chunk + 1) (by omega) (by omega)
    have hlo := hm.sp.lo hc G0
    have h1 := hm.sp.j0
    have h2 := hm.sp.j1
    have hs : upd f (cA c chunk + 1) w (sA c at_) = f (sA c at_) := upd_ne (by have := ho.2.1; simp only [sA, cA]; omega)
    refine ⟨false, ⟨size, own, 4, take, at_, gen, p, addr, chunk, give, out⟩, m', by simp only [AllocS.step, a1, e1], DNext.simple G0 hT hp M' (Chg.liveW hc G0 h1 h2 w) (upd_ne (by simp only [cA]; omega)) (upd_ne (by simp only [cA]; omega)) (fun j _ _ => upd_ne (by simp only [cA]; omega)) (fun _ => ?_) (fun _ i h => ?_) (fun _ x h => ?_) (fun j x _ hs => .inl ⟨rfl, ?_⟩)⟩
    · show AllocOk c _ _; exact ⟨fun (q : 4 = 0) => by omega, fun _ _ => ho.same hs, fun _ => hz, fun _ _ => by rw [sl_same hs]; exact hgn, fun (q : 4 = 2) => by omega, fun _ => hm.same (upd_ne (by simp only [cA]; omega)) (upd_ne (by simp only [cA]; omega)), fun (q : 4 = 5 ∨ 4 = 6) => by omega, fun (q : 4 = 6) => by omega, fun (q : 7 ≤ 4) => by omega⟩
    · rw [hk]; have h : at_ = i ∧ _ := h; exact ⟨h.1, by simp, by simp⟩
    · rw [hk]; have h : addr = x ∧ _ := h; exact ⟨h.1, by simp, by simp⟩
    · rw [hk] at hs; have h : addr = x ∧ _ := hs; exact ⟨h.1, by simp, by simp⟩
  · refine ⟨rfl, ?_⟩
    have ho := hw.own (by simp) (by simp)
    have hz := hw.z (by simp)
    have hgn := hw.gn (by simp) (by simp)
    have hm := hw.m0 (.inr rfl)
    simp only at ho hz hgn hm
    have hlo := hm.sp.lo hc G0
    have hr := room_bd hm.sp.k0 hm.sp.k1
    have h1 := hm.sp.j0
    have h2 := hm.sp.j1
    have hz' : ¬ Zer K chunk := fun h => by have := zer_state G0 h; have := hm.st; omega
    have hso : spotO a addr := ⟨hp, by rw [hk]; exact ⟨rfl, by simp, by simp⟩⟩
    generalize hwd : (AllocS.head ⟨size, own, 4, take, at_, gen, p, addr, chunk, give, out⟩ 1) = w
    obtain ⟨m', e1, M', _⟩ := M.st ⟨c, t⟩ w (a := addr) (by omega) (by omega)
    have C := Chg.datW (t := t) (a := a) (w := w) hc G0 hm.sp hz' (Int.le_refl 0) (by omega) (fun _ => ⟨hso, .inl <| by simp only [hd, upd_self]; rw [← hwd]; rw [show (headOf (AllocS.head ⟨size, own, 4, take, at_, gen, p, addr, chunk, give, out⟩ 1)).kind = 1 from head_kind (by show (0 : Int) ≤ 1; omega) (by show (1 : Int) ≤ 3; omega)]; omega, fun h => absurd (by simp only [hd, hm.hd]; exact head0_kind) h⟩)
    rw [Int.add_zero] at C
    have hs : upd f addr w (sA c at_) = f (sA c at_) := upd_ne (by have := ho.2.1; simp only [sA]; omega)
    refine ⟨false, ⟨size, own, 5, take, at_, gen, p, addr, chunk, give, out⟩, m', by simp only [AllocS.step, hwd, e1], DNext.simple G0 hT hp M' C (upd_ne (by omega)) (upd_ne (by omega)) (fun j _ _ => upd_ne (by simp only [cA]; omega)) (fun _ => ?_) (fun _ i h => ?_) (fun _ x h => ?_) (fun j x _ hs => .inl ⟨rfl, ?_⟩)⟩
    · show AllocOk c _ _; exact ⟨fun (q : 5 = 0) => by omega, fun _ _ => ho.same hs, fun _ => hz, fun _ _ => by rw [sl_same hs]; exact hgn, fun (q : 5 = 2) => by omega, fun (q : 5 = 3 ∨ 5 = 4) => by omega, fun _ => ⟨(C.spot hm.sp).1, by rw [(C.spot hm.sp).2.2]; exact hm.st, by rw [(C.spot hm.sp).2.1]; exact hm.cl, by show upd f addr w addr = _; rw [upd_self, ← hwd]; rfl⟩, fun (q : 5 = 6) => by omega, fun (q : 7 ≤ 5) => by omega⟩
    · rw [hk]; have h : at_ = i ∧ _ := h; exact ⟨h.1, by simp, by simp⟩
    · rw [hk]; have h : addr = x ∧ _ := h; exact ⟨h.1, by simp, by simp⟩
    · rw [hk] at hs; have h : addr = x ∧ _ := hs; exact ⟨h.1, by simp, by simp⟩
  · refine ⟨rfl, ?_⟩
    have ho := hw.own (by simp) (by simp)
    have hz := hw.z (by simp)
    have hgn := hw.gn (by simp) (by simp)
    have hm := hw.m1 (.inl rfl)
    simp only at ho hz hgn hm
    have hgg := G0.gn at_ ho.1 ho.2.1
    have hlo := hm.sp.lo hc G0
    have hbd := bA_bd hc
    have hr := room_bd hm.sp.k0 hm.sp.k1
    have hso : spotO a addr := ⟨hp, by rw [hk]; exact ⟨rfl, by simp, by simp⟩⟩
    have hsl : slotO c a at_ := ⟨hp, by rw [hk]; exact ⟨rfl, by simp, by simp⟩⟩
    obtain ⟨a0, _, a2, a3⟩ := slA_eq hc ho.1 ho.2.1
    have hput : slotOf (putSlot ⟨1, addr, gen, 0⟩) = ⟨1, addr, gen, 0⟩ := slotOf_put (by simp) ⟨by show 0 ≤ addr; omega, by show addr ≤ 1048575; omega⟩ ⟨by show 0 ≤ gen; omega, by show gen ≤ 65535; omega⟩ (by simp)
    obtain ⟨m', e1, M', _⟩ := M.st ⟨c, t⟩ (putSlot ⟨1, addr, gen, 0⟩) (a := sA c at_) a2 (by omega)
    have hh : headOf (f addr) = ⟨1, size, at_, gen, own⟩ := by rw [hm.hd]; exact head_of (by omega) (by omega) hz.1 hz.2 ho.1 (by show at_ ≤ 65535; have := ho.2.1; omega) (by show 1 ≤ gen; omega) (by show gen ≤ 65535; omega)
    have hgs : sl c (upd f (sA c at_) (putSlot ⟨1, addr, gen, 0⟩)) at_ = ⟨1, addr, gen, 0⟩ := by simp only [sl, upd_self, hput]
    have hga : upd f (sA c at_) (putSlot ⟨1, addr, gen, 0⟩) addr = f addr := upd_ne (by have := ho.2.1; simp only [sA]; omega)
    have hgc : upd f (sA c at_) (putSlot ⟨1, addr, gen, 0⟩) (cA c chunk) = f (cA c chunk) := upd_ne (by have := ho.2.1; have := hm.sp.j0; simp only [sA, cA]; omega)
    have hpt : Pt c (upd f (sA c at_) (putSlot ⟨1, addr, gen, 0⟩)) chunk addr at_ gen size := by
      have hh' : hd (upd f (sA c at_) (putSlot ⟨1, addr, gen, 0⟩)) addr = ⟨1, size, at_, gen, own⟩ := by simp only [hd, hga, hh]
      exact ⟨hm.sp.same hgc, by rw [hh']; simp, ho.1, ho.2.1, by omega, by omega, hz.1, hz.2, by rw [hh'], by rw [hh'], by rw [hh'], by rw [ck_same hgc]; exact hm.cl⟩
    have C := Chg.slW (t := t) (a := a) (w := putSlot ⟨1, addr, gen, 0⟩) hc G0 ho.1 ho.2.1 (.show hsl (by rw [hgs]) (by rw [hgs]; exact hgn) ⟨chunk, size, by rw [hgs]; exact hpt, by rw [ck_same hgc]; exact hm.st⟩ (by rw [hgs]; simp only [hd, hga, hh]; omega) (by rw [hgs]; exact hso) ho.2.2)
    refine ⟨false, ⟨size, own, 6, take, at_, gen, p, addr, chunk, give, ⟨0, putHandle ⟨at_, gen⟩, 0, m'.steps⟩⟩, m', by simp only [AllocS.step, a0, e1], DNext.simple G0 hT hp M' C (upd_ne (by have := ho.1; simp only [sA]; omega)) (upd_ne (by have := ho.1; simp only [sA]; omega)) (fun j _ _ => upd_ne (by have := ho.2.1; simp only [sA, cA]; omega)) (fun _ => ?_) (fun _ i h => ?_) (fun _ x h => ?_) (fun j x _ hs => .inl ⟨rfl, ?_⟩)⟩
    · show AllocOk c _ _; exact ⟨fun (q : 6 = 0) => by omega, fun _ q => absurd rfl q, fun _ => hz, fun _ (q : 6 ≤ 5) => by omega, fun (q : 6 = 2) => by omega, fun (q : 6 = 3 ∨ 6 = 4) => by omega, fun _ => hm.same hgc hga, fun _ => ⟨ho.1, ho.2.1, by show 1 ≤ gen; omega, by show gen ≤ c.gens; omega⟩, fun (q : 7 ≤ 6) => by omega⟩
    · have h : at_ = i ∧ 1 ≤ 6 ∧ 6 ≠ 6 := h; exact absurd rfl h.2.2
    · rw [hk]; have h : addr = x ∧ _ := h; exact ⟨h.1, by simp, by simp⟩
    · rw [hk] at hs; have h : addr = x ∧ _ := hs; exact ⟨h.1, by simp, by simp⟩
  · refine ⟨rfl, ?_⟩
    have hz := hw.z (by simp)
    have hm := hw.m1 (.inr rfl)
    have hg6 := hw.g6 rfl
    simp only at hz hm hg6
    have hlo := hm.sp.lo hc G0
    have hr := room_bd hm.sp.k0 hm.sp.k1
    have hz' : ¬ Zer K chunk := fun h => by have := zer_state G0 h; have := hm.st; omega
    have hso : spotO a addr := ⟨hp, by rw [hk]; exact ⟨rfl, by simp, by simp⟩⟩
    have h1 : headOf (f addr) = ⟨1, size, at_, gen, own⟩ := by rw [hm.hd]; exact head_of (by omega) (by omega) hz.1 hz.2 hg6.1 (by show at_ ≤ 65535; omega) hg6.2.2.1 (by show gen ≤ 65535; omega)
    have h2 : headOf (AllocS.head ⟨size, own, 6, take, at_, gen, p, addr, chunk, give, out⟩ 2) = ⟨2, size, at_, gen, own⟩ := head_of (by omega) (by omega) hz.1 hz.2 hg6.1 (by show at_ ≤ 65535; omega) hg6.2.2.1 (by show gen ≤ 65535; omega)
    generalize hwd : (AllocS.head ⟨size, own, 6, take, at_, gen, p, addr, chunk, give, out⟩ 2) = w at *
    obtain ⟨m', e1, M', _⟩ := M.st ⟨c, t⟩ w (a := addr) (by omega) (by omega)
    have hga : hd (upd f addr w) addr = ⟨2, size, at_, gen, own⟩ := by simp only [hd, upd_self, h2]
    have C := Chg.datW (t := t) (a := a) (w := w) hc G0 hm.sp hz' (Int.le_refl 0) (by omega) (fun _ => ⟨hso, .inl (by rw [hga]; simp), fun _ => by rw [hga]; simp only [hd, h1]; exact ⟨by simp, trivial, trivial, trivial⟩⟩)
    rw [Int.add_zero] at C
    refine ⟨true, ⟨size, own, 6, take, at_, gen, p, addr, chunk, give, out⟩, m', by simp only [AllocS.step, hwd, e1], DNext.simple G0 hT hp M' C (upd_ne (by omega)) (upd_ne (by omega)) (fun j _ _ => upd_ne (by have := hm.sp.j0; simp only [cA]; omega)) (fun h => by cases h) (fun h => by cases h) (fun h => by cases h) (fun j x sp hs => .inr ?_)⟩
    rw [hk] at hs; have h : addr = x ∧ _ := hs
    obtain ⟨rfl, _⟩ := h
    obtain ⟨q1, q2, q3⟩ := C.spot sp
    have hj : chunk = j := by
      refine Spot.chunk hc hm.sp sp (G0.ch _ hm.sp.j0 hm.sp.j1).us (G0.ch _ sp.j0 sp.j1).us ⟨0, 0, by omega, by omega, by omega, ?_, rfl⟩
      have := room_bd sp.k0 sp.k1; omega
    refine ⟨.inl (by rw [hga]), at_, gen, size, q1, by rw [hga]; simp, hg6.1, hg6.2.1, hg6.2.2.1, hg6.2.2.2, hz.1, hz.2, by rw [hga], by rw [hga], by rw [hga], by rw [q2, ← hj]; exact hm.cl⟩
  · have ho := hw.own (by simp) (by show pc + 7 ≠ 6; omega)
    have hz := hw.z (by simp)
    obtain ⟨v, hv1, hv2, hv3⟩ := hw.gv (by simp)
    simp only at ho hz hv1 hv2
    subst hv1
    refine ⟨rfl, ?_⟩
    have hsl : slotO c a at_ := ⟨hp, by rw [hk]; exact ⟨rfl, by show 1 ≤ pc + 7; omega, by show pc + 7 ≠ 6; omega⟩⟩
    obtain ⟨gb, v', m', g, e1, M', es, hcs⟩ := give_step hc (e := ⟨c, t⟩) rfl M G0 (by rw [hv2]; exact ho.1) (by rw [hv2]; exact ho.2.1) hv3
    have mk : ∀ {g : Int → Nat}, (g (sA c at_) = f (sA c at_)) → GiveOk c g v' → AllocOk c g ⟨size, own, pc + 7, take, at_, gen, p, addr, chunk, some v', out⟩ := fun hs hq =>
      ⟨fun (q : pc + 7 = 0) => by omega, fun _ _ => ho.same hs, fun _ => hz, fun _ (q : pc + 7 ≤ 5) => by omega, fun (q : pc + 7 = 2) => by omega, fun (q : pc + 7 = 3 ∨ pc + 7 = 4) => by omega, fun (q : pc + 7 = 5 ∨ pc + 7 = 6) => by omega, fun (q : pc + 7 = 6) => by omega, fun _ => ⟨_, rfl, by rw [es, hv2], hq⟩⟩
    have slo : ∀ i, slotD c i (.alloc ⟨size, own, pc + 7, take, at_, gen, p, addr, chunk, some v', out⟩) → slotD c i a.work := fun i h => by rw [hk]; exact ⟨h.1, h.2⟩
    have spo : ∀ {P : Prop} x, spotD x (.alloc ⟨size, own, pc + 7, take, at_, gen, p, addr, chunk, some v', out⟩) → P := fun x h => by
      have h : addr = x ∧ 3 ≤ pc + 7 ∧ pc + 7 ≤ 6 := h; omega
    have e2 : AllocS.step ⟨size, own, pc + 7, take, at_, gen, p, addr, chunk, some v, out⟩ ⟨c, t⟩ m = (gb, ⟨size, own, pc + 7, take, at_, gen, p, addr, chunk, some v', out⟩, m') := by simp only [AllocS.step, Option.getD_some, e1]
    have now4 : ∀ x, spotD x a.work → False := nosp (.inr (by show 6 < pc + 7; omega))
    rcases hcs with ⟨rfl, rfl, h3⟩ | ⟨rfl, ⟨w, rfl⟩, h3⟩ | ⟨rfl, h2, h3, rfl⟩
    · exact ⟨false, _, m', e2, DNext.simple G0 hT hp M' (Chg.none ..) rfl rfl (fun _ _ _ => rfl) (fun _ => mk rfl h3) (fun _ => slo) (fun _ x h => spo x h) (fun _ x _ hs => (now4 x hs).elim)⟩
    · rw [hv2] at M' h3
      exact ⟨false, _, m', e2, DNext.simple G0 hT hp M' (Chg.lnkW hc G0 ho.1 ho.2.1 hsl w) (upd_ne (by have := ho.1; simp only [sA]; omega)) (upd_ne (by have := ho.1; simp only [sA]; omega)) (fun j _ _ => upd_ne (by have := ho.2.1; simp only [sA, cA]; omega)) (fun _ => mk (upd_ne (by simp only [sA]; omega)) h3) (fun _ => slo) (fun _ x h => spo x h) (fun _ x _ hs => (now4 x hs).elim)⟩
    · refine ⟨true, _, m', e2, give_fr hc G0 hT hp M' hB (by rw [hv2]; exact ho) (by rw [hv2]; exact hsl) h2 h3 now4⟩
end
end Go.FL

/- Safety: who lets an object go, who helps. No program in sight. -/
namespace Go.FL
open Go Go.SL
section
variable {c : Cfg} {f g : Int → Nat} {K : CompS} {t : Nat} {a : ActS} {T : Th} {B : Nat} {m m' : MemS} {e : EnvS}
theorem slotOf_put3 {s x n v : Int} (h1 : 0 ≤ s ∧ s ≤ 7) (h2 : 0 ≤ x ∧ x ≤ 1048575) (h3 : 0 ≤ n ∧ n ≤ 65535) : (slotOf (putSlot ⟨s, x, n, v⟩)).state = s ∧ (slotOf (putSlot ⟨s, x, n, v⟩)).addr = x ∧ (slotOf (putSlot ⟨s, x, n, v⟩)).gen = n := by
  rw [putSlot_eq]
  have hv := fitN_le v 4194303
  simp only [slotOf, m3, m20, m16, m22, Nat.shiftRight_eq_div_pow]
  rw [fitN_eq h1.1 (by omega), fitN_eq h2.1 (by omega), fitN_eq h3.1 (by omega)]
  refine ⟨?_, ?_, ?_⟩ <;> omega
theorem ref_of_live (G0 : G c B f T K) {i : Int} (i0 : 0 ≤ i) (i1 : i < c.slots) (hl : isLive (sl c f i)) (p : Nat) : ∃ z, Ref c f K p (sl c f i).addr i (sl c f i).gen z := by
  obtain ⟨j, z, pt, st, _⟩ := G0.ob i i0 i1 hl
  refine ⟨z, j, pt, fun hz => ?_, fun h3 => by omega, fun ha hp => ?_⟩
  · have := zer_state G0 hz; omega
  · have hu := G0.co.pu (by omega) (by omega)
    have hev := G0.co.ev (by omega) (by omega)
    rw [ha] at hu hev
    have hb := pt.sp.bd (G0.ch j pt.sp.j0 pt.sp.j1).us
    have hck : ck c f j = chunkOf K.w := by simp only [ck, hev.1]
    rw [hck] at hb
    exact absurd rfl ((hu _ pt.sp (by omega)).1 i i0 i1 hl)
theorem slotO_state (h : ActOk c f K t a) {i : Int} (hs : slotO c a i) : (sl c f i).state = 0 ∨ (sl c f i).state = 4 ∨ (sl c f i).state = 3 := by
  obtain ⟨h1, h2⟩ := hs
  have hw := h.work h1
  cases hk : a.work with
  | alloc s =>
    rw [hk] at hw h2
    have hw : AllocOk c f s := hw
    have h2 : s.at_ = i ∧ 1 ≤ s.pc ∧ s.pc ≠ 6 := h2
    obtain ⟨rfl, q1, q2⟩ := h2
    exact .inl (hw.own q1 q2).2.2
  | drop s =>
    rw [hk] at hw h2
    have hw : DropOk c f K a.i.epoch s := hw
    have h2 : s.h.slot = i ∧ (s.pc = 3 ∨ (s.pc = 5 ∧ s.h.gen < c.gens) ∨ 6 ≤ s.pc) := h2
    obtain ⟨rfl, q | ⟨q1, q2⟩ | q⟩ := h2
    · obtain ⟨v, v1, v2, v3⟩ := hw.cl q
      obtain ⟨v', w1, w2, w3⟩ := hw.hp (.inl q)
      obtain rfl : v = v' := by rw [v1] at w1; cases w1; rfl
      rcases v3 with r | ⟨_, r⟩ | ⟨_, r⟩
      · right; left; simp only [sl, r]; exact w3.st
      · exact .inl r
      · exact .inr (.inr r)
    · exact .inl (hw.o5 (by omega) q2).2.2
    · exact .inl (hw.o5 (by omega) (hw.g6 q).1).2.2
  | access s => rw [hk] at h2; exact h2.elim
theorem live_free (G0 : G c B f T K) {i : Int} (h : (sl c f i).state = 1 ∨ (sl c f i).state = 2) : ∀ n s, T n = some s → ¬ slotO c s i := fun n s hn hs => by
  have := slotO_state (G0.th n s hn).2 hs
  omega
def a0act : ActS := ⟨⟨0, 0⟩, 0, .access (newAccess ⟨0, 0, 0, 0, 0⟩ false), ⟨0, 0, 0, 0⟩⟩
theorem help_step (hc : CfgOk c) (ec : e.c = c) (M : Mf m (bA c c.chunks) f) (G0 : G c B f T K) {p : Nat} {s : HelpS} (h : HelpOk c f K p s) : ∃ b s' m' g, s.step e m = (b, s', m') ∧ Mf m' (bA c c.chunks) g ∧ s'.slot = s.slot ∧ s'.w = s.w ∧
    ((b = false ∧ HelpOk c g K p s' ∧ (∀ t a, Chg c f g K t a) ∧ ∀ x, x < 6 + c.threads + 2 * c.slots + 3 * c.chunks → g x = f x) ∨
     (b = true ∧ g = f ∧ f (sA c s.slot) ≠ s.w) ∨
     (b = true ∧ f (sA c s.slot) = s.w ∧ ∃ w, g = upd f (sA c s.slot) w ∧ ∀ a, SlotChg c f (upd f (sA c s.slot) w) K a s.slot)) := by
  have hL := bA_pos hc
  have hbd := bA_bd hc
  have hg1 := hc.g1
  have t0 := hc.t0
  have s0 := hc.s0
  have c0 := hc.c0
  obtain ⟨slot, w, size, i, cell, read, won⟩ := s
  have hst : (slotOf w).state = 4 := h.st
  obtain ⟨j, pt, sf⟩ := h.rf
  simp only at pt
  have hlo := pt.sp.lo hc G0
  have hi0 : 0 ≤ i := h.i0
  have hi1 : i ≤ size := h.i1
  have hrm := class_room pt.z0 pt.z1 pt.cl
  have hr := room_bd pt.sp.k0 pt.sp.k1
  have hi2 := pt.i0
  have hi3 := pt.i1
  by_cases hz : i ≥ size
  · obtain ⟨a0, _, a2, a3⟩ := slA_eq hc pt.i0 pt.i1
    have a0' : slotA e.c slot = sA c slot := by rw [ec]; exact a0
    generalize hnx : (if (slotOf w).gen ≥ e.c.gens then (⟨3, 0, (slotOf w).gen, 0⟩ : SlotS) else ⟨0, 0, w64 ((slotOf w).gen + 1), 0⟩) = nx
    by_cases he : f (sA c slot) = w
    · obtain ⟨m', e1, M', _⟩ := M.casT e (a := sA c slot) (old := w) (putSlot nx) a2 (by omega) he
      refine ⟨true, ⟨slot, w, size, i, cell, read, true⟩, m', _, by simp only [HelpS.step, if_pos hz, a0', hnx, e1], M', rfl, rfl, .inr (.inr ⟨rfl, he, _, rfl, fun a => .free (by simp only [sl, he]; exact hst) ?_⟩)⟩
      have hg := pt.g1
      have hg0 := pt.g0
      simp only [sl, upd_self, he]
      rw [ec] at hnx
      by_cases hge : (slotOf w).gen ≥ c.gens
      · rw [if_pos hge] at hnx
        rw [← hnx]
        obtain ⟨q1, _, q3⟩ := slotOf_put3 (s := 3) (x := 0) (n := (slotOf w).gen) (v := 0) (by omega) (by omega) (by omega)
        exact .inr ⟨hge, q1, q3⟩
      · rw [if_neg hge, show w64 ((slotOf w).gen + 1) = (slotOf w).gen + 1 from w64_id (by omega) (by omega)] at hnx
        rw [← hnx]
        obtain ⟨q1, _, q3⟩ := slotOf_put3 (s := 0) (x := 0) (n := (slotOf w).gen + 1) (v := 0) (by omega) (by omega) (by omega)
        exact .inl ⟨by omega, q1, q3⟩
    · obtain ⟨m', e1, M', _⟩ := M.casF e (a := sA c slot) (old := w) (putSlot nx) a2 (by omega) he
      exact ⟨true, ⟨slot, w, size, i, cell, read, false⟩, m', f, by simp only [HelpS.step, if_pos hz, a0', hnx, e1], M', rfl, rfl, .inr (.inl ⟨rfl, rfl, he⟩)⟩
  · have ha : w64 ((slotOf w).addr + 1 + i) = (slotOf w).addr + (1 + i) := by rw [show (slotOf w).addr + 1 + i = (slotOf w).addr + (1 + i) by omega]; exact w64_id (by omega) (by omega)
    have ei : w64 (i + 1) = i + 1 := w64_id (by have := pt.z1; omega) (by have := pt.z1; omega)
    have hx0 : 0 ≤ (slotOf w).addr + (1 + i) := by have := hc.t0; have := hc.s0; have := hc.c0; omega
    cases read with
    | false =>
      obtain ⟨m', e1, M', _⟩ := M.ld e (a := (slotOf w).addr + (1 + i)) hx0 (by omega)
      by_cases hz2 : ((cellOf (f ((slotOf w).addr + (1 + i)))).frozen && decide ((cellOf (f ((slotOf w).addr + (1 + i)))).ver = (slotOf w).ver)) = true
      · exact ⟨false, ⟨slot, w, size, i + 1, f ((slotOf w).addr + (1 + i)), false, won⟩, m', f, by simp only [HelpS.step, if_neg hz, ha, e1, Bool.false_eq_true, if_false, if_pos hz2, ei], M', rfl, rfl, .inl ⟨rfl, ⟨hst, ⟨j, pt, sf⟩, by show 0 ≤ i + 1; omega, by show i + 1 ≤ size; omega⟩, fun t a => Chg.none .., fun _ _ => rfl⟩⟩
      · exact ⟨false, ⟨slot, w, size, i, f ((slotOf w).addr + (1 + i)), true, won⟩, m', f, by simp only [HelpS.step, if_neg hz, ha, e1, Bool.false_eq_true, if_false, if_neg hz2], M', rfl, rfl, .inl ⟨rfl, ⟨hst, ⟨j, pt, sf⟩, hi0, hi1⟩, fun t a => Chg.none .., fun _ _ => rfl⟩⟩
    | true =>
      by_cases he : f ((slotOf w).addr + (1 + i)) = cell
      · obtain ⟨m', e1, M', _⟩ := M.casT e (old := cell) (putCell ⟨(cellOf cell).value, true, (slotOf w).ver⟩) hx0 (by omega) he
        have C : ∀ t a, Chg c f (upd f ((slotOf w).addr + (1 + i)) (putCell ⟨(cellOf cell).value, true, (slotOf w).ver⟩)) K t a := fun t a => Chg.datW hc G0 pt.sp sf.nz (by omega) (by omega) (fun q => by omega)
        exact ⟨false, ⟨slot, w, size, i + 1, cell, false, won⟩, m', _, by simp only [HelpS.step, if_neg hz, ha, e1, if_true, ei], M', rfl, rfl, .inl ⟨rfl, (C 0 a0act).help ⟨hst, ⟨j, pt, sf⟩, by show 0 ≤ i + 1; omega, by show i + 1 ≤ size; omega⟩, C, fun x hx => upd_ne (by omega)⟩⟩
      · obtain ⟨m', e1, M', _⟩ := M.casF e (old := cell) (putCell ⟨(cellOf cell).value, true, (slotOf w).ver⟩) hx0 (by omega) he
        exact ⟨false, ⟨slot, w, size, i, cell, false, won⟩, m', f, by simp only [HelpS.step, if_neg hz, ha, e1, if_true, Bool.false_eq_true, if_false], M', rfl, rfl, .inl ⟨rfl, ⟨hst, ⟨j, pt, sf⟩, hi0, hi1⟩, fun t a => Chg.none .., fun _ _ => rfl⟩⟩
end
end Go.FL

/- Safety: who lets an object go; who reads or lays a word. No program in sight. -/
namespace Go.FL
open Go Go.SL
section
variable {c : Cfg} {f g : Int → Nat} {K : CompS} {t : Nat} {a : ActS} {T : Th} {B : Nat} {m m' : MemS} {e : EnvS}
theorem handle_nn (n : Nat) : 0 ≤ (handleOf n).1.slot := by
  unfold handleOf
  split
  · exact Int.le_refl 0
  · exact Int.natCast_nonneg _
theorem live_iff {s : SlotS} {h : HandleS} (hl : live s h = true) : isLive s ∧ s.gen = h.gen := by
  simp only [live, Bool.and_eq_true, Bool.or_eq_true, decide_eq_true_eq] at hl
  exact ⟨by rcases hl.1 with (q | q) | q <;> simp [isLive, q], hl.2⟩
theorem Ref.inC (hc : CfgOk c) (G0 : G c B f T K) {p : Nat} {x i n z : Int} (h : Ref c f K p x i n z) : InC c x ∧ 0 ≤ x ∧ x < bA c c.chunks := by
  obtain ⟨j, pt, _⟩ := h
  have hb := pt.sp.bd (G0.ch j pt.sp.j0 pt.sp.j1).us
  have hlo := pt.sp.lo hc G0
  have hr := room_bd pt.sp.k0 pt.sp.k1
  have t0 := hc.t0
  have s0 := hc.s0
  have c0 := hc.c0
  exact ⟨⟨j, pt.sp.j0, pt.sp.j1, hb.1, by omega⟩, by omega, by omega⟩
theorem Ref.size {p : Nat} {x i n z : Int} (h : Ref c f K p x i n z) : (headOf (f x)).size = z ∧ 1 ≤ z ∧ z ≤ 16 ∧ 0 ≤ i ∧ i < c.slots ∧ 1 ≤ n ∧ n ≤ c.gens := by
  obtain ⟨j, pt, _⟩ := h
  exact ⟨pt.sz, pt.z0, pt.z1, pt.i0, pt.i1, pt.g0, pt.g1⟩
theorem keep_slot (hc : CfgOk c) (G0 : G c B f T K) {i st v : Int} {w : Nat} (i0 : 0 ≤ i) (i1 : i < c.slots) (he : f (sA c i) = w) (hl : (slotOf w).state = 1 ∨ (slotOf w).state = 2) (hs : st = 4 ∨ st = 1) :
    SlotChg c f (upd f (sA c i) (putSlot ⟨st, (slotOf w).addr, (slotOf w).gen, v⟩)) K a i ∧ (slotOf (putSlot ⟨st, (slotOf w).addr, (slotOf w).gen, v⟩)).state = st ∧ (slotOf (putSlot ⟨st, (slotOf w).addr, (slotOf w).gen, v⟩)).addr = (slotOf w).addr ∧ (slotOf (putSlot ⟨st, (slotOf w).addr, (slotOf w).gen, v⟩)).gen = (slotOf w).gen := by
  have hb := slotOf_bd w
  obtain ⟨q1, q2, q3⟩ := slotOf_put3 (s := st) (x := (slotOf w).addr) (n := (slotOf w).gen) (v := v) (by omega) (by omega) (by omega)
  refine ⟨.keep ?_ ?_ ?_ ?_ ?_, q1, q2, q3⟩
  · simp only [isLive, sl, he]; omega
  · simp only [sl, he]; omega
  · simp only [sl, upd_self, q1]; exact hs
  · simp only [sl, upd_self, q3, he]
  · simp only [sl, upd_self, q2, he]
theorem drop_step (hc : CfgOk c) (N : Now c B m T K) (hT : T t = some a) (hp : a.pc = 1) {s : DropS} (hk : a.work = .drop s) (hB : B < 34359738368) :
    (DoerS.drop s).wfb c = true ∧ ∃ b s' m', s.step ⟨c, t⟩ m = (b, s', m') ∧ DNext c B T K t a b (.drop s') m' := by
  obtain ⟨len, G0⟩ := N
  have M : Mf m (bA c c.chunks) (wd m) := ⟨len, rfl⟩
  generalize wd m = f at *
  obtain ⟨hlt, hA⟩ := G0.th t a hT
  have hw : DropOk c f K a.i.epoch s := by have := hA.work hp; rw [hk] at this; exact this
  have hL := bA_pos hc
  have t0 := hc.t0
  have s0 := hc.s0
  have s1 := hc.s1
  have c0 := hc.c0
  have hg1 := hc.g1
  have nosp : ∀ {P : Prop} x, spotD x a.work → P := by
    intro P x hs
    rw [hk] at hs
    exact (hs : False).elim
  obtain ⟨n, own, ⟨hsl, hgn⟩, pc, w, size, help, give, out⟩ := s
  rcases pc with _ | _ | _ | _ | _ | _ | pc
  · refine ⟨rfl, ?_⟩
    have hnn := handle_nn n
    generalize hq : handleOf n = q at *
    obtain ⟨⟨qs, qg⟩, qb⟩ := q
    simp only at hnn
    by_cases hz : qb = false ∨ qs ≥ c.slots
    · exact ⟨true, _, m, by simp only [DropS.step, hq, if_pos hz]; rfl, DNext.simple G0 hT hp M (Chg.none ..) rfl rfl (fun _ _ _ => rfl) (fun h => by cases h) (fun h => by cases h) (fun h => by cases h) (fun _ x _ hs => nosp x hs)⟩
    · have hz2 := hz
      simp only [not_or] at hz2
      obtain ⟨a0, _, a2, a3⟩ := slA_eq hc hnn (i := qs) (by omega)
      obtain ⟨m', e1, M', _⟩ := M.ld ⟨c, t⟩ (a := sA c qs) a2 (by omega)
      cases hlv : live (slotOf (f (sA c qs))) ⟨qs, qg⟩ with
      | false => exact ⟨true, _, m', by simp only [DropS.step, hq, if_neg hz, a0, e1, hlv, Bool.false_eq_true, if_false]; rfl, DNext.simple G0 hT hp M' (Chg.none ..) rfl rfl (fun _ _ _ => rfl) (fun h => by cases h) (fun h => by cases h) (fun h => by cases h) (fun _ x _ hs => nosp x hs)⟩
      | true =>
        obtain ⟨l1, l2⟩ := live_iff hlv
        obtain ⟨z, rf⟩ := ref_of_live G0 (i := qs) hnn (by omega) l1 a.i.epoch
        refine ⟨false, ⟨n, own, ⟨qs, qg⟩, 1, f (sA c qs), size, help, give, out⟩, m', by simp only [DropS.step, hq, if_neg hz, a0, e1, hlv, if_true], DNext.simple G0 hT hp M' (Chg.none ..) rfl rfl (fun _ _ _ => rfl) (fun _ => ?_) (fun _ i h => ?_) (fun _ x h => (h : False).elim) (fun _ x _ hs => nosp x hs)⟩
        · show DropOk c _ _ _ _
          exact ⟨fun _ _ => ⟨l1, l2, z, by have rf := rf; rw [show (sl c f qs).gen = qg from l2] at rf; exact rf, fun (q : 2 ≤ 1) => by omega⟩, fun (q : 1 = 2) => by omega, fun (q : 1 = 3 ∨ 1 = 4) => by omega, fun (q : 1 = 3) => by omega, fun (q : 5 ≤ 1) => by omega, fun (q : 5 ≤ 1) => by omega, fun (q : 6 ≤ 1) => by omega⟩
        · have h : qs = i ∧ (1 = 3 ∨ (1 = 5 ∧ _) ∨ 6 ≤ 1) := h; omega
  · refine ⟨rfl, ?_⟩
    obtain ⟨r1, r2, z, rf, _⟩ := hw.rf (Nat.le_refl 1) (by simp)
    simp only at r1 r2 rf
    obtain ⟨ic, x0, x1⟩ := rf.inC hc G0
    obtain ⟨hz, z0, z1, i0, i1, _, _⟩ := rf.size
    obtain ⟨m', e1, M', _⟩ := M.ld ⟨c, t⟩ (a := (slotOf w).addr) x0 x1
    by_cases ho : (headOf (f (slotOf w).addr)).own ≠ own
    · exact ⟨true, _, m', by simp only [DropS.step, e1, if_pos ho]; rfl, DNext.simple G0 hT hp M' (Chg.none ..) rfl rfl (fun _ _ _ => rfl) (fun h => by cases h) (fun h => by cases h) (fun h => by cases h) (fun _ x _ hs => nosp x hs)⟩
    · by_cases h4 : (slotOf w).state = 4
      · refine ⟨false, ⟨n, own, ⟨hsl, hgn⟩, 4, w, (headOf (f (slotOf w).addr)).size, some (newHelp hsl w (headOf (f (slotOf w).addr)).size), give, out⟩, m', by simp only [DropS.step, e1, if_neg ho, if_pos h4], DNext.simple G0 hT hp M' (Chg.none ..) rfl rfl (fun _ _ _ => rfl) (fun _ => ?_) (fun _ i h => ?_) (fun _ x h => (h : False).elim) (fun _ x _ hs => nosp x hs)⟩
        · show DropOk c _ _ _ _
          exact ⟨fun _ _ => ⟨r1, r2, z, rf, fun _ => hz⟩, fun (q : 4 = 2) => by omega, fun _ => ⟨_, rfl, rfl, h4, by show Ref c f K _ (slotOf w).addr hsl (slotOf w).gen _; rw [r2, hz]; exact rf, Int.le_refl 0, by show 0 ≤ (headOf (f (slotOf w).addr)).size; omega⟩, fun (q : 4 = 3) => by omega, fun (q : 5 ≤ 4) => by omega, fun (q : 5 ≤ 4) => by omega, fun (q : 6 ≤ 4) => by omega⟩
        · have h : hsl = i ∧ (4 = 3 ∨ (4 = 5 ∧ _) ∨ 6 ≤ 4) := h; omega
      · refine ⟨false, ⟨n, own, ⟨hsl, hgn⟩, 2, w, (headOf (f (slotOf w).addr)).size, help, give, out⟩, m', by simp only [DropS.step, e1, if_neg ho, if_neg h4], DNext.simple G0 hT hp M' (Chg.none ..) rfl rfl (fun _ _ _ => rfl) (fun _ => ?_) (fun _ i h => ?_) (fun _ x h => (h : False).elim) (fun _ x _ hs => nosp x hs)⟩
        · show DropOk c _ _ _ _
          exact ⟨fun _ _ => ⟨r1, r2, z, rf, fun _ => hz⟩, fun _ => h4, fun (q : 2 = 3 ∨ 2 = 4) => by omega, fun (q : 2 = 3) => by omega, fun (q : 5 ≤ 2) => by omega, fun (q : 5 ≤ 2) => by omega, fun (q : 6 ≤ 2) => by omega⟩
        · have h : hsl = i ∧ (2 = 3 ∨ (2 = 5 ∧ _) ∨ 6 ≤ 2) := h; omega
  · refine ⟨rfl, ?_⟩
    obtain ⟨r1, r2, z, rf, rz⟩ := hw.rf (by simp) (by simp)
    have h4 := hw.s2 rfl
    have rz := rz (Nat.le_refl 2)
    simp only at r1 r2 rf rz h4
    obtain ⟨_, z0, z1, i0, i1, _, _⟩ := rf.size
    obtain ⟨a0, _, a2, a3⟩ := slA_eq hc i0 i1
    have h12 : (slotOf w).state = 1 ∨ (slotOf w).state = 2 := by rcases r1 with q | q | q <;> omega
    by_cases he : f (sA c hsl) = w
    · obtain ⟨q0, q1, q2, q3⟩ := keep_slot (a := a) (v := w64 ((slotOf w).ver + 1)) hc G0 i0 i1 he h12 (.inl rfl)
      generalize hw' : putSlot ⟨4, (slotOf w).addr, (slotOf w).gen, w64 ((slotOf w).ver + 1)⟩ = w' at *
      obtain ⟨m', e1, M', _⟩ := M.casT ⟨c, t⟩ (a := sA c hsl) w' a2 (by omega) he
      have C := Chg.slW (t := t) (a := a) hc G0 i0 i1 q0
      have hst : (sl c f hsl).state = 1 ∨ (sl c f hsl).state = 2 := by simp only [sl, he]; exact h12
      refine ⟨false, ⟨n, own, ⟨hsl, hgn⟩, 3, w, size, some (newHelp hsl w' size), give, out⟩, m', by simp only [DropS.step, hw', a0, e1, if_true], DNext.full G0 hT hp M' C (upd_ne (by simp only [sA]; omega)) (fun _ => ?_) (fun _ i h => .inr ?_) (fun _ x h => (h : False).elim) (fun _ x _ hs => nosp x hs) (fun j x sp => .inl (sp.same (upd_ne (by have := sp.j0; simp only [sA, cA]; omega)).symm)) (fun a' ha1 ha2 => ?_)⟩
      · show DropOk c _ _ _ _
        have rf' := C.ref rf
        exact ⟨fun _ _ => ⟨r1, r2, z, rf', fun _ => rz⟩, fun (q : 3 = 2) => by omega, fun _ => ⟨_, rfl, rfl, q1, by show Ref c _ K _ (slotOf w').addr hsl (slotOf w').gen size; rw [q2, q3, r2, rz]; exact rf', Int.le_refl 0, by show 0 ≤ size; omega⟩, fun _ => ⟨_, rfl, by show (slotOf w').gen = hgn; rw [q3]; exact r2, .inl (upd_self _ _ _)⟩, fun (q : 5 ≤ 3) => by omega, fun (q : 5 ≤ 3) => by omega, fun (q : 6 ≤ 3) => by omega⟩
      · have h : hsl = i ∧ _ := h
        rw [← h.1]; exact live_free G0 hst
      · obtain ⟨F, f1, f2, f3, f4⟩ := G0.fr
        have hni : ∀ i ∈ F, i ≠ hsl := fun i hi q => by have := (f4 i hi).1; rw [q] at this; omega
        refine ⟨F, by rw [upd_ne (by simp only [sA]; omega)]; exact f1, f2.congr fun i hi => upd_ne (by simp only [sA]; omega), f3, fun i hi => ⟨by rw [sl_same (upd_ne (by have := hni i hi; simp only [sA]; omega))]; exact (f4 i hi).1, fun n' s' hn hs => ?_⟩⟩
        by_cases hnt : n' = t
        · subst hnt
          rw [upT_self] at hn; cases hn
          have h2 := hs.2
          rw [ha2] at h2
          have h2 : hsl = i ∧ _ := h2
          exact hni i hi h2.1.symm
        · rw [upT_ne hnt] at hn
          exact (f4 i hi).2 n' s' hn hs
    · generalize hw' : putSlot ⟨4, (slotOf w).addr, (slotOf w).gen, w64 ((slotOf w).ver + 1)⟩ = w' at *
      obtain ⟨m', e1, M', _⟩ := M.casF ⟨c, t⟩ (a := sA c hsl) w' a2 (by omega) he
      refine ⟨false, ⟨n, own, ⟨hsl, hgn⟩, 0, w, size, help, give, out⟩, m', by simp only [DropS.step, hw', a0, e1, Bool.false_eq_true, if_false], DNext.simple G0 hT hp M' (Chg.none ..) rfl rfl (fun _ _ _ => rfl) (fun _ => ?_) (fun _ i h => ?_) (fun _ x h => (h : False).elim) (fun _ x _ hs => nosp x hs)⟩
      · show DropOk c _ _ _ _
        exact ⟨fun (q : 1 ≤ 0) => by omega, fun (q : 0 = 2) => by omega, fun (q : 0 = 3 ∨ 0 = 4) => by omega, fun (q : 0 = 3) => by omega, fun (q : 5 ≤ 0) => by omega, fun (q : 5 ≤ 0) => by omega, fun (q : 6 ≤ 0) => by omega⟩
      · have h : hsl = i ∧ (0 = 3 ∨ (0 = 5 ∧ _) ∨ 6 ≤ 0) := h; omega
  · obtain ⟨r1, r2, z, rf, rz⟩ := hw.rf (by simp) (by simp)
    have hsz : size = z := rz (by show 2 ≤ _; simp)
    obtain ⟨v, v1, v2, v3⟩ := hw.hp (.inl rfl)
    obtain ⟨v', w1, w2, w3⟩ := hw.cl rfl
    simp only at r1 r2 rf rz v1 v2 w1 w2 w3
    obtain rfl : v = v' := by rw [v1] at w1; cases w1; rfl
    subst v1
    refine ⟨rfl, ?_⟩
    obtain ⟨_, z0, z1, i0, i1, _, _⟩ := rf.size
    obtain ⟨ic, x0, x1⟩ := rf.inC hc G0
    obtain ⟨a0, _, a2, a3⟩ := slA_eq hc i0 i1
    obtain ⟨b, u, m', g, e1, M', es, ew, hcs⟩ := help_step hc (e := ⟨c, t⟩) rfl M G0 v3
    have slo : ∀ {P : Prop} (p' : Nat) i, p' = 3 ∨ p' = 5 → hsl = i → slotD c i a.work := fun p' i _ q => by rw [hk]; exact ⟨q, .inl rfl⟩
    rcases hcs with ⟨rfl, hH, C, hlo⟩ | ⟨rfl, rfl, hne⟩ | ⟨rfl, he, w', rfl, hch⟩
    · refine ⟨false, ⟨n, own, ⟨hsl, hgn⟩, 3, w, size, some u, give, out⟩, m', by simp only [DropS.step, Option.getD_some, e1, Bool.false_eq_true, if_false], DNext.simple G0 hT hp M' (C t a) (hlo _ (by omega)) (hlo _ (by omega)) (fun j _ _ => hlo _ (by simp only [cA]; omega)) (fun _ => ?_) (fun _ i h => ?_) (fun _ x h => (h : False).elim) (fun _ x _ hs => nosp x hs)⟩
      · show DropOk c _ _ _ _
        have hs : g (sA c hsl) = f (sA c hsl) := hlo _ (by simp only [sA]; omega)
        exact ⟨fun _ _ => ⟨r1, r2, z, (C t a).ref rf, fun _ => hsz⟩, fun (q : 3 = 2) => by omega, fun _ => ⟨u, rfl, by rw [es, v2], hH⟩, fun _ => ⟨u, rfl, by rw [ew]; exact w2, by rw [ew]; show g (sA c hsl) = v.w ∨ _ ∨ _; rw [hs, sl_same hs]; exact w3⟩, fun (q : 5 ≤ 3) => by omega, fun (q : 5 ≤ 3) => by omega, fun (q : 6 ≤ 3) => by omega⟩
      · rw [hk]; exact ⟨h.1, .inl rfl⟩
    · refine ⟨false, ⟨n, own, ⟨hsl, hgn⟩, 5, w, size, some u, give, ⟨0, 0, 0, m'.whenAt (sA c hsl)⟩⟩, m', by simp only [DropS.step, Option.getD_some, e1, if_true, a0], DNext.simple G0 hT hp M' (Chg.none ..) rfl rfl (fun _ _ _ => rfl) (fun _ => ?_) (fun _ i h => ?_) (fun _ x h => (h : False).elim) (fun _ x _ hs => nosp x hs)⟩
      · show DropOk c _ _ _ _
        refine ⟨fun _ (q : 5 ≤ 4) => by omega, fun (q : 5 = 2) => by omega, fun (q : 5 = 3 ∨ 5 = 4) => by omega, fun (q : 5 = 3) => by omega, fun _ => ⟨i0, i1, by show 1 ≤ size; omega, by show size ≤ 16; omega, ic⟩, fun _ (q : hgn < c.gens) => ⟨i0, i1, ?_⟩, fun (q : 6 ≤ 5) => by omega⟩
        rcases w3 with r | ⟨_, r⟩ | ⟨r, _⟩
        · rw [v2] at hne; exact absurd r hne
        · exact r
        · omega
      · rw [hk]; exact ⟨h.1, .inl rfl⟩
    · have C := Chg.slW (t := t) (a := a) hc G0 (by rw [v2]; exact i0) (by rw [v2]; exact i1) (hch a)
      rw [v2] at C he M' hch
      refine ⟨false, ⟨n, own, ⟨hsl, hgn⟩, 5, w, size, some u, give, ⟨0, 0, 0, m'.whenAt (sA c hsl)⟩⟩, m', by simp only [DropS.step, Option.getD_some, e1, if_true, a0], DNext.simple G0 hT hp M' C (upd_ne (by simp only [sA]; omega)) (upd_ne (by simp only [sA]; omega)) (fun j _ _ => upd_ne (by simp only [sA, cA]; omega)) (fun _ => ?_) (fun _ i h => ?_) (fun _ x h => (h : False).elim) (fun _ x _ hs => nosp x hs)⟩
      · show DropOk c _ _ _ _
        refine ⟨fun _ (q : 5 ≤ 4) => by omega, fun (q : 5 = 2) => by omega, fun (q : 5 = 3 ∨ 5 = 4) => by omega, fun (q : 5 = 3) => by omega, fun _ => ⟨i0, i1, by show 1 ≤ size; omega, by show size ≤ 16; omega, ic⟩, fun _ (q : hgn < c.gens) => ⟨i0, i1, ?_⟩, fun (q : 6 ≤ 5) => by omega⟩
        have hgen : (sl c f hsl).gen = hgn := by simp only [sl, he]; exact w2
        have hs4 : (sl c f hsl).state = 4 := by simp only [sl, he]; exact v3.st
        rcases hch a with ⟨_, _, _, _, _, _, r⟩ | ⟨_, r, _⟩ | ⟨_, ⟨_, r, _⟩ | ⟨r, _⟩⟩
        · omega
        · exact absurd hs4 r
        · exact r
        · omega
      · rw [hk]; exact ⟨h.1, .inl rfl⟩
  · obtain ⟨r1, r2, z, rf, rz⟩ := hw.rf (by simp) (by simp)
    have hsz : size = z := rz (by show 2 ≤ _; simp)
    obtain ⟨v, v1, v2, v3⟩ := hw.hp (.inr rfl)
    simp only at r1 r2 rf rz v1 v2
    subst v1
    refine ⟨rfl, ?_⟩
    obtain ⟨_, z0, z1, i0, i1, _, _⟩ := rf.size
    obtain ⟨a0, _, a2, a3⟩ := slA_eq hc i0 i1
    obtain ⟨b, u, m', g, e1, M', es, ew, hcs⟩ := help_step hc (e := ⟨c, t⟩) rfl M G0 v3
    have h0 : ∀ (g : Int → Nat), DropOk c g K a.i.epoch ⟨n, own, ⟨hsl, hgn⟩, 0, w, size, some u, give, out⟩ := fun g => ⟨fun (q : 1 ≤ 0) => by omega, fun (q : 0 = 2) => by omega, fun (q : 0 = 3 ∨ 0 = 4) => by omega, fun (q : 0 = 3) => by omega, fun (q : 5 ≤ 0) => by omega, fun (q : 5 ≤ 0) => by omega, fun (q : 6 ≤ 0) => by omega⟩
    have s00 : ∀ {P : Prop} i, slotD c i (.drop ⟨n, own, ⟨hsl, hgn⟩, 0, w, size, some u, give, out⟩) → P := fun i h => by
      have h : hsl = i ∧ (0 = 3 ∨ (0 = 5 ∧ _) ∨ 6 ≤ 0) := h; omega
    rcases hcs with ⟨rfl, hH, C, hlo⟩ | ⟨rfl, rfl, hne⟩ | ⟨rfl, he, w', rfl, hch⟩
    · refine ⟨false, ⟨n, own, ⟨hsl, hgn⟩, 4, w, size, some u, give, out⟩, m', by simp only [DropS.step, Option.getD_some, e1, Bool.false_eq_true, if_false], DNext.simple G0 hT hp M' (C t a) (hlo _ (by omega)) (hlo _ (by omega)) (fun j _ _ => hlo _ (by simp only [cA]; omega)) (fun _ => ?_) (fun _ i h => ?_) (fun _ x h => (h : False).elim) (fun _ x _ hs => nosp x hs)⟩
      · show DropOk c _ _ _ _
        exact ⟨fun _ _ => ⟨r1, r2, z, (C t a).ref rf, fun _ => hsz⟩, fun (q : 4 = 2) => by omega, fun _ => ⟨u, rfl, by rw [es, v2], hH⟩, fun (q : 4 = 3) => by omega, fun (q : 5 ≤ 4) => by omega, fun (q : 5 ≤ 4) => by omega, fun (q : 6 ≤ 4) => by omega⟩
      · have h : hsl = i ∧ (4 = 3 ∨ (4 = 5 ∧ _) ∨ 6 ≤ 4) := h; omega
    · exact ⟨false, ⟨n, own, ⟨hsl, hgn⟩, 0, w, size, some u, give, out⟩, m', by simp only [DropS.step, Option.getD_some, e1, if_true], DNext.simple G0 hT hp M' (Chg.none ..) rfl rfl (fun _ _ _ => rfl) (fun _ => h0 _) (fun _ i h => s00 i h) (fun _ x h => (h : False).elim) (fun _ x _ hs => nosp x hs)⟩
    · have C := Chg.slW (t := t) (a := a) hc G0 (by rw [v2]; exact i0) (by rw [v2]; exact i1) (hch a)
      rw [v2] at C M'
      exact ⟨false, ⟨n, own, ⟨hsl, hgn⟩, 0, w, size, some u, give, out⟩, m', by simp only [DropS.step, Option.getD_some, e1, if_true], DNext.simple G0 hT hp M' C (upd_ne (by simp only [sA]; omega)) (upd_ne (by simp only [sA]; omega)) (fun j _ _ => upd_ne (by simp only [sA, cA]; omega)) (fun _ => h0 _) (fun _ i h => s00 i h) (fun _ x h => (h : False).elim) (fun _ x _ hs => nosp x hs)⟩
  · obtain ⟨i0, i1, z0, z1, j, j0, j1, x0, x1⟩ := hw.i5 (Nat.le_refl 5)
    have ho := hw.o5 (Nat.le_refl 5)
    simp only at i0 i1 z0 z1 x0 x1 ho
    have hcl := class_cases z0 z1
    have hww := hc.w0
    refine ⟨by simp only [DoerS.wfb]; rw [decide_eq_true hcl.1, decide_eq_false (by omega)]; rfl, ?_⟩
    have hj : ofA c (slotOf w).addr = j := by
      have := ofA_eq hc (j := j) (off := (slotOf w).addr - bA c j) j0 j1 (by omega) (by omega)
      rw [show bA c j + ((slotOf w).addr - bA c j) = (slotOf w).addr by omega] at this
      exact this
    obtain ⟨a0, a1, a2, a3, a4⟩ := ckA_eq hc j0 j1
    obtain ⟨m', w', e1, M', _⟩ := M.add ⟨c, t⟩ (w64 (-roomA (classA size))) (a := cA c j + 1) (by omega) (by omega)
    have C := Chg.liveW (t := t) (a := a) hc G0 j0 j1 w'
    have hs : upd f (cA c j + 1) w' (sA c hsl) = f (sA c hsl) := upd_ne (by simp only [sA, cA]; omega)
    by_cases hg : hgn ≥ c.gens
    · exact ⟨true, ⟨n, own, ⟨hsl, hgn⟩, 6, w, size, help, some { give0 with slot := hsl }, out⟩, m', by simp only [DropS.step, hj, a1, e1, decide_eq_true hg], DNext.simple G0 hT hp M' C (upd_ne (by simp only [cA]; omega)) (upd_ne (by simp only [cA]; omega)) (fun j _ _ => upd_ne (by simp only [cA]; omega)) (fun h => by cases h) (fun h => by cases h) (fun h => by cases h) (fun _ x _ hs => nosp x hs)⟩
    · refine ⟨false, ⟨n, own, ⟨hsl, hgn⟩, 6, w, size, help, some { give0 with slot := hsl }, out⟩, m', by simp only [DropS.step, hj, a1, e1, decide_eq_false hg], DNext.simple G0 hT hp M' C (upd_ne (by simp only [cA]; omega)) (upd_ne (by simp only [cA]; omega)) (fun j _ _ => upd_ne (by simp only [cA]; omega)) (fun _ => ?_) (fun _ i h => ?_) (fun _ x h => (h : False).elim) (fun _ x _ hs => nosp x hs)⟩
      · show DropOk c _ _ _ _
        exact ⟨fun _ (q : 6 ≤ 4) => by omega, fun (q : 6 = 2) => by omega, fun (q : 6 = 3 ∨ 6 = 4) => by omega, fun (q : 6 = 3) => by omega, fun _ => ⟨i0, i1, z0, z1, j, j0, j1, x0, x1⟩, fun _ _ => (ho (by omega)).same hs, fun _ => ⟨by show hgn < c.gens; omega, _, rfl, rfl, fun q => absurd rfl q, fun q => absurd rfl q⟩⟩
      · rw [hk]; exact ⟨h.1, .inr (.inl ⟨rfl, by show hgn < c.gens; omega⟩)⟩
  · obtain ⟨i0, i1, z0, z1, ic⟩ := hw.i5 (by simp)
    obtain ⟨hg, v, hv1, hv2, hv3⟩ := hw.g6 (by simp)
    have ho := hw.o5 (by simp) hg
    simp only at i0 i1 z0 z1 ic hg hv1 hv2 ho
    subst hv1
    refine ⟨rfl, ?_⟩
    have hsl' : slotO c a hsl := ⟨hp, by rw [hk]; exact ⟨rfl, .inr (.inr (by show 6 ≤ pc + 6; omega))⟩⟩
    obtain ⟨gb, v', m', g, e1, M', es, hcs⟩ := give_step hc (e := ⟨c, t⟩) rfl M G0 (by rw [hv2]; exact ho.1) (by rw [hv2]; exact ho.2.1) hv3
    have mk : ∀ {g : Int → Nat}, (g (sA c hsl) = f (sA c hsl)) → GiveOk c g v' → DropOk c g K a.i.epoch ⟨n, own, ⟨hsl, hgn⟩, pc + 6, w, size, help, some v', out⟩ := fun hs hq =>
      ⟨fun _ (q : pc + 6 ≤ 4) => by omega, fun (q : pc + 6 = 2) => by omega, fun (q : pc + 6 = 3 ∨ pc + 6 = 4) => by omega, fun (q : pc + 6 = 3) => by omega, fun _ => ⟨i0, i1, z0, z1, ic⟩, fun _ _ => ho.same hs, fun _ => ⟨hg, v', rfl, by rw [es, hv2], hq⟩⟩
    have slo : ∀ i, slotD c i (.drop ⟨n, own, ⟨hsl, hgn⟩, pc + 6, w, size, help, some v', out⟩) → slotD c i a.work := fun i h => by rw [hk]; exact ⟨h.1, h.2⟩
    have e2 : DropS.step ⟨n, own, ⟨hsl, hgn⟩, pc + 6, w, size, help, some v, out⟩ ⟨c, t⟩ m = (gb, ⟨n, own, ⟨hsl, hgn⟩, pc + 6, w, size, help, some v', out⟩, m') := by simp only [DropS.step, Option.getD_some, e1]
    rcases hcs with ⟨rfl, rfl, h3⟩ | ⟨rfl, ⟨w', rfl⟩, h3⟩ | ⟨rfl, h2, h3, rfl⟩
    · exact ⟨false, _, m', e2, DNext.simple G0 hT hp M' (Chg.none ..) rfl rfl (fun _ _ _ => rfl) (fun _ => mk rfl h3) (fun _ => slo) (fun _ x h => (h : False).elim) (fun _ x _ hs => nosp x hs)⟩
    · rw [hv2] at M' h3
      exact ⟨false, _, m', e2, DNext.simple G0 hT hp M' (Chg.lnkW hc G0 ho.1 ho.2.1 hsl' w') (upd_ne (by simp only [sA]; omega)) (upd_ne (by simp only [sA]; omega)) (fun j _ _ => upd_ne (by simp only [sA, cA]; omega)) (fun _ => mk (upd_ne (by simp only [sA]; omega)) h3) (fun _ => slo) (fun _ x h => (h : False).elim) (fun _ x _ hs => nosp x hs)⟩
    · exact ⟨true, _, m', e2, give_fr hc G0 hT hp M' hB (by rw [hv2]; exact ho) (by rw [hv2]; exact hsl') h2 h3 (fun x hs => nosp x hs)⟩
end
end Go.FL

/- Safety: who reads or lays a word; a step of an act. No program in sight. -/
namespace Go.FL
open Go Go.SL
section
variable {c : Cfg} {f g : Int → Nat} {K : CompS} {t : Nat} {a : ActS} {T : Th} {B : Nat} {m m' : MemS} {e : EnvS}
theorem acc0 {p : Nat} {x : WantS} {own : Bool} {h : HandleS} {w cell : Nat} {seen read size : Int} {help : Option HelpS} {out : DoneS} : AccessOk c g K p ⟨x, own, h, 0, w, cell, seen, read, size, help, out⟩ :=
  ⟨fun (q : 1 ≤ 0) => by omega, fun (q : 0 = 4) => by omega, fun (q : 0 = 3) => by omega⟩
theorem next_cases (s : AccessS) : s.next = 6 ∨ (s.next = 4 ∧ (slotOf s.w).state = 4) ∨ s.next = 5 ∨ (s.next = 3 ∧ (slotOf s.w).state = 2) ∨ s.next = 0 := by
  unfold AccessS.next
  simp only
  split
  · exact .inl rfl
  · split
    · exact .inr (.inl ⟨rfl, by assumption⟩)
    · split
      · exact .inr (.inr (.inl rfl))
      · split
        · rename_i h; exact .inr (.inr (.inr (.inl ⟨rfl, h.2⟩)))
        · exact .inr (.inr (.inr (.inr rfl)))
theorem access_step (hc : CfgOk c) (N : Now c B m T K) (hT : T t = some a) (hp : a.pc = 1) {s : AccessS} (hk : a.work = .access s) :
    (DoerS.access s).wfb c = true ∧ ∃ b s' m', s.step ⟨c, t⟩ m = (b, s', m') ∧ DNext c B T K t a b (.access s') m' := by
  obtain ⟨len, G0⟩ := N
  have M : Mf m (bA c c.chunks) (wd m) := ⟨len, rfl⟩
  generalize wd m = f at *
  obtain ⟨hlt, hA⟩ := G0.th t a hT
  have hw : AccessOk c f K a.i.epoch s := by have := hA.work hp; rw [hk] at this; exact this
  have hL := bA_pos hc
  have hbd := bA_bd hc
  have t0 := hc.t0
  have s0 := hc.s0
  have s1 := hc.s1
  have c0 := hc.c0
  have hg1 := hc.g1
  have nosp : ∀ {P : Prop} x, spotD x a.work → P := by
    intro P x hs
    rw [hk] at hs
    exact (hs : False).elim
  -- a step that changes no word, or one that nobody claims
  have fin : ∀ {b : Bool} {s' : AccessS} {m' : MemS} {g : Int → Nat}, Mf m' (bA c c.chunks) g → Chg c f g K t a → g (6 + t) = f (6 + t) → g 1 = f 1 → (∀ j, 0 ≤ j → j < c.chunks → g (cA c j) = f (cA c j)) → (b = false → AccessOk c g K a.i.epoch s') → DNext c B T K t a b (.access s') m' :=
    fun M' C h1 h2 h3 h4 => DNext.simple G0 hT hp M' C h1 h2 h3 h4 (fun _ _ h => (h : False).elim) (fun _ _ h => (h : False).elim) (fun _ x _ hs => nosp x hs)
  have ld : ∀ {b : Bool} {s' : AccessS} {m' : MemS}, Mf m' (bA c c.chunks) f → (b = false → AccessOk c f K a.i.epoch s') → DNext c B T K t a b (.access s') m' := fun M' h => fin M' (Chg.none ..) rfl rfl (fun _ _ _ => rfl) h
  obtain ⟨x, own, ⟨hsl, hgn⟩, pc, w, cell, seen, read, size, help, out⟩ := s
  rcases pc with _ | _ | _ | _ | _ | _ | pc
  · refine ⟨rfl, ?_⟩
    have hnn := handle_nn x.handle
    generalize hq : handleOf x.handle = q at *
    obtain ⟨⟨qs, qg⟩, qb⟩ := q
    simp only at hnn
    by_cases hz : qb = false ∨ qs ≥ c.slots
    · exact ⟨true, _, m, by simp only [AccessS.step, hq, if_pos hz]; rfl, ld M (fun h => by cases h)⟩
    · have hz2 := hz
      simp only [not_or] at hz2
      obtain ⟨a0, _, a2, a3⟩ := slA_eq hc hnn (i := qs) (by omega)
      obtain ⟨m', e1, M', _⟩ := M.ld ⟨c, t⟩ (a := sA c qs) a2 (by omega)
      cases hlv : live (slotOf (f (sA c qs))) ⟨qs, qg⟩ with
      | false => exact ⟨true, _, m', by simp only [AccessS.step, hq, if_neg hz, a0, e1, hlv, Bool.false_eq_true, if_false]; rfl, ld M' (fun h => by cases h)⟩
      | true =>
        obtain ⟨l1, l2⟩ := live_iff hlv
        obtain ⟨z, rf⟩ := ref_of_live G0 (i := qs) hnn (by omega) l1 a.i.epoch
        refine ⟨false, ⟨x, own, ⟨qs, qg⟩, 1, f (sA c qs), cell, m'.steps, read, size, help, out⟩, m', by simp only [AccessS.step, hq, if_neg hz, a0, e1, hlv, if_true], ld M' (fun _ => ?_)⟩
        exact ⟨fun _ => ⟨l1, l2, z, by have rf := rf; rw [show (sl c f qs).gen = qg from l2] at rf; exact rf, fun (q : 2 ≤ 1) => by omega⟩, fun (q : 1 = 4) => by omega, fun (q : 1 = 3) => by omega⟩
  · refine ⟨rfl, ?_⟩
    obtain ⟨r1, r2, z, rf, _⟩ := hw.rf (Nat.le_refl 1)
    simp only at r1 r2 rf
    obtain ⟨ic, x0, x1⟩ := rf.inC hc G0
    obtain ⟨hz, z0, z1, i0, i1, _, _⟩ := rf.size
    obtain ⟨m', e1, M', _⟩ := M.ld ⟨c, t⟩ (a := (slotOf w).addr) x0 x1
    by_cases ho : (headOf (f (slotOf w).addr)).own ≠ own
    · exact ⟨true, _, m', by simp only [AccessS.step, e1, if_pos ho]; rfl, ld M' (fun h => by cases h)⟩
    · by_cases hx : x.index < 0 ∨ x.index ≥ (headOf (f (slotOf w).addr)).size
      · exact ⟨true, _, m', by simp only [AccessS.step, e1, if_neg ho, if_pos hx]; rfl, ld M' (fun h => by cases h)⟩
      · refine ⟨false, ⟨x, own, ⟨hsl, hgn⟩, 2, w, cell, seen, read, (headOf (f (slotOf w).addr)).size, help, out⟩, m', by simp only [AccessS.step, e1, if_neg ho, if_neg hx], ld M' (fun _ => ?_)⟩
        simp only [not_or] at hx
        exact ⟨fun _ => ⟨r1, r2, z, rf, fun _ => ⟨hz, by show 0 ≤ x.index; omega, by show x.index < z; omega⟩⟩, fun (q : 2 = 4) => by omega, fun (q : 2 = 3) => by omega⟩
  · refine ⟨rfl, ?_⟩
    obtain ⟨r1, r2, z, rf, rz⟩ := hw.rf (by simp)
    obtain ⟨rz, x0, x1⟩ := rz (Nat.le_refl 2)
    simp only at r1 r2 rf rz x0 x1
    obtain ⟨hz, z0, z1, i0, i1, _, _⟩ := rf.size
    have rf0 := rf
    obtain ⟨j, pt, sf⟩ := rf0
    have hlo := pt.sp.lo hc G0
    have hrm := class_room pt.z0 pt.z1 pt.cl
    have hr := room_bd pt.sp.k0 pt.sp.k1
    have ha : AccessS.at ⟨x, own, ⟨hsl, hgn⟩, 2, w, cell, seen, read, size, help, out⟩ = (slotOf w).addr + (1 + x.index) := by
      simp only [AccessS.at]; rw [show (slotOf w).addr + 1 + x.index = (slotOf w).addr + (1 + x.index) by omega]; exact w64_id (by omega) (by omega)
    obtain ⟨m', e1, M', _⟩ := M.ld ⟨c, t⟩ (a := (slotOf w).addr + (1 + x.index)) (by omega) (by omega)
    have hn := next_cases ⟨x, own, ⟨hsl, hgn⟩, 2, w, f ((slotOf w).addr + (1 + x.index)), seen, m'.steps, size, help, out⟩
    generalize hnx : AccessS.next ⟨x, own, ⟨hsl, hgn⟩, 2, w, f ((slotOf w).addr + (1 + x.index)), seen, m'.steps, size, help, out⟩ = nx at hn
    have e2 : AccessS.step ⟨x, own, ⟨hsl, hgn⟩, 2, w, cell, seen, read, size, help, out⟩ ⟨c, t⟩ m = (false, if nx = 4 then ⟨x, own, ⟨hsl, hgn⟩, nx, w, f ((slotOf w).addr + (1 + x.index)), seen, m'.steps, size, some (newHelp hsl w size), out⟩ else ⟨x, own, ⟨hsl, hgn⟩, nx, w, f ((slotOf w).addr + (1 + x.index)), seen, m'.steps, size, help, out⟩, m') := by
      simp only [AccessS.step, ha, e1, hnx]
    refine ⟨false, _, m', e2, ld M' (fun _ => ?_)⟩
    simp only at hn
    rcases hn with rfl | ⟨rfl, h4⟩ | rfl | ⟨rfl, h2⟩ | rfl
    · exact ⟨fun _ => ⟨r1, r2, z, rf, fun _ => ⟨rz, x0, x1⟩⟩, fun (q : 6 = 4) => by omega, fun (q : 6 = 3) => by omega⟩
    · exact ⟨fun _ => ⟨r1, r2, z, rf, fun _ => ⟨rz, x0, x1⟩⟩, fun _ => ⟨_, rfl, h4, by show Ref c f K _ (slotOf w).addr hsl (slotOf w).gen size; rw [r2, rz]; exact rf, Int.le_refl 0, by show 0 ≤ size; omega⟩, fun (q : 4 = 3) => by omega⟩
    · exact ⟨fun _ => ⟨r1, r2, z, rf, fun _ => ⟨rz, x0, x1⟩⟩, fun (q : 5 = 4) => by omega, fun (q : 5 = 3) => by omega⟩
    · exact ⟨fun _ => ⟨r1, r2, z, rf, fun _ => ⟨rz, x0, x1⟩⟩, fun (q : 3 = 4) => by omega, fun _ => h2⟩
    · exact acc0
  · refine ⟨rfl, ?_⟩
    obtain ⟨r1, r2, z, rf, rz⟩ := hw.rf (by simp)
    have h2 := hw.s3 rfl
    simp only at r1 r2 rf h2
    obtain ⟨hz, z0, z1, i0, i1, _, _⟩ := rf.size
    obtain ⟨a0, _, a2, a3⟩ := slA_eq hc i0 i1
    by_cases he : f (sA c hsl) = w
    · obtain ⟨q0, q1, q2, q3⟩ := keep_slot (a := a) (v := w64 ((slotOf w).ver + 1)) hc G0 i0 i1 he (.inr h2) (.inr rfl)
      generalize hw' : putSlot ⟨1, (slotOf w).addr, (slotOf w).gen, w64 ((slotOf w).ver + 1)⟩ = w' at *
      obtain ⟨m', e1, M', _⟩ := M.casT ⟨c, t⟩ (a := sA c hsl) w' a2 (by omega) he
      exact ⟨false, ⟨x, own, ⟨hsl, hgn⟩, 0, w, cell, seen, read, size, help, out⟩, m', by simp only [AccessS.step, hw', a0, e1], fin M' (Chg.slW hc G0 i0 i1 q0) (upd_ne (by simp only [sA]; omega)) (upd_ne (by simp only [sA]; omega)) (fun j _ _ => upd_ne (by simp only [sA, cA]; omega)) (fun _ => acc0)⟩
    · generalize hw' : putSlot ⟨1, (slotOf w).addr, (slotOf w).gen, w64 ((slotOf w).ver + 1)⟩ = w' at *
      obtain ⟨m', e1, M', _⟩ := M.casF ⟨c, t⟩ (a := sA c hsl) w' a2 (by omega) he
      exact ⟨false, ⟨x, own, ⟨hsl, hgn⟩, 0, w, cell, seen, read, size, help, out⟩, m', by simp only [AccessS.step, hw', a0, e1], ld M' (fun _ => acc0)⟩
  · obtain ⟨v, v1, v3⟩ := hw.hp rfl
    simp only at v1
    subst v1
    refine ⟨rfl, ?_⟩
    obtain ⟨r1, r2, z, rf, rz⟩ := hw.rf (by simp)
    have rz' : size = z ∧ 0 ≤ x.index ∧ x.index < z := rz (by show 2 ≤ _; simp)
    simp only at r1 r2 rf
    have vi := v3.rf
    obtain ⟨_, _, _, i0, i1, _, _⟩ := vi.size
    obtain ⟨b, u, m', g, e1, M', es, ew, hcs⟩ := help_step hc (e := ⟨c, t⟩) rfl M G0 v3
    rcases hcs with ⟨rfl, hH, C, hlo⟩ | ⟨rfl, rfl, hne⟩ | ⟨rfl, he, w', rfl, hch⟩
    · refine ⟨false, ⟨x, own, ⟨hsl, hgn⟩, 4, w, cell, seen, read, size, some u, out⟩, m', by simp only [AccessS.step, Option.getD_some, e1, Bool.false_eq_true, if_false], fin M' (C t a) (hlo _ (by omega)) (hlo _ (by omega)) (fun j _ _ => hlo _ (by simp only [cA]; omega)) (fun _ => ?_)⟩
      exact ⟨fun _ => ⟨r1, r2, z, (C t a).ref rf, fun _ => rz'⟩, fun _ => ⟨u, rfl, hH⟩, fun (q : 4 = 3) => by omega⟩
    · exact ⟨false, ⟨x, own, ⟨hsl, hgn⟩, 0, w, cell, seen, read, size, some u, out⟩, m', by simp only [AccessS.step, Option.getD_some, e1, if_true], ld M' (fun _ => acc0)⟩
    · exact ⟨false, ⟨x, own, ⟨hsl, hgn⟩, 0, w, cell, seen, read, size, some u, out⟩, m', by simp only [AccessS.step, Option.getD_some, e1, if_true], fin M' (Chg.slW hc G0 i0 i1 (hch a)) (upd_ne (by simp only [sA]; omega)) (upd_ne (by simp only [sA]; omega)) (fun j _ _ => upd_ne (by simp only [sA, cA]; omega)) (fun _ => acc0)⟩
  · refine ⟨rfl, ?_⟩
    obtain ⟨r1, r2, z, rf, rz⟩ := hw.rf (by simp)
    obtain ⟨rz, x0, x1⟩ : size = z ∧ 0 ≤ x.index ∧ x.index < z := rz (by show 2 ≤ _; simp)
    simp only at r1 r2 rf
    obtain ⟨j, pt, sf⟩ := rf
    have hlo := pt.sp.lo hc G0
    have hrm := class_room pt.z0 pt.z1 pt.cl
    have hr := room_bd pt.sp.k0 pt.sp.k1
    have ha : AccessS.at ⟨x, own, ⟨hsl, hgn⟩, 5, w, cell, seen, read, size, help, out⟩ = (slotOf w).addr + (1 + x.index) := by
      simp only [AccessS.at]; rw [show (slotOf w).addr + 1 + x.index = (slotOf w).addr + (1 + x.index) by omega]; exact w64_id (by omega) (by omega)
    by_cases he : f ((slotOf w).addr + (1 + x.index)) = cell
    · obtain ⟨m', e1, M', _⟩ := M.casT ⟨c, t⟩ (old := cell) (putCell ⟨x.value, false, 0⟩) (by omega) (by omega) he
      have C : Chg c f (upd f ((slotOf w).addr + (1 + x.index)) (putCell ⟨x.value, false, 0⟩)) K t a := Chg.datW hc G0 pt.sp sf.nz (by omega) (by omega) (fun q => by omega)
      exact ⟨true, _, m', by simp only [AccessS.step, ha, e1, if_true]; rfl, fin M' C (upd_ne (by omega)) (upd_ne (by omega)) (fun j' _ _ => upd_ne (by simp only [cA]; omega)) (fun h => by cases h)⟩
    · obtain ⟨m', e1, M', _⟩ := M.casF ⟨c, t⟩ (old := cell) (putCell ⟨x.value, false, 0⟩) (a := (slotOf w).addr + (1 + x.index)) (by omega) (by omega) he
      exact ⟨false, ⟨x, own, ⟨hsl, hgn⟩, 0, w, cell, seen, read, size, help, out⟩, m', by simp only [AccessS.step, ha, e1, Bool.false_eq_true, if_false], ld M' (fun _ => acc0)⟩
  · refine ⟨rfl, ?_⟩
    obtain ⟨r1, r2, z, rf, rz⟩ := hw.rf (by simp)
    obtain ⟨hz, z0, z1, i0, i1, _, _⟩ := rf.size
    simp only at i0 i1
    obtain ⟨a0, _, a2, a3⟩ := slA_eq hc i0 i1
    obtain ⟨m', e1, M', _⟩ := M.ld ⟨c, t⟩ (a := sA c hsl) a2 (by omega)
    cases hlv : live (slotOf (f (sA c hsl))) ⟨hsl, hgn⟩ with
    | false => exact ⟨true, _, m', by simp only [AccessS.step, a0, e1, hlv, if_true]; rfl, ld M' (fun h => by cases h)⟩
    | true =>
      by_cases hx : (slotOf (f (sA c hsl))).addr ≠ (slotOf w).addr
      · exact ⟨false, ⟨x, own, ⟨hsl, hgn⟩, 0, w, cell, seen, read, size, help, out⟩, m', by simp only [AccessS.step, a0, e1, hlv, Bool.true_eq_false, if_false, if_pos hx], ld M' (fun _ => acc0)⟩
      · by_cases hk3 : x.kind = 3
        · exact ⟨true, _, m', by simp only [AccessS.step, a0, e1, hlv, Bool.true_eq_false, if_false, if_neg hx, if_pos hk3]; rfl, ld M' (fun h => by cases h)⟩
        · exact ⟨true, _, m', by simp only [AccessS.step, a0, e1, hlv, Bool.true_eq_false, if_false, if_neg hx, if_neg hk3]; rfl, ld M' (fun h => by cases h)⟩
theorem act_step (hc : CfgOk c) (N : Now c B m T K) (hT : T t = some a) (hB : B < 34359738368) :
    a.wfb c = true ∧ Now c (B + 1) (a.step ⟨c, t⟩ m).2.2 (upT T t (if (a.step ⟨c, t⟩ m).1 then none else some (a.step ⟨c, t⟩ m).2.1)) K := by
  rcases (by omega : a.pc = 0 ∨ a.pc = 1 ∨ 2 ≤ a.pc) with hp | hp | hp
  · obtain ⟨h1, h2⟩ := act_in hc N hT hp hB
    rw [h1]
    exact ⟨by simp only [ActS.wfb, hp], h2⟩
  · have key : a.work.wfb c = true ∧ ∃ b d' m', a.work.step ⟨c, t⟩ m = (b, d', m') ∧ DNext c B T K t a b d' m' := by
      cases hk : a.work with
      | alloc s =>
        obtain ⟨h1, b, s', m', h2, h3⟩ := alloc_step hc N hT hp hk hB
        exact ⟨h1, b, _, m', by simp only [DoerS.step, h2], h3⟩
      | drop s =>
        obtain ⟨h1, b, s', m', h2, h3⟩ := drop_step hc N hT hp hk hB
        exact ⟨h1, b, _, m', by simp only [DoerS.step, h2], h3⟩
      | access s =>
        obtain ⟨h1, b, s', m', h2, h3⟩ := access_step hc N hT hp hk
        exact ⟨h1, b, _, m', by simp only [DoerS.step, h2], h3⟩
    obtain ⟨h1, b, d', m', h2, h3⟩ := key
    rw [act_do hp h2]
    exact ⟨by simp only [ActS.wfb, hp]; exact h1, h3 _ rfl rfl rfl⟩
  · obtain ⟨h1, h2⟩ := act_out hc N hT hp
    rw [h1]
    refine ⟨?_, h2⟩
    obtain ⟨n, hn⟩ : ∃ n, a.pc = n + 2 := ⟨a.pc - 2, by omega⟩
    simp only [ActS.wfb, hn]
end
end Go.FL

