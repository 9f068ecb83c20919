/- Texts of one claim, laid into one: CA CB CC CD CE CF. -/
import Derived.Test.YtglghdjpkecngaaGreatBA
set_option linter.unusedVariables false
set_option linter.unusedSimpArgs false
/- The arena, alone: what words have in them, where things stand, memory as a function, steps one behind the other. No program in sight. -/
namespace Go.FL
set_option linter.unusedVariables false
set_option linter.unusedSimpArgs false
open Go Go.SL

/-! Words, laid and read. -/
theorem or_shl (x y k : Nat) (h : x < 2 ^ k) : x ||| y <<< k = x + y * 2 ^ k := by
  rw [Nat.or_comm, ← Nat.shiftLeft_add_eq_or_of_lt h, Nat.shiftLeft_eq, Nat.add_comm]
theorem fitN_eq {n : Int} {m : Nat} (h0 : 0 ≤ n) (h1 : n ≤ m) : fitN n m = n.toNat := by
  simp only [fitN]; exact Nat.min_eq_left (by omega)
theorem m2 (w : Nat) : w &&& 3 = w % 4 := Nat.and_two_pow_sub_one_eq_mod w 2
theorem m3 (w : Nat) : w &&& 7 = w % 8 := Nat.and_two_pow_sub_one_eq_mod w 3
theorem m6 (w : Nat) : w &&& 63 = w % 64 := Nat.and_two_pow_sub_one_eq_mod w 6
theorem m16 (w : Nat) : w &&& 65535 = w % 65536 := Nat.and_two_pow_sub_one_eq_mod w 16
theorem m17 (w : Nat) : w &&& 131071 = w % 131072 := Nat.and_two_pow_sub_one_eq_mod w 17
theorem m20 (w : Nat) : w &&& 1048575 = w % 1048576 := Nat.and_two_pow_sub_one_eq_mod w 20
theorem m22 (w : Nat) : w &&& 4194303 = w % 4194304 := Nat.and_two_pow_sub_one_eq_mod w 22
theorem m32 (w : Nat) : w &&& 4294967295 = w % 4294967296 := Nat.and_two_pow_sub_one_eq_mod w 32
theorem m36 (w : Nat) : w &&& 68719476735 = w % 68719476736 := Nat.and_two_pow_sub_one_eq_mod w 36
theorem m40 (w : Nat) : w &&& 1099511627775 = w % 1099511627776 := Nat.and_two_pow_sub_one_eq_mod w 40
theorem m1 (w : Nat) : w &&& 1 = w % 2 := Nat.and_two_pow_sub_one_eq_mod w 1
theorem putSlot_eq (s : SlotS) : putSlot s = fitN s.state 7 + fitN s.addr 1048575 * 8 + fitN s.gen 65535 * 8388608 + fitN s.ver 4194303 * 549755813888 := by
  have h1 := fitN_le s.state 7
  have h2 := fitN_le s.addr 1048575
  have h3 := fitN_le s.gen 65535
  unfold putSlot
  rw [or_shl _ _ 3 (by omega), or_shl _ _ 23 (by omega), or_shl _ _ 39 (by omega)]
theorem slotOf_put {s : SlotS} (h1 : 0 ≤ s.state ∧ s.state ≤ 7) (h2 : 0 ≤ s.addr ∧ s.addr ≤ 1048575) (h3 : 0 ≤ s.gen ∧ s.gen ≤ 65535) (h4 : 0 ≤ s.ver ∧ s.ver ≤ 4194303) : slotOf (putSlot s) = s := by
  obtain ⟨a, b, c, d⟩ := s
  simp only at h1 h2 h3 h4
  rw [putSlot_eq]
  simp only [slotOf, m3, m20, m16, m22, Nat.shiftRight_eq_div_pow, SlotS.mk.injEq]
  rw [fitN_eq h1.1 (by omega), fitN_eq h2.1 (by omega), fitN_eq h3.1 (by omega), fitN_eq h4.1 (by omega)]
  refine ⟨?_, ?_, ?_, ?_⟩ <;> omega
theorem putChunk_eq (s : ChunkS) : putChunk s = fitN s.state 3 + fitN s.cls 63 * 4 + fitN s.used 1048575 * 256 + fitN s.stamp 68719476735 * 268435456 := by
  have h1 := fitN_le s.state 3
  have h2 := fitN_le s.cls 63
  have h3 := fitN_le s.used 1048575
  unfold putChunk
  rw [or_shl _ _ 2 (by omega), or_shl _ _ 8 (by omega), or_shl _ _ 28 (by omega)]
theorem chunkOf_put {s : ChunkS} (h1 : 0 ≤ s.state ∧ s.state ≤ 3) (h2 : 0 ≤ s.cls ∧ s.cls ≤ 63) (h3 : 0 ≤ s.used ∧ s.used ≤ 1048575) :
    chunkOf (putChunk s) = ⟨s.state, s.cls, s.used, fitN s.stamp 68719476735⟩ := by
  obtain ⟨a, b, c, d⟩ := s
  simp only at h1 h2 h3 ⊢
  rw [putChunk_eq]
  have := fitN_le d 68719476735
  simp only [chunkOf, m2, m6, m20, m36, Nat.shiftRight_eq_div_pow, ChunkS.mk.injEq]
  rw [fitN_eq h1.1 (by omega), fitN_eq h2.1 (by omega), fitN_eq h3.1 (by omega)]
  refine ⟨?_, ?_, ?_, ?_⟩ <;> omega
theorem chunkOf_bd (w : Nat) : 0 ≤ (chunkOf w).state ∧ (chunkOf w).state ≤ 3 ∧ 0 ≤ (chunkOf w).cls ∧ (chunkOf w).cls ≤ 63 ∧ 0 ≤ (chunkOf w).used ∧ (chunkOf w).used ≤ 1048575 ∧ 0 ≤ (chunkOf w).stamp ∧ (chunkOf w).stamp ≤ 68719476735 := by
  simp only [chunkOf, m2, m6, m20, m36]; omega
theorem slotOf_bd (w : Nat) : 0 ≤ (slotOf w).state ∧ (slotOf w).state ≤ 7 ∧ 0 ≤ (slotOf w).addr ∧ (slotOf w).addr ≤ 1048575 ∧ 0 ≤ (slotOf w).gen ∧ (slotOf w).gen ≤ 65535 ∧ 0 ≤ (slotOf w).ver ∧ (slotOf w).ver ≤ 4194303 := by
  simp only [slotOf, m3, m16, m20, m22]; omega
theorem or50 (X : Nat) (hX : X < 2 ^ 50) : X ||| 1125899906842624 = X + 1125899906842624 := by
  have e := or_shl X 1 50 hX
  rw [show (1 : Nat) <<< 50 = 1125899906842624 by simp] at e
  rw [e, Nat.one_mul]
theorem putHead_eq (h : HeadS) : putHead h = fitN h.kind 3 + fitN h.size 65535 * 4 + fitN h.slot 65535 * 262144 + fitN h.gen 65535 * 17179869184 + (if h.own then 1125899906842624 else 0) := by
  have h1 := fitN_le h.kind 3
  have h2 := fitN_le h.size 65535
  have h3 := fitN_le h.slot 65535
  have h4 := fitN_le h.gen 65535
  unfold putHead
  simp only
  rw [or_shl _ _ 2 (by omega), or_shl _ _ 18 (by omega), or_shl _ _ 34 (by omega)]
  cases h.own
  · simp only [Bool.false_eq_true, if_false]; omega
  · simp only [if_true]
    rw [or50 _ (by omega)]
theorem headOf_put {h : HeadS} (h1 : 0 ≤ h.kind ∧ h.kind ≤ 3) (h2 : 0 ≤ h.size ∧ h.size ≤ 65535) (h3 : 0 ≤ h.slot ∧ h.slot ≤ 65535) (h4 : 0 ≤ h.gen ∧ h.gen ≤ 65535) : headOf (putHead h) = h := by
  obtain ⟨a, b, c, d, o⟩ := h
  simp only at h1 h2 h3 h4
  rw [putHead_eq]
  simp only [headOf, m2, m16, m1, Nat.shiftRight_eq_div_pow, HeadS.mk.injEq]
  rw [fitN_eq h1.1 (by omega), fitN_eq h2.1 (by omega), fitN_eq h3.1 (by omega), fitN_eq h4.1 (by omega)]
  cases o
  · refine ⟨?_, ?_, ?_, ?_, ?_⟩ <;> first | (simp only [Bool.false_eq_true, if_false]; omega) | skip
    rw [beq_false]; simp only [Bool.false_eq_true, if_false]; omega
  · refine ⟨?_, ?_, ?_, ?_, ?_⟩ <;> first | (simp only [if_true]; omega) | skip
    rw [beq_true]; simp only [if_true]; omega
theorem cellOf_lt {w : Nat} (h : w < 1099511627776) : cellOf w = ⟨(w : Int), false, 0⟩ := by
  have e : Nat.beq (w >>> 63) 1 = false := by rw [beq_false, Nat.shiftRight_eq_div_pow]; omega
  simp only [cellOf, e, m40, Bool.false_eq_true, if_false, CellS.mk.injEq, and_true]
  omega
theorem putCell_plain {v : Int} (h0 : 0 ≤ v) (h1 : v ≤ 1099511627775) : putCell ⟨v, false, 0⟩ = v.toNat := by
  simp only [putCell, Bool.false_eq_true, if_false]; exact fitN_eq h0 h1
theorem topSlot_put {s n : Int} (h0 : -1 ≤ s) (h1 : s ≤ 65535) : topSlot (putTop s n) = s := by
  have e : fitN (IntKind.i64.wrap (min s 65535 + 1)) 65536 = (s + 1).toNat := by
    rw [w64_id (by omega) (by omega), fitN_eq (by omega) (by omega)]; omega
  simp only [topSlot, putTop, e]
  rw [or_shl _ _ 17 (by omega), m17]; omega
theorem putHandle_eq (h : HandleS) : putHandle h = fitN h.slot 65535 + fitN h.gen 65535 * 65536 := by
  have h1 := fitN_le h.slot 65535
  unfold putHandle
  rw [or_shl _ _ 16 (by omega)]
theorem handleOf_put {h : HandleS} (h1 : 0 ≤ h.slot ∧ h.slot ≤ 65535) (h2 : 1 ≤ h.gen ∧ h.gen ≤ 65535) : handleOf (putHandle h) = (h, true) := by
  obtain ⟨a, b⟩ := h
  simp only at h1 h2
  rw [putHandle_eq, fitN_eq h1.1 (by omega), fitN_eq (by show (0:Int) ≤ b; omega) (by show b ≤ ((65535 : Nat) : Int); omega)]
  simp only [handleOf, Nat.shiftRight_eq_div_pow, m16]
  rw [if_neg (by simp; omega)]
  simp only [Prod.mk.injEq, HandleS.mk.injEq, and_true]
  omega
theorem putHandle_of {n : Nat} {s g : Int} (h : handleOf n = (⟨s, g⟩, true)) : n = putHandle ⟨s, g⟩ ∧ 0 ≤ s ∧ s ≤ 65535 ∧ 1 ≤ g ∧ g ≤ 65535 := by
  simp only [handleOf, Nat.shiftRight_eq_div_pow, m16] at h
  split at h
  · cases h
  · rename_i hn
    simp only [Prod.mk.injEq, HandleS.mk.injEq, and_true] at h
    obtain ⟨rfl, rfl⟩ := h
    rw [putHandle_eq]
    have hn1 : n / 2 ^ 32 = 0 ∧ n / 2 ^ 16 ≠ 0 := by simpa using hn
    have q : ∀ a b : Int, (⟨a, b⟩ : HandleS).slot = a ∧ (⟨a, b⟩ : HandleS).gen = b := fun _ _ => ⟨rfl, rfl⟩
    rw [(q _ _).1, (q _ _).2, fitN_eq (by omega) (by omega), fitN_eq (by omega) (by omega)]
    omega

/-! Where things stand. -/
def sA (c : Cfg) (i : Int) : Int := 6 + c.threads + 2 * i
def cA (c : Cfg) (j : Int) : Int := 6 + c.threads + 2 * c.slots + 3 * j
def bA (c : Cfg) (j : Int) : Int := 6 + c.threads + 2 * c.slots + 3 * c.chunks + c.words * j
theorem bA_succ (c : Cfg) (j : Int) : bA c (j + 1) = bA c j + c.words := by simp only [bA, Int.mul_add, Int.mul_one]; omega
theorem bA_mono {c : Cfg} (h : CfgOk c) {i j : Int} (hij : i < j) : bA c i + c.words ≤ bA c j := by
  have h0 := h.w0
  have : c.words * (i + 1) ≤ c.words * j := Int.mul_le_mul_of_nonneg_left (by omega) (by omega)
  rw [Int.mul_add, Int.mul_one] at this
  simp only [bA]; omega
theorem bA_zero (c : Cfg) : bA c 0 = 6 + c.threads + 2 * c.slots + 3 * c.chunks := by simp [bA]
theorem bA_ge {c : Cfg} (h : CfgOk c) {j : Int} (hj : 0 ≤ j) : 6 + c.threads + 2 * c.slots + 3 * c.chunks ≤ bA c j := by
  have h0 := h.w0
  have : 0 ≤ c.words * j := Int.mul_nonneg (by omega) hj
  simp only [bA]; omega
theorem bA_le {c : Cfg} (h : CfgOk c) {j : Int} (hj : j < c.chunks) : bA c j + c.words ≤ bA c c.chunks := bA_mono h hj
theorem bA_bd {c : Cfg} (h : CfgOk c) : bA c c.chunks ≤ 200000 := by
  obtain ⟨t0, t1, s0, s1, c0, c1, w0, w1, _⟩ := h
  have : c.words * c.chunks ≤ 256 * 64 := Int.mul_le_mul w1 c1 (by omega) (by omega)
  simp only [bA]; omega
theorem slotA_eq {c : Cfg} (h : CfgOk c) {i : Int} (h0 : -1 ≤ i) (h1 : i ≤ 65536) : slotA c i = sA c i := by
  obtain ⟨t0, t1, _⟩ := h
  exact w64_id (by omega) (by omega)
theorem chunkA_eq {c : Cfg} (h : CfgOk c) {i : Int} (h0 : -1 ≤ i) (h1 : i ≤ 64) : chunkA c i = cA c i := by
  obtain ⟨t0, t1, s0, s1, _⟩ := h
  exact w64_id (by omega) (by omega)
theorem baseA_eq {c : Cfg} (h : CfgOk c) {j : Int} (h0 : 0 ≤ j) (h1 : j ≤ c.chunks) : baseA c j = bA c j := by
  have g0 := bA_ge h h0
  have g1 := bA_bd h
  have g2 : bA c j ≤ bA c c.chunks := by
    have := h.w0
    rcases Int.lt_or_eq_of_le h1 with h2 | h2
    · have := bA_le h h2; omega
    · rw [h2]; omega
  obtain ⟨t0, t1, s0, s1, c0, c1, w0, w1, _⟩ := h
  exact w64_id (by simp only [bA] at g0 g1 g2; omega) (by simp only [bA] at g0 g1 g2; omega)
theorem lenA_eq {c : Cfg} (h : CfgOk c) : lenA c = bA c c.chunks := baseA_eq h (by have := h.c0; omega) (by omega)
theorem ofA_eq {c : Cfg} (h : CfgOk c) {j off : Int} (h0 : 0 ≤ j) (h1 : j < c.chunks) (h2 : 0 ≤ off) (h3 : off < c.words) : ofA c (bA c j + off) = j := by
  have hw := h.w0
  have g0 := bA_ge h h0
  have g1 := bA_bd h
  have g2 := bA_le h h1
  have hc := h.c1
  have e0 := bA_zero c
  have q0 := baseA_eq h (j := 0) (by omega) (by have := h.c0; omega)
  unfold ofA
  rw [q0, lenA_eq h, if_neg (by omega)]
  have e1 : bA c j + off - bA c 0 = c.words * j + off := by simp only [bA]; omega
  have hb : c.words * j + off ≤ 200000 := by
    have a1 := h.t0; have a2 := h.s0; have a3 := h.c0
    simp only [bA] at g1 g2; omega
  have hp : 0 ≤ c.words * j := Int.mul_nonneg (by omega) h0
  rw [e1]
  show IntKind.i64.wrap ((IntKind.i64.wrap _).tdiv _) = _
  have e2 : IntKind.i64.wrap (c.words * j + off) = c.words * j + off := w64_id (by omega) (by omega)
  rw [e2, Int.tdiv_eq_ediv_of_nonneg (by omega), Int.add_comm, Int.add_mul_ediv_left _ _ (by omega), Int.ediv_eq_zero_of_lt h2 h3]
  rw [Int.zero_add]
  exact w64_id (by omega) (by omega)
theorem ofA_lo {c : Cfg} (h : CfgOk c) {a : Int} (ha : a < 6 + c.threads + 2 * c.slots + 3 * c.chunks) : ofA c a = -1 := by
  unfold ofA
  rw [baseA_eq h (j := 0) (by omega) (by have := h.c0; omega), bA_zero, if_pos (.inl ha)]
theorem room_cases {k : Int} (h0 : 0 ≤ k) (h1 : k < 4) : (k = 0 ∧ roomA k = 3) ∨ (k = 1 ∧ roomA k = 5) ∨ (k = 2 ∧ roomA k = 9) ∨ (k = 3 ∧ roomA k = 17) := by
  rcases (by omega : k = 0 ∨ k = 1 ∨ k = 2 ∨ k = 3) with rfl | rfl | rfl | rfl
  · exact .inl ⟨rfl, by decide⟩
  · exact .inr (.inl ⟨rfl, by decide⟩)
  · exact .inr (.inr (.inl ⟨rfl, by decide⟩))
  · exact .inr (.inr (.inr ⟨rfl, by decide⟩))
theorem class_cases {z : Int} (h0 : 1 ≤ z) (h1 : z ≤ 16) : 0 ≤ classA z ∧ classA z < 4 ∧ z + 1 ≤ roomA (classA z) := by
  unfold classA
  rw [if_neg (by omega)]
  split
  · exact ⟨by omega, by omega, by rw [show roomA 0 = 3 by decide]; omega⟩
  split
  · exact ⟨by omega, by omega, by rw [show roomA 1 = 5 by decide]; omega⟩
  split
  · exact ⟨by omega, by omega, by rw [show roomA 2 = 9 by decide]; omega⟩
  first | rw [if_pos h1] | skip
  exact ⟨by omega, by omega, by rw [show roomA 3 = 17 by decide]; omega⟩
theorem class_neg {z : Int} (h : z < 1 ∨ 16 < z) : classA z = -1 := by
  unfold classA
  rcases h with h | h
  · rw [if_pos h]
  · rw [if_neg (by omega), if_neg (by omega), if_neg (by omega), if_neg (by omega), if_neg (by omega)]

/-! Memory as a function; the pin of whoever works (at q, now p) apart. -/
def upd (f : Int → Nat) (a : Int) (w : Nat) : Int → Nat := fun b => if b = a then w else f b
theorem upd_self (f : Int → Nat) (a : Int) (w : Nat) : upd f a w a = w := by simp [upd]
theorem upd_ne {f : Int → Nat} {a b : Int} {w : Nat} (h : b ≠ a) : upd f a w b = f b := by simp [upd, h]
structure Mv (m : MemS) (L q : Int) (p : Nat) (f : Int → Nat) : Prop where
  len : (m.cs.length : Int) = L
  at_ : ∀ a, 0 ≤ a → a < L → a ≠ q → (m.at a).1 = f a
  pin : (m.at q).1 = p
  qr : 0 ≤ q ∧ q < L
theorem MemS.lay_at (m : MemS) {a b : Int} (w : Nat) (ha : 0 ≤ a) (ha2 : a < m.cs.length) (hb : 0 ≤ b) : ((m.lay a w).at b).1 = if b = a then w else (m.at b).1 := by
  have hk : a.toNat < m.cs.length := by omega
  simp only [MemS.at, MemS.lay, List.getD_eq_getElem?_getD]
  by_cases h : b = a
  · rw [if_pos h, h, List.getElem?_set_self hk]; rfl
  · rw [if_neg h, List.getElem?_set_ne (by omega)]
theorem MemS.lay_len (m : MemS) (a : Int) (w : Nat) : (m.lay a w).cs.length = m.cs.length := by simp [MemS.lay]
section
variable {m : MemS} {L q : Int} {p : Nat} {f : Int → Nat} {e : EnvS} {a : Int}
theorem Mv.inR (M : Mv m L q p f) (h0 : 0 ≤ a) (h1 : a < L) : (m.by e.who).inR a = true := by
  have hl := M.len
  have h2 : a < (m.cs.length : Int) := by omega
  exact Bool.and_eq_true_iff.2 ⟨decide_eq_true h0, decide_eq_true h2⟩
theorem Mv.ld (M : Mv m L q p f) (e : EnvS) (h0 : 0 ≤ a) (h1 : a < L) (h2 : a ≠ q) : ∃ m', eld e m a = (f a, m') ∧ Mv m' L q p f ∧ m'.la = a := by
  refine ⟨(m.by e.who).tick a, ?_, ⟨M.len, M.at_, M.pin, M.qr⟩, rfl⟩
  simp only [eld, MemS.ld, M.inR h0 h1, if_true]
  rw [← M.at_ a h0 h1 h2]; rfl
theorem Mv.st (M : Mv m L q p f) (e : EnvS) (w : Nat) (h0 : 0 ≤ a) (h1 : a < L) (h2 : a ≠ q) : Mv (est e m a w) L q p (upd f a w) ∧ (est e m a w).la = a := by
  have hl := M.len
  have hs : est e m a w = ((m.by e.who).tick a).lay a w := by simp only [est, MemS.st, M.inR h0 h1, if_true]
  rw [hs]
  refine ⟨⟨by rw [MemS.lay_len]; exact hl, fun b hb hb1 hb2 => ?_, ?_, M.qr⟩, rfl⟩
  · rw [MemS.lay_at _ _ h0 (by show a < (m.cs.length : Int); omega) hb]
    simp only [upd]
    split
    · rfl
    · exact M.at_ b hb hb1 hb2
  · rw [MemS.lay_at _ _ h0 (by show a < (m.cs.length : Int); omega) M.qr.1, if_neg (Ne.symm h2)]
    exact M.pin
theorem Mv.casT (M : Mv m L q p f) (e : EnvS) {old : Nat} (w : Nat) (h0 : 0 ≤ a) (h1 : a < L) (h2 : a ≠ q) (h : f a = old) : ∃ m', ecas e m a old w = (true, m') ∧ Mv m' L q p (upd f a w) ∧ m'.la = a := by
  refine ⟨est e m a w, ?_, M.st e w h0 h1 h2⟩
  have hb : Nat.beq ((m.by e.who).at a).1 old = true := by rw [beq_true, ← h]; exact M.at_ a h0 h1 h2
  simp only [ecas, MemS.cas, M.inR h0 h1, if_true, hb, est, MemS.st]
theorem Mv.casF (M : Mv m L q p f) (e : EnvS) {old : Nat} (w : Nat) (h0 : 0 ≤ a) (h1 : a < L) (h2 : a ≠ q) (h : f a ≠ old) : ∃ m', ecas e m a old w = (false, m') ∧ Mv m' L q p f ∧ m'.la = a := by
  refine ⟨(m.by e.who).tick a, ?_, ⟨M.len, M.at_, M.pin, M.qr⟩, rfl⟩
  have hb : Nat.beq ((m.by e.who).at a).1 old = false := by rw [beq_false]; rw [show ((m.by e.who).at a).1 = f a from M.at_ a h0 h1 h2]; exact h
  simp [ecas, MemS.cas, M.inR h0 h1, hb]
theorem Mv.add (M : Mv m L q p f) (e : EnvS) (d : Int) (h0 : 0 ≤ a) (h1 : a < L) (h2 : a ≠ q) : Mv (eadd e m a d) L q p (upd f a (((f a : Int) + d) % 18446744073709551616).toNat) ∧ (eadd e m a d).la = a := by
  have hs : eadd e m a d = est e m a (((f a : Int) + d) % 18446744073709551616).toNat := by
    simp only [eadd, MemS.add, est, MemS.st]
    rw [show ((m.by e.who).at a).1 = f a from M.at_ a h0 h1 h2]
  rw [hs]; exact M.st e _ h0 h1 h2
/-- The pin laid. -/
theorem Mv.pinned (M : Mv m L q p f) (e : EnvS) (w : Nat) : Mv (est e m q w) L q w f ∧ (est e m q w).la = q := by
  have hl := M.len
  have hq := M.qr
  have hs : est e m q w = ((m.by e.who).tick q).lay q w := by simp only [est, MemS.st, M.inR hq.1 hq.2, if_true]
  rw [hs]
  refine ⟨⟨by rw [MemS.lay_len]; exact hl, fun b hb hb1 hb2 => ?_, ?_, M.qr⟩, rfl⟩
  · rw [MemS.lay_at _ _ hq.1 (by show q < (m.cs.length : Int); omega) hb, if_neg hb2]
    exact M.at_ b hb hb1 hb2
  · rw [MemS.lay_at _ _ hq.1 (by show q < (m.cs.length : Int); omega) hq.1, if_pos rfl]
theorem Mv.congr {g : Int → Nat} (M : Mv m L q p f) (h : ∀ a, 0 ≤ a → a < L → f a = g a) : Mv m L q p g :=
  ⟨M.len, fun a h0 h1 h2 => by rw [M.at_ a h0 h1 h2, h a h0 h1], M.pin, M.qr⟩
end

/-! Steps one behind the other, none of which is the last one. -/
inductive Fl {S : Type} (wf : S → Bool) (step : S → MemS → Bool × S × MemS) (Φ : MemS → Prop) : Nat → S → MemS → S → MemS → Prop
  | nil {s m} : Fl wf step Φ 0 s m s m
  | cons {n s m s1 m1 s2 m2} : wf s = true → step s m = (false, s1, m1) → Φ m1 → Fl wf step Φ n s1 m1 s2 m2 → Fl wf step Φ (n + 1) s m s2 m2
section
variable {S : Type} {wf : S → Bool} {step : S → MemS → Bool × S × MemS} {Φ : MemS → Prop}
theorem Fl.trans {n k : Nat} {s s1 s2 : S} {m m1 m2 : MemS} (h : Fl wf step Φ n s m s1 m1) (g : Fl wf step Φ k s1 m1 s2 m2) : Fl wf step Φ (n + k) s m s2 m2 := by
  induction h with
  | nil => rw [Nat.zero_add]; exact g
  | cons h1 h2 h3 _ ih => rw [Nat.add_right_comm]; exact .cons h1 h2 h3 (ih g)
theorem Fl.one {s s1 : S} {m m1 : MemS} (h1 : wf s = true) (h2 : step s m = (false, s1, m1)) (h3 : Φ m1) : Fl wf step Φ 1 s m s1 m1 := .cons h1 h2 h3 .nil
/-- Steps to the end. -/
structure Rn (wf : S → Bool) (step : S → MemS → Bool × S × MemS) (Φ : MemS → Prop) (n : Nat) (s : S) (m : MemS) (s' : S) (m' : MemS) : Prop where
  ex : ∃ k s1 m1, n = k + 1 ∧ Fl wf step Φ k s m s1 m1 ∧ wf s1 = true ∧ step s1 m1 = (true, s', m') ∧ Φ m'
theorem Rn.last {s s' : S} {m m' : MemS} (h1 : wf s = true) (h2 : step s m = (true, s', m')) (h3 : Φ m') : Rn wf step Φ 1 s m s' m' := ⟨0, s, m, rfl, .nil, h1, h2, h3⟩
theorem Fl.rn {n k : Nat} {s s1 s2 : S} {m m1 m2 : MemS} (h : Fl wf step Φ n s m s1 m1) (g : Rn wf step Φ k s1 m1 s2 m2) : Rn wf step Φ (n + k) s m s2 m2 := by
  obtain ⟨j, s3, m3, rfl, g1, g2⟩ := g.ex
  exact ⟨n + j, s3, m3, by omega, h.trans g1, g2⟩
theorem Rn.more {n : Nat} {s s1 s2 : S} {m m1 m2 : MemS} (h1 : wf s = true) (h2 : step s m = (false, s1, m1)) (h3 : Φ m1) (g : Rn wf step Φ n s1 m1 s2 m2) : Rn wf step Φ (n + 1) s m s2 m2 := by
  rw [Nat.add_comm]; exact (Fl.one h1 h2 h3).rn g
/-- Steps of somebody within somebody. -/
theorem Fl.map {T : Type} {wf' : T → Bool} {step' : T → MemS → Bool × T × MemS} {Φ' : MemS → Prop} (g : S → T) (hw : ∀ s, wf s = true → wf' (g s) = true)
    (hs : ∀ s m s1 m1, step s m = (false, s1, m1) → step' (g s) m = (false, g s1, m1)) (hΦ : ∀ m, Φ m → Φ' m) {n : Nat} {s s1 : S} {m m1 : MemS} (h : Fl wf step Φ n s m s1 m1) : Fl wf' step' Φ' n (g s) m (g s1) m1 := by
  induction h with
  | nil => exact .nil
  | cons h1 h2 h3 _ ih => exact .cons (hw _ h1) (hs _ _ _ _ h2) (hΦ _ h3) ih
end
end Go.FL

/- The arena, alone: what it must be; words are got of chunks. -/
namespace Go.FL
open Go Go.SL

/-! What it must be. -/
def slF (c : Cfg) (f : Int → Nat) (i : Int) : SlotS := slotOf (f (sA c i))
def ckF (c : Cfg) (f : Int → Nat) (j : Int) : ChunkS := chunkOf (f (cA c j))
def hdF (f : Int → Nat) (a : Int) : HeadS := headOf (f a)
def headI : List Int → Int
  | [] => -1
  | i :: _ => i
/-- Free slots, one behind the other. -/
def ChainF (c : Cfg) (f : Int → Nat) : List Int → Prop
  | [] => True
  | i :: F => (0 ≤ i ∧ i < c.slots) ∧ topSlot (f (sA c i + 1)) = headI F ∧ ChainF c f F
/-- A live object: it lies in a chunk that is open. -/
structure ObjAt (c : Cfg) (f : Int → Nat) (s : SlotS) (j off : Int) : Prop where
  j0 : 0 ≤ j
  j1 : j < c.chunks
  o0 : 0 ≤ off
  ad : s.addr = bA c j + off
  st : (ckF c f j).state = 1
  z0 : 1 ≤ (hdF f s.addr).size
  z1 : (hdF f s.addr).size ≤ 16
  us : off + 1 + (hdF f s.addr).size ≤ (ckF c f j).used
  ce : ∀ t, 0 ≤ t → t < (hdF f s.addr).size → f (s.addr + 1 + t) < 1099511627776
  ver : s.ver = 0
  live : s.state = 1
structure ChunkOk (c : Cfg) (f : Int → Nat) (j : Int) : Prop where
  st : ((ckF c f j).state = 0 ∧ (ckF c f j).used = 0) ∨ (ckF c f j).state = 1
  us : (ckF c f j).used ≤ c.words
  ze : ∀ off, (ckF c f j).used ≤ off → off < c.words → f (bA c j + off) = 0
structure Inv (c : Cfg) (f : Int → Nat) (F : List Int) : Prop where
  ep : f 0 < 9223372036854775808
  top : topSlot (f 1) = headI F
  chain : ChainF c f F
  nodup : F.Nodup
  fst : ∀ i ∈ F, (slF c f i).state = 0
  gen : ∀ i, 0 ≤ i → i < c.slots → 1 ≤ (slF c f i).gen ∧ (slF c f i).gen ≤ c.gens
  obj : ∀ i, 0 ≤ i → i < c.slots → (slF c f i).state = 0 ∨ (slF c f i).state = 3 ∨ ∃ j off, ObjAt c f (slF c f i) j off
  dis : ∀ i i', 0 ≤ i → i < c.slots → 0 ≤ i' → i' < c.slots → (slF c f i).state = 1 → (slF c f i').state = 1 → i ≠ i' →
    (slF c f i).addr + (hdF f (slF c f i).addr).size < (slF c f i').addr ∨ (slF c f i').addr + (hdF f (slF c f i').addr).size < (slF c f i).addr
  chk : ∀ j, 0 ≤ j → j < c.chunks → ChunkOk c f j
  opn : ∀ k, 0 ≤ k → k < 4 → f (2 + k) = 0 ∨ ∃ j, 0 ≤ j ∧ j < c.chunks ∧ f (2 + k) = (j + 1).toNat ∧ (ckF c f j).state = 1 ∧ (ckF c f j).cls = k
theorem ChainF.mem {c : Cfg} {f : Int → Nat} : ∀ {F : List Int}, ChainF c f F → ∀ i ∈ F, 0 ≤ i ∧ i < c.slots
  | _ :: _, h, i, hi => by
    rcases List.mem_cons.1 hi with rfl | hi
    · exact h.1
    · exact ChainF.mem h.2.2 i hi
theorem ChainF.congr {c : Cfg} {f g : Int → Nat} : ∀ {F : List Int}, ChainF c f F → (∀ i ∈ F, g (sA c i + 1) = f (sA c i + 1)) → ChainF c g F
  | [], _, _ => trivial
  | i :: F, h, e => ⟨h.1, by rw [e i (by simp)]; exact h.2.1, ChainF.congr h.2.2 fun k hk => e k (by simp [hk])⟩
theorem ObjAt.bd {c : Cfg} {f : Int → Nat} {s : SlotS} {j off : Int} (hc : CfgOk c) (o : ObjAt c f s j off) (h : (ckF c f j).used ≤ c.words) :
    6 + c.threads + 2 * c.slots + 3 * c.chunks ≤ s.addr ∧ s.addr + (hdF f s.addr).size < bA c c.chunks := by
  have h1 := bA_ge hc o.j0
  have h2 := bA_le hc o.j1
  have h3 := o.us
  have h4 := o.ad
  have h5 := o.o0
  omega

/-- What a doer leaves: the pin laid. -/
def Φq (q : Int) : MemS → Prop := fun m => (m.at q).1 ≠ 0
theorem Mv.phi {m : MemS} {L q : Int} {p : Nat} {f : Int → Nat} (M : Mv m L q p f) (hp : p ≠ 0) : Φq q m := by unfold Φq; rw [M.pin]; exact hp
/-- Who works, alone: where it pins. -/
structure Who (c : Cfg) (e : EnvS) (q : Int) : Prop where
  ec : e.c = c
  q0 : 6 ≤ q
  q1 : q < 6 + c.threads
  qe : pinA e.who = q
abbrev PFl (e : EnvS) (q : Int) := Fl (fun s : PlaceS => decide (0 ≤ s.cls)) (fun (s : PlaceS) m => s.step e m) (Φq q)
abbrev PRn (e : EnvS) (q : Int) := Rn (fun s : PlaceS => decide (0 ≤ s.cls)) (fun (s : PlaceS) m => s.step e m) (Φq q)
section
variable {c : Cfg} {f : Int → Nat} {F : List Int} {m : MemS} {q : Int} {p : Nat} {e : EnvS}
theorem openA_eq {k : Int} (h0 : 0 ≤ k) (h1 : k < 4) : openA k = 2 + k := w64_id (by omega) (by omega)
/-- The open chunk is looked at. -/
theorem place_look (hc : CfgOk c) (hw : Who c e q) (M : Mv m (bA c c.chunks) q p f) (hp : p ≠ 0) {k j : Int} (k0 : 0 ≤ k) (k1 : k < 4) (j0 : 0 ≤ j) (j1 : j < c.chunks) (ho : f (2 + k) = (j + 1).toNat)
    (st : (ckF c f j).state = 1) (cl : (ckF c f j).cls = k) {o1 : Nat} {a1 : Int} {w1 : Nat} {ad1 ch1 : Int} {ok1 : Bool} :
    ∃ m', PFl e q 2 ⟨k, 0, o1, a1, w1, ad1, ch1, ok1⟩ m (if (ckF c f j).used + roomA k ≤ c.words then ⟨k, 2, f (2 + k), j, f (cA c j), ad1, ch1, ok1⟩ else ⟨k, 3, f (2 + k), 0, f (cA c j), ad1, ch1, ok1⟩) m' ∧ Mv m' (bA c c.chunks) q p f := by
  have hL := bA_ge hc (j := c.chunks) (by have := hc.c0; omega)
  have hcc := hc.c1
  have hcc0 := hc.c0
  have hs0 := hc.s0
  have ht0 := hc.t0
  have hq0 := hw.q0
  have hq1 := hw.q1
  obtain ⟨m1, e1, M1, -⟩ := M.ld e (a := 2 + k) (by omega) (by omega) (by omega)
  obtain ⟨m2, e2, M2, -⟩ := M1.ld e (a := cA c j) (by simp only [cA]; omega) (by simp only [cA]; omega) (by simp only [cA]; omega)
  have hbd := chunkOf_bd (f (cA c j))
  have hr := room_cases k0 k1
  have hu : IntKind.i64.wrap ((ckF c f j).used + roomA k) = (ckF c f j).used + roomA k := w64_id (by simp only [ckF]; omega) (by simp only [ckF]; omega)
  have hj : IntKind.i64.wrap (IntKind.i64.wrap ((f (2 + k) : Nat) : Int) - 1) = j := by
    have e1 : (((j + 1).toNat : Nat) : Int) = j + 1 := by omega
    rw [ho, e1, w64_id (z := j + 1) (by omega) (by omega), w64_id (by omega) (by omega)]; omega
  refine ⟨m2, .cons (decide_eq_true k0) (s1 := ⟨k, 1, f (2 + k), j, w1, ad1, ch1, ok1⟩) (m1 := m1) ?_ (M1.phi hp) (.cons (decide_eq_true k0) ?_ (M2.phi hp) .nil), M2⟩
  · simp only [PlaceS.step, openA_eq k0 k1, e1, hj]
    rw [if_neg (by omega)]
  · simp only [PlaceS.step, hw.ec, chunkA_eq hc (show -1 ≤ j by omega) (by omega), e2]
    simp only [show ∀ j, chunkOf (f (cA c j)) = ckF c f j from fun _ => rfl, hu, st, cl]
    by_cases h : (ckF c f j).used + roomA k ≤ c.words
    · rw [if_pos h, if_neg (by omega)]
    · rw [if_neg h, if_pos (by omega)]
/-- Words of the open chunk are got. -/
theorem place_get (hc : CfgOk c) (hw : Who c e q) (M : Mv m (bA c c.chunks) q p f) (hp : p ≠ 0) {k j : Int} (k0 : 0 ≤ k) (k1 : k < 4) (j0 : 0 ≤ j) (j1 : j < c.chunks)
    (fit : (ckF c f j).used + roomA k ≤ c.words) {o1 : Nat} {ad1 ch1 : Int} {ok1 : Bool} :
    ∃ m', PRn e q 1 ⟨k, 2, o1, j, f (cA c j), ad1, ch1, ok1⟩ m ⟨k, 0, o1, j, f (cA c j), bA c j + (ckF c f j).used, j, true⟩ m' ∧
      Mv m' (bA c c.chunks) q p (upd f (cA c j) (putChunk { ckF c f j with used := (ckF c f j).used + roomA k })) := by
  have hL := bA_ge hc (j := c.chunks) (by have := hc.c0; omega)
  have hcc := hc.c1
  have hs0 := hc.s0
  have ht0 := hc.t0
  have hq0 := hw.q0
  have hq1 := hw.q1
  have hbd := chunkOf_bd (f (cA c j))
  have hr := room_cases k0 k1
  have hb0 := bA_ge hc j0
  have hb1 := bA_le hc j1
  have hb2 := bA_bd hc
  have hu : IntKind.i64.wrap ((ckF c f j).used + roomA k) = (ckF c f j).used + roomA k := w64_id (by simp only [ckF]; omega) (by simp only [ckF]; omega)
  have ha : IntKind.i64.wrap (bA c j + (ckF c f j).used) = bA c j + (ckF c f j).used := w64_id (by simp only [ckF] at fit ⊢; omega) (by simp only [ckF] at fit ⊢; omega)
  obtain ⟨m1, e1, M1, -⟩ := M.casT e (a := cA c j) (old := f (cA c j)) (putChunk { ckF c f j with used := (ckF c f j).used + roomA k }) (by simp only [cA]; omega) (by simp only [cA]; omega) (by simp only [cA]; omega) rfl
  refine ⟨m1, Rn.last (decide_eq_true k0) ?_ (M1.phi hp), M1⟩
  simp only [ckF] at hu ha e1
  simp only [PlaceS.step, PlaceS.get, hw.ec, chunkA_eq hc (show -1 ≤ j by omega) (by omega), baseA_eq hc j0 (by omega), ckF, hu, ha, e1, if_true]
/-- Chunks that are not free are passed by. -/
theorem place_scan (hc : CfgOk c) (hw : Who c e q) (hp : p ≠ 0) {k : Int} (k0 : 0 ≤ k) {o1 : Nat} {ad1 ch1 : Int} {ok1 : Bool} : ∀ (n : Nat) {m : MemS} (w1 : Nat) (a : Int), Mv m (bA c c.chunks) q p f → 0 ≤ a → a + n < c.chunks → (∀ j, a ≤ j → j < a + n → (ckF c f j).state ≠ 0) →
    ∃ m' w2, PFl e q n ⟨k, 3, o1, a, w1, ad1, ch1, ok1⟩ m ⟨k, 3, o1, a + n, w2, ad1, ch1, ok1⟩ m' ∧ Mv m' (bA c c.chunks) q p f
  | 0, m, w1, a, M, _, _, _ => ⟨m, w1, by rw [show a + ((0 : Nat) : Int) = a by omega]; exact .nil, M⟩
  | n + 1, m, w1, a, M, a0, a1, hs => by
    have hL := bA_ge hc (j := c.chunks) (by have := hc.c0; omega)
    have hcc := hc.c1
    have hs0 := hc.s0
    have ht0 := hc.t0
    have hq0 := hw.q0
    have hq1 := hw.q1
    obtain ⟨m1, e1, M1, -⟩ := M.ld e (a := cA c a) (by simp only [cA]; omega) (by simp only [cA]; omega) (by simp only [cA]; omega)
    obtain ⟨m', w2, h1, h2⟩ := place_scan hc hw hp k0 n (f (cA c a)) (a + 1) M1 (by omega) (by omega) (fun j g0 g1 => hs j (by omega) (by omega))
    refine ⟨m', w2, .cons (decide_eq_true k0) ?_ (M1.phi hp) (by rw [show a + ((n + 1 : Nat) : Int) = a + 1 + n by omega]; exact h1), h2⟩
    have hst := hs a (by omega) (by omega)
    have hw1 : IntKind.i64.wrap (a + 1) = a + 1 := w64_id (by omega) (by omega)
    simp only [ckF] at hst
    simp only [PlaceS.step, hw.ec, chunkA_eq hc (show -1 ≤ a by omega) (by omega), e1, PlaceS.on, hw1]
    rw [if_pos hst]
    simp only [Prod.mk.injEq, and_true, decide_eq_false_iff_not]
    omega
/-- There is none. -/
theorem place_none (hc : CfgOk c) (hw : Who c e q) (hp : p ≠ 0) (M : Mv m (bA c c.chunks) q p f) {k : Int} (k0 : 0 ≤ k) {o1 : Nat} {ad1 ch1 : Int} {ok1 : Bool} (w1 : Nat) (hs : ∀ j, 0 ≤ j → j < c.chunks → (ckF c f j).state ≠ 0) :
    ∃ m' n s', n ≤ 64 ∧ PRn e q n ⟨k, 3, o1, 0, w1, ad1, ch1, ok1⟩ m s' m' ∧ s'.ok = ok1 ∧ Mv m' (bA c c.chunks) q p f := by
  have hL := bA_ge hc (j := c.chunks) (by have := hc.c0; omega)
  have hcc := hc.c1
  have hc0 := hc.c0
  have hs0 := hc.s0
  have ht0 := hc.t0
  have hq0 := hw.q0
  have hq1 := hw.q1
  obtain ⟨n, hn⟩ : ∃ n : Nat, c.chunks = n + 1 := ⟨(c.chunks - 1).toNat, by omega⟩
  obtain ⟨m1, w2, h1, M1⟩ := place_scan hc hw hp (f := f) (k := k) k0 (o1 := o1) (ad1 := ad1) (ch1 := ch1) (ok1 := ok1) n w1 0 M (by omega) (by omega) (fun j g0 g1 => hs j g0 (by omega))
  obtain ⟨m2, e2, M2, -⟩ := M1.ld e (a := cA c n) (by simp only [cA]; omega) (by simp only [cA]; omega) (by simp only [cA]; omega)
  have hst := hs n (by omega) (by omega)
  have hw1 : IntKind.i64.wrap ((n : Int) + 1) = n + 1 := w64_id (by omega) (by omega)
  simp only [ckF] at hst
  refine ⟨m2, n + 1, ⟨k, 3, o1, n + 1, f (cA c n), ad1, ch1, ok1⟩, by omega, h1.rn (Rn.last (decide_eq_true k0) ?_ (M2.phi hp)), rfl, M2⟩
  simp only [Int.zero_add, PlaceS.step, hw.ec, chunkA_eq hc (show -1 ≤ (n : Int) by omega) (by omega), e2, PlaceS.on, hw1]
  rw [if_pos hst]
  simp only [Prod.mk.injEq, and_true, decide_eq_true_eq]
  omega
end
end Go.FL

/- The arena, alone: an object is made. -/
namespace Go.FL
open Go Go.SL

theorem least (P : Nat → Prop) : ∀ n : Nat, (∀ j, j < n → ¬ P j) ∨ ∃ j, j < n ∧ P j ∧ ∀ i, i < j → ¬ P i
  | 0 => .inl fun j hj => by omega
  | n + 1 => by
    rcases least P n with h | ⟨j, h1, h2, h3⟩
    · by_cases hn : P n
      · exact .inr ⟨n, by omega, hn, h⟩
      · refine .inl fun j hj => ?_
        by_cases e : j = n
        · rw [e]; exact hn
        · exact h j (by omega)
    · exact .inr ⟨j, by omega, h2, h3⟩
def NoFit (c : Cfg) (f : Int → Nat) (k : Int) : Prop := ∀ j, 0 ≤ j → f (2 + k) = (j + 1).toNat → c.words < (ckF c f j).used + roomA k
def Full (c : Cfg) (f : Int → Nat) (k : Int) : Prop := NoFit c f k ∧ ∀ j, 0 ≤ j → j < c.chunks → (ckF c f j).state ≠ 0
/-- Words of a class are got, of chunk j, behind u others. -/
structure Got (c : Cfg) (f g : Int → Nat) (k j u : Int) : Prop where
  j0 : 0 ≤ j
  j1 : j < c.chunks
  u0 : 0 ≤ u
  fit : u + roomA k ≤ c.words
  was : (f (2 + k) = (j + 1).toNat ∧ (ckF c f j).used = u ∧ (ckF c f j).state = 1 ∧ (ckF c f j).cls = k) ∨
    (NoFit c f k ∧ (ckF c f j).state = 0 ∧ (ckF c f j).used = u ∧ u = 0 ∧ ∀ i, 0 ≤ i → i < j → (ckF c f i).state ≠ 0)
  st : (ckF c g j).state = 1
  cl : (ckF c g j).cls = k
  us : (ckF c g j).used = u + roomA k
  opn : g (2 + k) = (j + 1).toNat
  rest : ∀ b, b ≠ cA c j → b ≠ 2 + k → g b = f b
section
variable {c : Cfg} {f : Int → Nat} {F : List Int} {m : MemS} {q : Int} {p : Nat} {e : EnvS}
theorem ckF_upd_ne {j i : Int} {w : Nat} (h : i ≠ j) : ckF c (upd f (cA c j) w) i = ckF c f i := by
  simp only [ckF]; rw [upd_ne (by simp only [cA]; omega)]
theorem ckF_upd (c : Cfg) (f : Int → Nat) (j : Int) (w : Nat) : ckF c (upd f (cA c j) w) j = chunkOf w := by simp only [ckF, upd_self]
theorem place_run (hc : CfgOk c) (hw : Who c e q) (I : Inv c f F) (M : Mv m (bA c c.chunks) q p f) (hp : p ≠ 0) {k : Int} (k0 : 0 ≤ k) (k1 : k < 4) :
    (∃ n s' m' g j u, n ≤ 140 ∧ PRn e q n { place0 with cls := k } m s' m' ∧ s'.ok = true ∧ s'.addr = bA c j + u ∧ s'.chunk = j ∧ Mv m' (bA c c.chunks) q p g ∧ Got c f g k j u) ∨
    (∃ n s' m', n ≤ 140 ∧ PRn e q n { place0 with cls := k } m s' m' ∧ s'.ok = false ∧ Mv m' (bA c c.chunks) q p f ∧ Full c f k) := by
  have hL := bA_ge hc (j := c.chunks) (by have := hc.c0; omega)
  have hcc := hc.c1
  have hcc0 := hc.c0
  have hs0 := hc.s0
  have ht0 := hc.t0
  have hq0 := hw.q0
  have hq1 := hw.q1
  have hr := room_cases k0 k1
  have hwd := hc.w0
  -- what comes of it when there is no room in the open chunk
  have scan : ∀ {m1 : MemS} {o1 : Nat} {w1 : Nat} (n0 : Nat), n0 ≤ 2 → PFl e q n0 { place0 with cls := k } m ⟨k, 3, o1, 0, w1, 0, 0, false⟩ m1 → Mv m1 (bA c c.chunks) q p f → o1 = f (2 + k) → NoFit c f k →
      (∃ n s' m' g j u, n ≤ 140 ∧ PRn e q n { place0 with cls := k } m s' m' ∧ s'.ok = true ∧ s'.addr = bA c j + u ∧ s'.chunk = j ∧ Mv m' (bA c c.chunks) q p g ∧ Got c f g k j u) ∨
      (∃ n s' m', n ≤ 140 ∧ PRn e q n { place0 with cls := k } m s' m' ∧ s'.ok = false ∧ Mv m' (bA c c.chunks) q p f ∧ Full c f k) := by
    intro m1 o1 w1 n0 hn0 H0 M1 ho hno
    rcases least (fun j => (ckF c f j).state = 0) c.chunks.toNat with hl | ⟨j, hj1, hj2, hj3⟩
    · right
      have hst : ∀ j, 0 ≤ j → j < c.chunks → (ckF c f j).state ≠ 0 := fun j g0 g1 => by
        have := hl j.toNat (by omega)
        rwa [show ((j.toNat : Nat) : Int) = j by omega] at this
      obtain ⟨m2, n, s', hn, h2, h3, M2⟩ := place_none hc hw hp M1 k0 (o1 := o1) (ad1 := 0) (ch1 := 0) (ok1 := false) w1 hst
      exact ⟨n0 + n, s', m2, by omega, H0.rn h2, h3, M2, hno, hst⟩
    · left
      obtain ⟨m2, w2, H1, M2⟩ := place_scan hc hw hp k0 (o1 := o1) (ad1 := 0) (ch1 := 0) (ok1 := false) j w1 0 M1 (by omega) (by omega) (fun i g0 g1 => by
        have := hj3 i.toNat (by omega)
        rwa [show ((i.toNat : Nat) : Int) = i by omega] at this)
      rw [Int.zero_add] at H1
      obtain ⟨m3, e3, M3, -⟩ := M2.ld e (a := cA c j) (by simp only [cA]; omega) (by simp only [cA]; omega) (by simp only [cA]; omega)
      have hq : (chunkOf (f (cA c j))).used = 0 := by
        rcases (I.chk j (by omega) (by omega)).st with h | h
        · exact h.2
        · rw [hj2] at h; cases h
      -- the chunk is taken, and opened
      generalize hfr : PlaceS.fresh ⟨k, 4, o1, (j : Int), f (cA c j), 0, 0, false⟩ = fr
      have hfr1 : (chunkOf fr).state = 1 ∧ (chunkOf fr).cls = k ∧ (chunkOf fr).used = 0 := by
        rw [← hfr]; simp only [PlaceS.fresh]
        rw [chunkOf_put ⟨by simp only; omega, by simp only; omega⟩ ⟨by simp only; omega, by simp only; omega⟩ ⟨by simp only; omega, by simp only; omega⟩]
        exact ⟨rfl, rfl, rfl⟩
      obtain ⟨m4, e4, M4, -⟩ := M3.casT e (a := cA c j) (old := f (cA c j)) fr (by simp only [cA]; omega) (by simp only [cA]; omega) (by simp only [cA]; omega) rfl
      obtain ⟨m5, e5, M5, -⟩ := M4.casT e (a := 2 + k) (old := o1) (IntKind.u64.wrap (w64 ((j : Int) + 1))).toNat (by omega) (by omega) (by omega) (by rw [upd_ne (by simp only [cA]; omega), ho])
      have hjn : (IntKind.u64.wrap (w64 ((j : Int) + 1))).toNat = ((j : Int) + 1).toNat := by
        show (IntKind.u64.wrap (IntKind.i64.wrap _)).toNat = _
        rw [w64_id (by omega) (by omega), u64w]; omega
      rw [hjn] at e5 M5
      have hf5 : ∀ b, b ≠ cA c j → b ≠ 2 + k → upd (upd f (cA c j) fr) (2 + k) ((j : Int) + 1).toNat b = f b := fun b h1 h2 => by rw [upd_ne h2, upd_ne h1]
      generalize hg5 : upd (upd f (cA c j) fr) (2 + k) ((j : Int) + 1).toNat = f5 at *
      have ho5 : f5 (2 + k) = ((j : Int) + 1).toNat := by rw [← hg5, upd_self]
      have hc5 : ckF c f5 j = chunkOf fr := by rw [← hg5]; simp only [ckF]; rw [upd_ne (by simp only [cA]; omega), upd_self]
      obtain ⟨m6, H6, M6⟩ := place_look hc hw M5 hp k0 k1 (show (0 : Int) ≤ j by omega) (show (j : Int) < c.chunks by omega) ho5 (by rw [hc5]; exact hfr1.1) (by rw [hc5]; exact hfr1.2.1) (o1 := o1) (a1 := j) (w1 := f (cA c j)) (ad1 := 0) (ch1 := 0) (ok1 := false)
      have hu5 : (ckF c f5 j).used = 0 := by rw [hc5]; exact hfr1.2.2
      rw [if_pos (by rw [hu5]; omega)] at H6
      obtain ⟨m7, H7, M7⟩ := place_get hc hw M6 hp k0 k1 (show (0 : Int) ≤ j by omega) (show (j : Int) < c.chunks by omega) (by rw [hu5]; omega) (o1 := f5 (2 + k)) (ad1 := 0) (ch1 := 0) (ok1 := false)
      have hst5 := hfr1
      rw [← hc5] at hst5
      have hput : chunkOf (putChunk { ckF c f5 j with used := (ckF c f5 j).used + roomA k }) = ⟨1, k, 0 + roomA k, fitN (ckF c f5 j).stamp 68719476735⟩ := by
        rw [chunkOf_put ⟨by simp only; omega, by simp only; omega⟩ ⟨by simp only; omega, by simp only; omega⟩ ⟨by simp only; omega, by simp only; omega⟩]
        simp only [hst5.1, hst5.2.1, hst5.2.2]
      have G3 : PFl e q 1 ⟨k, 3, o1, j, w2, 0, 0, false⟩ m2 ⟨k, 4, o1, j, f (cA c j), 0, 0, false⟩ m3 := Fl.one (decide_eq_true k0) (by
        simp only [PlaceS.step, hw.ec, chunkA_eq hc (show -1 ≤ (j : Int) by omega) (by omega), e3]
        rw [if_neg (by simp only [ckF] at hj2; omega)]) (M3.phi hp)
      have G4 : PFl e q 1 ⟨k, 4, o1, j, f (cA c j), 0, 0, false⟩ m3 ⟨k, 5, o1, j, f (cA c j), 0, 0, false⟩ m4 := Fl.one (decide_eq_true k0) (by
        simp only [PlaceS.step, hw.ec, chunkA_eq hc (show -1 ≤ (j : Int) by omega) (by omega), hfr, e4, if_true]) (M4.phi hp)
      have G5 : PFl e q 1 ⟨k, 5, o1, j, f (cA c j), 0, 0, false⟩ m4 ⟨k, 0, o1, j, f (cA c j), 0, 0, false⟩ m5 := Fl.one (decide_eq_true k0) (by
        simp only [PlaceS.step, openA_eq k0 k1]
        rw [hjn, e5]; rfl) (M5.phi hp)
      refine ⟨n0 + (j + (1 + (1 + (1 + (2 + 1))))), _, m7, _, j, 0, by omega, H0.rn (H1.rn (G3.rn (G4.rn (G5.rn (H6.rn H7))))), rfl, by rw [hu5], rfl, M7, ?_⟩
      · refine ⟨by omega, by omega, by omega, by omega, .inr ⟨hno, hj2, hq, rfl, fun i g0 g1 => ?_⟩, ?_, ?_, ?_, ?_, fun b h1 h2 => ?_⟩
        · have := hj3 i.toNat (by omega)
          rwa [show ((i.toNat : Nat) : Int) = i by omega] at this
        · rw [ckF_upd, hput]
        · rw [ckF_upd, hput]
        · rw [ckF_upd, hput]
        · rw [upd_ne (by simp only [cA]; omega), ho5]
        · rw [upd_ne h1, hf5 b h1 h2]
  rcases I.opn k k0 k1 with ho | ⟨j, j0, j1, ho, st, cl⟩
  · obtain ⟨m1, e1, M1, -⟩ := M.ld e (a := 2 + k) (by omega) (by omega) (by omega)
    refine scan (m1 := m1) (o1 := f (2 + k)) (w1 := 0) 1 (by omega) (Fl.one (decide_eq_true k0) ?_ (M1.phi hp)) M1 rfl (fun j g0 g1 => by rw [ho] at g1; omega)
    have hj : IntKind.i64.wrap (IntKind.i64.wrap ((0 : Nat) : Int) - 1) = -1 := by decide
    simp only [PlaceS.step, place0, openA_eq k0 k1, e1, ho, hj]
    rw [if_pos (by omega)]
  · obtain ⟨m1, H1, M1⟩ := place_look hc hw M hp k0 k1 j0 j1 ho st cl (o1 := 0) (a1 := 0) (w1 := 0) (ad1 := 0) (ch1 := 0) (ok1 := false)
    by_cases hf : (ckF c f j).used + roomA k ≤ c.words
    · left
      rw [if_pos hf] at H1
      obtain ⟨m2, H2, M2⟩ := place_get hc hw M1 hp k0 k1 j0 j1 hf (o1 := f (2 + k)) (ad1 := 0) (ch1 := 0) (ok1 := false)
      have hbd := chunkOf_bd (f (cA c j))
      have hw2 := hc.w1
      have hput : chunkOf (putChunk { ckF c f j with used := (ckF c f j).used + roomA k }) = ⟨1, k, (ckF c f j).used + roomA k, fitN (ckF c f j).stamp 68719476735⟩ := by
        have h0 : 0 ≤ (ckF c f j).used := by simp only [ckF]; omega
        rw [chunkOf_put ⟨by simp only [st]; omega, by simp only [st]; omega⟩ ⟨by simp only [cl]; omega, by simp only [cl]; omega⟩ ⟨by simp only; omega, by simp only; omega⟩]
        simp only [st, cl]
      refine ⟨2 + 1, _, m2, _, j, (ckF c f j).used, by omega, H1.rn H2, rfl, rfl, rfl, M2, ⟨j0, j1, by simp only [ckF]; omega, hf, .inl ⟨ho, rfl, st, cl⟩, ?_, ?_, ?_, ?_, fun b h1 h2 => upd_ne h1⟩⟩
      · rw [ckF_upd, hput]
      · rw [ckF_upd, hput]
      · rw [ckF_upd, hput]
      · rw [upd_ne (by simp only [cA]; omega), ho]
    · rw [if_neg hf] at H1
      refine scan 2 (by omega) H1 M1 rfl fun j' g0 g1 => ?_
      have : j' = j := by omega
      subst this
      omega
end
end Go.FL

/- The arena, alone: an object is made; what the arena is then. -/
namespace Go.FL
open Go Go.SL

abbrev DFl (e : EnvS) (q : Int) := Fl (DoerS.wfb e.c) (fun (d : DoerS) m => d.step e m) (Φq q)
abbrev DRn (e : EnvS) (q : Int) := Rn (DoerS.wfb e.c) (fun (d : DoerS) m => d.step e m) (Φq q)
section
variable {c : Cfg} {f g : Int → Nat} {F : List Int} {m : MemS} {q : Int} {p : Nat} {e : EnvS}
theorem ObjAt.frame {s : SlotS} {j off : Int} (o : ObjAt c f s j off) (h1 : (ckF c g j).state = 1) (h2 : (ckF c f j).used ≤ (ckF c g j).used) (hb : ∀ b, s.addr ≤ b → b ≤ s.addr + (hdF f s.addr).size → g b = f b) : ObjAt c g s j off := by
  have hz := o.z0
  have hh : hdF g s.addr = hdF f s.addr := by simp only [hdF]; rw [hb _ (by omega) (by omega)]
  refine ⟨o.j0, o.j1, o.o0, o.ad, h1, by rw [hh]; exact o.z0, by rw [hh]; exact o.z1, by rw [hh]; have := o.us; omega, fun t t0 t1 => ?_, o.ver, o.live⟩
  rw [hh] at t1
  rw [hb _ (by omega) (by omega)]
  exact o.ce t t0 t1
/-- An object was made: of slot i, at a, in chunk j. -/
structure Made (c : Cfg) (f g : Int → Nat) (F : List Int) (size : Int) (own : Bool) (i j u : Int) : Prop where
  inv : Inv c g F
  sl : slF c g i = ⟨1, bA c j + u, (slF c f i).gen, 0⟩
  hd : hdF g (bA c j + u) = ⟨2, size, i, (slF c f i).gen, own⟩
  ze : ∀ t, 0 ≤ t → t < size → g (bA c j + u + 1 + t) = 0
  fst : (slF c f i).state = 0
  i0 : 0 ≤ i
  i1 : i < c.slots
  j0 : 0 ≤ j
  j1 : j < c.chunks
  u0 : 0 ≤ u
  z0 : 1 ≤ size
  z1 : size ≤ 16
  fit : u + roomA (classA size) ≤ c.words
  was : (f (2 + classA size) = (j + 1).toNat ∧ (ckF c f j).used = u ∧ (ckF c f j).state = 1 ∧ (ckF c f j).cls = classA size) ∨
    (NoFit c f (classA size) ∧ (ckF c f j).state = 0 ∧ (ckF c f j).used = u ∧ u = 0 ∧ ∀ i, 0 ≤ i → i < j → (ckF c f i).state ≠ 0)
  st : (ckF c g j).state = 1
  cl : (ckF c g j).cls = classA size
  us : (ckF c g j).used = u + roomA (classA size)
  opn : g (2 + classA size) = (j + 1).toNat
  rest : ∀ b, b ≠ 1 → b ≠ cA c j → b ≠ cA c j + 1 → b ≠ 2 + classA size → b ≠ bA c j + u → b ≠ sA c i → g b = f b
/-- Objects that lived lie apart from what was made. -/
theorem ObjAt.apart {j' off : Int} {s : SlotS} (hc : CfgOk c) (I : Inv c f F) (o : ObjAt c f s j' off) {j u : Int} (j0 : 0 ≤ j) (j1 : j < c.chunks) (us : (ckF c f j).used = u) :
    s.addr + (hdF f s.addr).size < bA c j + u ∨ bA c j + c.words ≤ s.addr := by
  have h1 := o.us
  have h2 := o.ad
  have h3 := o.o0
  have h4 := (I.chk j' o.j0 o.j1).us
  by_cases h : j' = j
  · subst h; left; omega
  · rcases Int.lt_or_lt_of_ne h with h | h
    · have := bA_mono hc h; left
      have hu := chunkOf_bd (f (cA c j))
      simp only [ckF] at us
      omega
    · have := bA_mono hc h; right; omega
theorem made_inv (hc : CfgOk c) {i n : Int} (I : Inv c f (i :: F)) {size : Int} (z0 : 1 ≤ size) (z1 : size ≤ 16) {own : Bool} {j u : Int} {f' : Int → Nat}
    (hf' : Got c (upd f 1 (putTop (headI F) n)) f' (classA size) j u)
    (hg : ∀ b, b ≠ cA c j + 1 → b ≠ bA c j + u → b ≠ sA c i → g b = f' b) (hsl : g (sA c i) = putSlot ⟨1, bA c j + u, (slF c f i).gen, 0⟩) (hhd : g (bA c j + u) = putHead ⟨2, size, i, (slF c f i).gen, own⟩) :
    Made c f g F size own i j u := by
  obtain ⟨k0, k1, kr⟩ := class_cases z0 z1
  generalize hk : classA size = k at *
  have hL := bA_ge hc (j := c.chunks) (by have := hc.c0; omega)
  have hbd := bA_bd hc
  have hcc := hc.c1
  have hcc0 := hc.c0
  have hs0 := hc.s0
  have hs1 := hc.s1
  have ht0 := hc.t0
  have hgg := hc.g1
  have hw1 := hc.w1
  have hr := room_cases k0 k1
  obtain ⟨⟨i0, i1⟩, htop, hch⟩ := I.chain
  have hj0 := bA_ge hc hf'.j0
  have hj1 := bA_le hc hf'.j1
  have hcj0 := hf'.j0
  have hcj1 := hf'.j1
  have hu0 := hf'.u0
  have hfit := hf'.fit
  have gen := I.gen i i0 i1
  have rest : ∀ b, b ≠ 1 → b ≠ cA c j → b ≠ cA c j + 1 → b ≠ 2 + k → b ≠ bA c j + u → b ≠ sA c i → g b = f b := fun b h1 h2 h3 h4 h5 h6 => by
    rw [hg b h3 h5 h6, hf'.rest b h2 h4, upd_ne h1]
  have h1 : g 1 = putTop (headI F) n := by
    rw [hg 1 (by simp only [cA]; omega) (by omega) (by simp only [sA]; omega), hf'.rest 1 (by simp only [cA]; omega) (by omega), upd_self]
  have hsl' : slF c g i = ⟨1, bA c j + u, (slF c f i).gen, 0⟩ := by
    simp only [slF] at gen ⊢
    rw [hsl]
    exact slotOf_put ⟨by simp only; omega, by simp only; omega⟩ ⟨by simp only; omega, by simp only; omega⟩ ⟨by simp only [slF]; omega, by simp only [slF]; omega⟩ ⟨by simp only; omega, by simp only; omega⟩
  have hhd' : hdF g (bA c j + u) = ⟨2, size, i, (slF c f i).gen, own⟩ := by
    simp only [hdF]
    rw [hhd]
    exact headOf_put ⟨by simp only; omega, by simp only; omega⟩ ⟨by simp only; omega, by simp only; omega⟩ ⟨by simp only; omega, by simp only; omega⟩ ⟨by simp only; omega, by simp only; omega⟩
  have hsn : ∀ i', 0 ≤ i' → i' < c.slots → i' ≠ i → slF c g i' = slF c f i' := fun i' g0 g1 hne => by
    simp only [slF]
    rw [rest _ (by simp only [sA]; omega) (by simp only [sA, cA]; omega) (by simp only [sA, cA]; omega) (by simp only [sA]; omega) (by simp only [sA]; omega) (by simp only [sA]; omega)]
  have hcn : ∀ j', 0 ≤ j' → j' < c.chunks → j' ≠ j → ckF c g j' = ckF c f j' := fun j' g0 g1 hne => by
    simp only [ckF]
    rw [rest _ (by simp only [cA]; omega) (by simp only [cA]; omega) (by simp only [cA]; omega) (by simp only [cA]; omega) (by simp only [cA]; omega) (by simp only [sA, cA]; omega)]
  have hcg : ckF c g j = ckF c f' j := by
    simp only [ckF]; rw [hg _ (by omega) (by simp only [cA]; omega) (by simp only [cA, sA]; omega)]
  have hcf : ∀ j', 0 ≤ j' → ckF c (upd f 1 (putTop (headI F) n)) j' = ckF c f j' := fun j' g0 => by
    simp only [ckF]; rw [upd_ne (by simp only [cA]; omega)]
  have hwas : (f (2 + k) = (j + 1).toNat ∧ (ckF c f j).used = u ∧ (ckF c f j).state = 1 ∧ (ckF c f j).cls = k) ∨
      (NoFit c f k ∧ (ckF c f j).state = 0 ∧ (ckF c f j).used = u ∧ u = 0 ∧ ∀ i, 0 ≤ i → i < j → (ckF c f i).state ≠ 0) := by
    have h := hf'.was
    rw [hcf j hcj0, upd_ne (by omega)] at h
    rcases h with h | ⟨a1, a2, a3, a4, a5⟩
    · exact .inl h
    · refine .inr ⟨fun j' g0 g1 => ?_, a2, a3, a4, fun i' g0 g1 => ?_⟩
      · have := a1 j' g0 (by rw [upd_ne (by omega)]; exact g1)
        rwa [hcf j' g0] at this
      · have := a5 i' g0 g1
        rwa [hcf i' g0] at this
  have hused : (ckF c f j).used = u := by rcases hwas with h | h; exact h.2.1; exact h.2.2.1
  have hofr : ∀ i' j' off, 0 ≤ i' → i' < c.slots → i' ≠ i → ObjAt c f (slF c f i') j' off → ∀ b, (slF c f i').addr ≤ b → b ≤ (slF c f i').addr + (hdF f (slF c f i').addr).size → g b = f b := fun i' j' off g0 g1 hne o b b0 b1 => by
    have ap := ObjAt.apart hc I o hcj0 hcj1 hused
    have hb := o.bd hc (I.chk j' o.j0 o.j1).us
    exact rest b (by omega) (by simp only [cA]; omega) (by simp only [cA]; omega) (by omega) (by omega) (by simp only [sA]; omega)
  have hze : ∀ off, u ≤ off → off < c.words → f (bA c j + off) = 0 := fun off g0 g1 => (I.chk j hcj0 hcj1).ze off (by omega) g1
  have inv : Inv c g F := by
    refine ⟨?_, ?_, ?_, (List.nodup_cons.1 I.nodup).2, ?_, ?_, ?_, ?_, ?_, ?_⟩
    · rw [rest 0 (by omega) (by simp only [cA]; omega) (by simp only [cA]; omega) (by omega) (by omega) (by simp only [sA]; omega)]; exact I.ep
    · rw [h1]
      have hh : -1 ≤ headI F ∧ headI F ≤ 65535 := by
        cases F with
        | nil => simp [headI]
        | cons a F => have := hch.1; simp only [headI]; omega
      exact topSlot_put hh.1 hh.2
    · refine hch.congr fun i' hi' => ?_
      have hm := hch.mem i' hi'
      exact rest _ (by simp only [sA]; omega) (by simp only [sA, cA]; omega) (by simp only [sA, cA]; omega) (by simp only [sA]; omega) (by simp only [sA]; omega) (by simp only [sA]; omega)
    · intro i' hi'
      have hm := hch.mem i' hi'
      have hne : i' ≠ i := by rintro rfl; exact (List.nodup_cons.1 I.nodup).1 hi'
      rw [hsn i' hm.1 hm.2 hne]
      exact I.fst i' (by simp [hi'])
    · intro i' g0 g1
      by_cases hne : i' = i
      · subst hne; rw [hsl']; exact gen
      · rw [hsn i' g0 g1 hne]; exact I.gen i' g0 g1
    · intro i' g0 g1
      by_cases hne : i' = i
      · subst hne
        right; right
        refine ⟨j, u, hcj0, hcj1, hu0, by rw [hsl'], by rw [hcg]; exact hf'.st, ?_, ?_, ?_, ?_, by rw [hsl'], by rw [hsl']⟩
        · rw [hsl']; simp only; rw [hhd']; exact z0
        · rw [hsl']; simp only; rw [hhd']; exact z1
        · rw [hsl']; simp only; rw [hhd', hcg, hf'.us]; simp only; omega
        · intro t t0 t1
          rw [hsl'] at t1 ⊢
          simp only at t1 ⊢
          rw [hhd'] at t1
          simp only at t1
          rw [rest _ (by omega) (by simp only [cA]; omega) (by simp only [cA]; omega) (by omega) (by omega) (by simp only [sA]; omega)]
          rw [show bA c j + u + 1 + t = bA c j + (u + 1 + t) by omega, hze _ (by omega) (by omega)]
          omega
      · rw [hsn i' g0 g1 hne]
        rcases I.obj i' g0 g1 with h | h | ⟨j', off, o⟩
        · exact .inl h
        · exact .inr (.inl h)
        · refine .inr (.inr ⟨j', off, o.frame ?_ ?_ (hofr i' j' off g0 g1 hne o)⟩)
          · by_cases hj : j' = j
            · subst hj; rw [hcg]; exact hf'.st
            · rw [hcn j' o.j0 o.j1 hj]; exact o.st
          · by_cases hj : j' = j
            · subst hj; rw [hcg, hf'.us, hused]; omega
            · rw [hcn j' o.j0 o.j1 hj]; exact Int.le_refl _
    · have key : ∀ i', 0 ≤ i' → i' < c.slots → i' ≠ i → (slF c f i').state = 1 → ((slF c f i').addr + (hdF f (slF c f i').addr).size < bA c j + u ∨ bA c j + u + size < (slF c f i').addr) ∧ hdF g (slF c f i').addr = hdF f (slF c f i').addr := by
        intro i' g0 g1 hne hst
        rcases I.obj i' g0 g1 with h | h | ⟨j', off, o⟩
        · omega
        · omega
        · have ap := ObjAt.apart hc I o hcj0 hcj1 hused
          refine ⟨by omega, ?_⟩
          have hz := o.z0
          simp only [hdF]
          rw [hofr i' j' off g0 g1 hne o _ (by omega) (by omega)]
      intro x1 x2 a0 a1 b0 b1 s1 s2 hne
      by_cases h1 : x1 = i
      · subst h1
        have h2 : x2 ≠ x1 := Ne.symm hne
        rw [hsn x2 b0 b1 h2] at s2 ⊢
        obtain ⟨q1, q2⟩ := key x2 b0 b1 h2 s2
        rw [hsl']; simp only
        rw [hhd', q2]; simp only; omega
      · rw [hsn x1 a0 a1 h1] at s1 ⊢
        obtain ⟨q1, q2⟩ := key x1 a0 a1 h1 s1
        by_cases h2 : x2 = i
        · subst h2
          rw [hsl']; simp only
          rw [hhd', q2]; simp only; omega
        · rw [hsn x2 b0 b1 h2] at s2 ⊢
          obtain ⟨q3, q4⟩ := key x2 b0 b1 h2 s2
          rw [q2, q4]
          exact I.dis x1 x2 a0 a1 b0 b1 s1 s2 hne
    · intro j' g0 g1
      by_cases hj : j' = j
      · subst hj
        refine ⟨.inr (by rw [hcg]; exact hf'.st), by rw [hcg, hf'.us]; exact hfit, fun off o0 o1 => ?_⟩
        rw [hcg, hf'.us] at o0
        rw [rest _ (by omega) (by simp only [cA]; omega) (by simp only [cA]; omega) (by omega) (by omega) (by simp only [sA]; omega)]
        exact hze off (by omega) o1
      · have C := I.chk j' g0 g1
        refine ⟨by rw [hcn j' g0 g1 hj]; exact C.st, by rw [hcn j' g0 g1 hj]; exact C.us, fun off o0 o1 => ?_⟩
        rw [hcn j' g0 g1 hj] at o0
        have hb := chunkOf_bd (f (cA c j'))
        have h0 : 0 ≤ off := by simp only [ckF] at o0; omega
        have hge := bA_ge hc g0
        have hap : bA c j' + off ≠ bA c j + u := by
          rcases Int.lt_or_lt_of_ne hj with h | h
          · have := bA_mono hc h; omega
          · have := bA_mono hc h; omega
        rw [rest _ (by omega) (by simp only [cA]; omega) (by simp only [cA]; omega) (by omega) hap (by simp only [sA]; omega)]
        exact C.ze off o0 o1
    · intro k' g0 g1
      by_cases hk' : k' = k
      · subst hk'
        right
        refine ⟨j, hcj0, hcj1, ?_, by rw [hcg]; exact hf'.st, by rw [hcg]; exact hf'.cl⟩
        rw [hg _ (by simp only [cA]; omega) (by omega) (by simp only [sA]; omega)]
        exact hf'.opn
      · rw [rest (2 + k') (by omega) (by simp only [cA]; omega) (by simp only [cA]; omega) (by omega) (by omega) (by simp only [sA]; omega)]
        rcases I.opn k' g0 g1 with h | ⟨j', a0, a1, a2, a3, a4⟩
        · exact .inl h
        · have hj : j' ≠ j := by
            rintro rfl
            rcases hwas with h | h
            · exact hk' (a4.symm.trans h.2.2.2)
            · rw [h.2.1] at a3; cases a3
          exact .inr ⟨j', a0, a1, a2, by rw [hcn j' a0 a1 hj]; exact a3, by rw [hcn j' a0 a1 hj]; exact a4⟩
  refine ⟨inv, hsl', hhd', fun t t0 t1 => ?_, I.fst i (by simp), i0, i1, hcj0, hcj1, hu0, z0, z1, by rw [hk]; exact hfit, by rw [hk]; exact hwas, by rw [hcg]; exact hf'.st, by rw [hcg, hk]; exact hf'.cl, by rw [hcg, hk]; exact hf'.us, ?_, by rw [hk]; exact rest⟩
  · rw [rest _ (by omega) (by simp only [cA]; omega) (by simp only [cA]; omega) (by omega) (by omega) (by simp only [sA]; omega)]
    rw [show bA c j + u + 1 + t = bA c j + (u + 1 + t) by omega]
    exact hze _ (by omega) (by omega)
  · rw [hk, hg _ (by simp only [cA]; omega) (by omega) (by simp only [sA]; omega)]
    exact hf'.opn
end
end Go.FL

/- The arena, alone: the steps of an object's making. -/
namespace Go.FL
set_option linter.unusedVariables false
set_option linter.unusedSimpArgs false
open Go Go.SL

section
variable {c : Cfg} {f g : Int → Nat} {F : List Int} {m : MemS} {q : Int} {p : Nat} {e : EnvS}
theorem Inv.congr (I : Inv c f F) (hc : CfgOk c) (h : ∀ b, 0 ≤ b → b < bA c c.chunks → g b = f b) : Inv c g F := by
  have hL := bA_ge hc (j := c.chunks) (by have := hc.c0; omega)
  have hs0 := hc.s0
  have ht0 := hc.t0
  have hc0 := hc.c0
  have sl : ∀ i, 0 ≤ i → i < c.slots → slF c g i = slF c f i := fun i a b => by simp only [slF]; rw [h _ (by simp only [sA]; omega) (by simp only [sA]; omega)]
  have ck : ∀ j, 0 ≤ j → j < c.chunks → ckF c g j = ckF c f j := fun j a b => by simp only [ckF]; rw [h _ (by simp only [cA]; omega) (by simp only [cA]; omega)]
  have hob : ∀ i, 0 ≤ i → i < c.slots → (slF c f i).state = 1 → hdF g (slF c f i).addr = hdF f (slF c f i).addr := fun i a b s => by
    rcases I.obj i a b with x | x | ⟨j, off, o⟩
    · omega
    · omega
    · have := o.bd hc (I.chk j o.j0 o.j1).us
      have := o.z0
      simp only [hdF]; rw [h _ (by omega) (by omega)]
  refine ⟨by rw [h 0 (by omega) (by omega)]; exact I.ep, by rw [h 1 (by omega) (by omega)]; exact I.top, I.chain.congr fun i hi => ?_, I.nodup, fun i hi => ?_, fun i a b => by rw [sl i a b]; exact I.gen i a b, fun i a b => ?_, fun i i' a b a' b' s s' hne => ?_, fun j a b => ?_, fun k a b => ?_⟩
  · have := I.chain.mem i hi
    exact h _ (by simp only [sA]; omega) (by simp only [sA]; omega)
  · have := I.chain.mem i hi
    rw [sl i this.1 this.2]; exact I.fst i hi
  · rw [sl i a b]
    rcases I.obj i a b with x | x | ⟨j, off, o⟩
    · exact .inl x
    · exact .inr (.inl x)
    · have hb := o.bd hc (I.chk j o.j0 o.j1).us
      exact .inr (.inr ⟨j, off, o.frame (by rw [ck j o.j0 o.j1]; exact o.st) (by rw [ck j o.j0 o.j1]; exact Int.le_refl _) fun b b0 b1 => h b (by omega) (by omega)⟩)
  · rw [sl i a b] at s ⊢
    rw [sl i' a' b'] at s' ⊢
    rw [hob i a b s, hob i' a' b' s']
    exact I.dis i i' a b a' b' s s' hne
  · have C := I.chk j a b
    refine ⟨by rw [ck j a b]; exact C.st, by rw [ck j a b]; exact C.us, fun off o0 o1 => ?_⟩
    rw [ck j a b] at o0
    have hb := chunkOf_bd (f (cA c j))
    have h0 : 0 ≤ off := by simp only [ckF] at o0; omega
    have h1 := bA_ge hc a
    have h2 := bA_le hc b
    rw [h _ (by omega) (by omega)]
    exact C.ze off o0 o1
  · rw [h _ (by omega) (by omega)]
    rcases I.opn k a b with x | ⟨j, y1, y2, y3, y4, y5⟩
    · exact .inl x
    · exact .inr ⟨j, y1, y2, y3, by rw [ck j y1 y2]; exact y4, by rw [ck j y1 y2]; exact y5⟩
theorem headI_bd (hc : CfgOk c) {f : Int → Nat} {F : List Int} (h : ChainF c f F) : -1 ≤ headI F ∧ headI F ≤ 65535 := by
  have := hc.s1
  cases F with
  | nil => simp [headI]
  | cons a F => have := h.1; simp only [headI]; omega
/-- A slot is given back. -/
theorem give_run (hc : CfgOk c) (hw : Who c e q) (M : Mv m (bA c c.chunks) q p f) (hp : p ≠ 0) {i : Int} (i0 : 0 ≤ i) (i1 : i < c.slots) :
    ∃ m' s' n, Rn (fun _ => true) (fun (s : GiveS) m => s.step e m) (Φq q) 3 { give0 with slot := i } m s' m' ∧ Mv m' (bA c c.chunks) q p (upd (upd f (sA c i + 1) (putTop (topSlot (f 1)) 0)) 1 (putTop i n)) := by
  have hL := bA_ge hc (j := c.chunks) (by have := hc.c0; omega)
  have hs0 := hc.s0
  have hs1 := hc.s1
  have ht0 := hc.t0
  have ht1 := hc.t1
  have hc0 := hc.c0
  have hq0 := hw.q0
  have hq1 := hw.q1
  obtain ⟨m1, e1, M1, -⟩ := M.ld e (a := 1) (by omega) (by omega) (by omega)
  have M2 := (M1.st e (a := sA c i + 1) (putTop (topSlot (f 1)) 0) (by simp only [sA]; omega) (by simp only [sA]; omega) (by simp only [sA]; omega)).1
  obtain ⟨m3, e3, M3, -⟩ := M2.casT e (a := 1) (old := f 1) (putTop i (IntKind.i64.wrap (topCount (f 1) + 1))) (by omega) (by omega) (by omega) (by rw [upd_ne (by simp only [sA]; omega)])
  have hw1 : IntKind.i64.wrap (sA c i + 1) = sA c i + 1 := w64_id (by simp only [sA]; omega) (by simp only [sA]; omega)
  refine ⟨m3, ⟨0, i, f 1⟩, _, Rn.more rfl (s1 := ⟨1, i, f 1⟩) (m1 := m1) ?_ (M1.phi hp) (Rn.more rfl (s1 := ⟨2, i, f 1⟩) (m1 := est e m1 (sA c i + 1) (putTop (topSlot (f 1)) 0)) ?_ (M2.phi hp) (Rn.last rfl ?_ (M3.phi hp))), M3⟩
  · simp only [GiveS.step, give0, e1]
  · simp only [GiveS.step, hw.ec, slotA_eq hc (show -1 ≤ i by omega) (by omega), hw1]
  · simp only [GiveS.step, e3]
theorem give_fl {i : Int} {n : Nat} {s s' : GiveS} {m m' : MemS} (h : Rn (fun _ => true) (fun (s : GiveS) m => s.step e m) (Φq q) n s m s' m') (A : AllocS) (hA : A.pc = 7) : DRn e q n (.alloc { A with give := some s }) m (.alloc { A with give := some s' }) m' := by
  obtain ⟨k, s1, m1, rfl, h1, h2, h3, h4⟩ := h.ex
  have wfx : ∀ s : GiveS, DoerS.wfb e.c (.alloc { A with give := some s }) = true := fun s => by simp only [DoerS.wfb, hA]; rfl
  have stx : ∀ (s : GiveS) m b s1 m1, s.step e m = (b, s1, m1) → DoerS.step (.alloc { A with give := some s }) e m = (b, .alloc { A with give := some s1 }, m1) := fun s m b s1 m1 hs => by
    simp only [DoerS.step, AllocS.step, hA, Option.getD_some, hs]
  exact (h1.map (fun s => DoerS.alloc { A with give := some s }) (fun s _ => wfx s) (fun s m s1 m1 hs => stx s m _ s1 m1 hs) (fun _ h => h)).rn (Rn.last (wfx _) (stx _ _ _ _ _ h3) h4)
theorem alloc_size (hw : Who c e q) (M : Mv m (bA c c.chunks) q p f) (hp : p ≠ 0) {size : Int} {own : Bool} (h : size < 1 ∨ 16 < size) :
    ∃ d', DRn e q 1 (.alloc (newAlloc size own)) m d' m ∧ d'.done = ⟨5, 0, 0, m.steps⟩ := by
  refine ⟨.alloc { newAlloc size own with out := ⟨5, 0, 0, m.steps⟩ }, Rn.last rfl ?_ (M.phi hp), rfl⟩
  · simp only [DoerS.step, AllocS.step, newAlloc, class_neg h]
    rw [if_pos (by omega)]
theorem alloc_run (hc : CfgOk c) (hw : Who c e q) (I : Inv c f F) (M : Mv m (bA c c.chunks) q p f) (hp : p ≠ 0) {size : Int} {own : Bool} (z0 : 1 ≤ size) (z1 : size ≤ 16) :
    ∃ n d' m' g, n ≤ 160 ∧ DRn e q n (.alloc (newAlloc size own)) m d' m' ∧ Mv m' (bA c c.chunks) q p g ∧
      ((F = [] ∧ (∃ s, d'.done = ⟨7, 0, 0, s⟩) ∧ g = f) ∨
       (∃ i F', F = i :: F' ∧ (∃ s, d'.done = ⟨6, 0, 0, s⟩) ∧ Inv c g F ∧ Full c f (classA size) ∧ ∀ b, b ≠ 1 → b ≠ sA c i + 1 → g b = f b) ∨
       (∃ i F' j u, F = i :: F' ∧ (∃ s, d'.done = ⟨0, putHandle ⟨i, (slF c f i).gen⟩, 0, s⟩) ∧ Made c f g F' size own i j u)) := by
  have hL := bA_ge hc (j := c.chunks) (by have := hc.c0; omega)
  have hs0 := hc.s0
  have hs1 := hc.s1
  have ht0 := hc.t0
  have ht1 := hc.t1
  have hc0 := hc.c0
  have hcc := hc.c1
  have hq0 := hw.q0
  have hq1 := hw.q1
  obtain ⟨k0, k1, kr⟩ := class_cases z0 z1
  obtain ⟨m1, e1, M1, -⟩ := M.ld e (a := 1) (by omega) (by omega) (by omega)
  cases F with
  | nil =>
    have htop : topSlot (f 1) = -1 := I.top
    refine ⟨1, .alloc { newAlloc size own with take := ⟨1, f 1, 0, -1, false⟩, at_ := 0, pc := 1, out := ⟨7, 0, 0, m1.steps⟩ }, m1, f, by omega, Rn.last rfl ?_ (M1.phi hp), M1, .inl ⟨rfl, ⟨_, rfl⟩, rfl⟩⟩
    simp only [DoerS.step, AllocS.step, TakeS.step, newAlloc, e1, htop]
    rw [if_neg (by omega)]
    rfl
  | cons i F' =>
    have htop : topSlot (f 1) = i := I.top
    obtain ⟨⟨i0, i1⟩, hnx, hch⟩ := I.chain
    have hgen := I.gen i i0 i1
    have hgg := hc.g1
    have hsw : IntKind.i64.wrap (sA c i + 1) = sA c i + 1 := w64_id (by simp only [sA]; omega) (by simp only [sA]; omega)
    have hsA := slotA_eq hc (show -1 ≤ i by omega) (by omega)
    have G1 : DFl e q 1 (.alloc (newAlloc size own)) m (.alloc { newAlloc size own with take := ⟨1, f 1, 0, i, false⟩ }) m1 := Fl.one rfl (by
      simp only [DoerS.step, AllocS.step, TakeS.step, newAlloc, e1, htop]
      rw [if_neg (by omega)]
      rw [if_neg (by simp; omega)]) (M1.phi hp)
    obtain ⟨m2, e2, M2, -⟩ := M1.ld e (a := sA c i + 1) (by simp only [sA]; omega) (by simp only [sA]; omega) (by simp only [sA]; omega)
    have G2 : DFl e q 1 (.alloc { newAlloc size own with take := ⟨1, f 1, 0, i, false⟩ }) m1 (.alloc { newAlloc size own with take := ⟨2, f 1, headI F', i, false⟩ }) m2 := Fl.one rfl (by
      simp only [DoerS.step, AllocS.step, TakeS.step, newAlloc, hw.ec, hsA, hsw, e2, hnx]
      rw [if_neg (by omega), if_neg (by simp)]) (M2.phi hp)
    obtain ⟨m3, e3, M3, -⟩ := M2.casT e (a := 1) (old := f 1) (putTop (headI F') (IntKind.i64.wrap (topCount (f 1) + 1))) (by omega) (by omega) (by omega) rfl
    have G3 : DFl e q 1 (.alloc { newAlloc size own with take := ⟨2, f 1, headI F', i, false⟩ }) m2 (.alloc { newAlloc size own with take := ⟨0, f 1, headI F', i, true⟩, at_ := i, pc := 1 }) m3 := Fl.one rfl (by
      simp only [DoerS.step, AllocS.step, TakeS.step, newAlloc, e3]
      rw [if_neg (by omega)]
      simp only [if_true]) (M3.phi hp)
    generalize hn1 : IntKind.i64.wrap (topCount (f 1) + 1) = n1 at *
    obtain ⟨m4, e4, M4, -⟩ := M3.ld e (a := sA c i) (by simp only [sA]; omega) (by simp only [sA]; omega) (by simp only [sA]; omega)
    have hg4 : slotOf (upd f 1 (putTop (headI F') n1) (sA c i)) = slF c f i := by rw [upd_ne (by simp only [sA]; omega)]; rfl
    let A4 : AllocS := { newAlloc size own with take := ⟨0, f 1, headI F', i, true⟩, at_ := i, pc := 2, gen := (slF c f i).gen }
    have G4 : DFl e q 1 (.alloc { newAlloc size own with take := ⟨0, f 1, headI F', i, true⟩, at_ := i, pc := 1 }) m3 (.alloc { A4 with p := some { place0 with cls := classA size } }) m4 := Fl.one rfl (by
      simp only [DoerS.step, AllocS.step, newAlloc, hw.ec, hsA, e4, hg4, A4]) (M4.phi hp)
    -- its invariant, but for the slot taken
    have Iw : Inv c (upd f 1 (putTop (headI F') n1)) F' := by
      have hb := headI_bd hc hch
      have hu : ∀ b, b ≠ 1 → upd f 1 (putTop (headI F') n1) b = f b := fun b h => upd_ne h
      have hsl : ∀ i, 0 ≤ i → slF c (upd f 1 (putTop (headI F') n1)) i = slF c f i := fun i a => by simp only [slF]; rw [hu _ (by simp only [sA]; omega)]
      have hck : ∀ j, 0 ≤ j → ckF c (upd f 1 (putTop (headI F') n1)) j = ckF c f j := fun i a => by simp only [ckF]; rw [hu _ (by simp only [cA]; omega)]
      have hhd : ∀ i, 0 ≤ i → i < c.slots → (slF c f i).state = 1 → hdF (upd f 1 (putTop (headI F') n1)) (slF c f i).addr = hdF f (slF c f i).addr := fun i a b s => by
        rcases I.obj i a b with x | x | ⟨j, off, o⟩
        · omega
        · omega
        · have := o.bd hc (I.chk j o.j0 o.j1).us
          simp only [hdF]; rw [hu _ (by omega)]
      refine ⟨by rw [hu 0 (by omega)]; exact I.ep, by rw [upd_self]; exact topSlot_put hb.1 hb.2, hch.congr fun i' hi' => hu _ (by have := hch.mem i' hi'; simp only [sA]; omega), (List.nodup_cons.1 I.nodup).2, fun i' hi' => ?_, fun i' a b => by rw [hsl i' a]; exact I.gen i' a b, fun i' a b => ?_, fun x y a b a' b' s s' hne => ?_, fun j a b => ?_, fun k a b => ?_⟩
      · rw [hsl i' (hch.mem i' hi').1]; exact I.fst i' (by simp [hi'])
      · rw [hsl i' a]
        rcases I.obj i' a b with x | x | ⟨j, off, o⟩
        · exact .inl x
        · exact .inr (.inl x)
        · have hb := o.bd hc (I.chk j o.j0 o.j1).us
          exact .inr (.inr ⟨j, off, o.frame (by rw [hck j o.j0]; exact o.st) (by rw [hck j o.j0]; exact Int.le_refl _) fun b b0 b1 => hu b (by omega)⟩)
      · rw [hsl x a] at s ⊢
        rw [hsl y a'] at s' ⊢
        rw [hhd x a b s, hhd y a' b' s']
        exact I.dis x y a b a' b' s s' hne
      · have C := I.chk j a b
        refine ⟨by rw [hck j a]; exact C.st, by rw [hck j a]; exact C.us, fun off o0 o1 => ?_⟩
        rw [hck j a] at o0
        have hb := chunkOf_bd (f (cA c j))
        have h0 : 0 ≤ off := by simp only [ckF] at o0; omega
        have h1 := bA_ge hc a
        rw [hu _ (by omega)]
        exact C.ze off o0 o1
      · rw [hu _ (by omega)]
        rcases I.opn k a b with x | ⟨j, y1, y2, y3, y4, y5⟩
        · exact .inl x
        · exact .inr ⟨j, y1, y2, y3, by rw [hck j y1]; exact y4, by rw [hck j y1]; exact y5⟩
    have wfp : ∀ s : PlaceS, decide (0 ≤ s.cls) = true → DoerS.wfb e.c (.alloc { A4 with p := some s }) = true := fun s hs => by simp only [DoerS.wfb, A4]; exact hs
    have stp : ∀ (s : PlaceS) m s1 m1, s.step e m = (false, s1, m1) → DoerS.step (.alloc { A4 with p := some s }) e m = (false, .alloc { A4 with p := some s1 }, m1) := fun s m s1 m1 hs => by
      simp only [DoerS.step, AllocS.step, A4, Option.getD_some, hs]
      rw [if_neg (by simp)]
    rcases place_run hc hw Iw M4 hp k0 k1 with ⟨n, s', m5, f5, j, u, hn, ⟨k, s1, m51, rfl, H1, H2, H3, H4⟩, hok, had, hch5, M5, G⟩ | ⟨n, s', m5, hn, ⟨k, s1, m51, rfl, H1, H2, H3, H4⟩, hok, M5, hfull⟩
    · have G5 := H1.map (wf' := DoerS.wfb e.c) (step' := fun (d : DoerS) m => d.step e m) (fun s => DoerS.alloc { A4 with p := some s }) wfp stp (Φ' := Φq q) (fun _ h => h)
      have hj0 := G.j0
      have hj1 := G.j1
      have hu0 := G.u0
      have hfit := G.fit
      have hr := room_cases k0 k1
      have hb0 := bA_ge hc hj0
      have hb1 := bA_le hc hj1
      have hb2 := bA_bd hc
      let A6 : AllocS := { A4 with p := some s', addr := bA c j + u, chunk := j, pc := 3 }
      have G6 : DFl e q 1 (.alloc { A4 with p := some s1 }) m51 (.alloc A6) m5 := Fl.one (wfp _ H2) (by
        simp only [DoerS.step, AllocS.step, A4, A6, Option.getD_some, H3, hok, had, hch5, if_true]) (M5.phi hp)
      have hcw : IntKind.i64.wrap (cA c j + 1) = cA c j + 1 := w64_id (by simp only [cA]; omega) (by simp only [cA]; omega)
      have M6 := (M5.add e (a := cA c j + 1) (roomA (classA size)) (by simp only [cA]; omega) (by simp only [cA]; omega) (by simp only [cA]; omega)).1
      generalize hcnt : (((f5 (cA c j + 1) : Nat) : Int) + roomA (classA size)) % 18446744073709551616 = cnt at M6
      have G7 : DFl e q 1 (.alloc A6) m5 (.alloc { A6 with pc := 4 }) (eadd e m5 (cA c j + 1) (roomA (classA size))) := Fl.one (by
        simp only [DoerS.wfb, A6, A4, newAlloc]; exact decide_eq_true k0) (by
        simp only [DoerS.step, AllocS.step, A4, A6, newAlloc, hw.ec, chunkA_eq hc (show -1 ≤ j by omega) (by omega), hcw]) (M6.phi hp)
      generalize eadd e m5 (cA c j + 1) (roomA (classA size)) = m6 at *
      have M7 := (M6.st e (a := bA c j + u) (A6.head 1) (by omega) (by omega) (by omega)).1
      have G8 : DFl e q 1 (.alloc { A6 with pc := 4 }) m6 (.alloc { A6 with pc := 5 }) (est e m6 (bA c j + u) (A6.head 1)) := Fl.one rfl (by
        simp only [DoerS.step, AllocS.step, A6, A4, AllocS.head]) (M7.phi hp)
      generalize est e m6 (bA c j + u) (A6.head 1) = m7 at *
      have M8 := (M7.st e (a := sA c i) (putSlot ⟨1, bA c j + u, (slF c f i).gen, 0⟩) (by simp only [sA]; omega) (by simp only [sA]; omega) (by simp only [sA]; omega)).1
      have G9 : DFl e q 1 (.alloc { A6 with pc := 5 }) m7 (.alloc { A6 with pc := 6, out := ⟨0, putHandle ⟨i, (slF c f i).gen⟩, 0, (est e m7 (sA c i) (putSlot ⟨1, bA c j + u, (slF c f i).gen, 0⟩)).steps⟩ }) (est e m7 (sA c i) (putSlot ⟨1, bA c j + u, (slF c f i).gen, 0⟩)) := Fl.one rfl (by
        simp only [DoerS.step, AllocS.step, A6, A4, newAlloc, hw.ec, hsA]) (M8.phi hp)
      generalize est e m7 (sA c i) (putSlot ⟨1, bA c j + u, (slF c f i).gen, 0⟩) = m8 at *
      have M9 := (M8.st e (a := bA c j + u) (putHead ⟨2, size, i, (slF c f i).gen, own⟩) (by omega) (by omega) (by omega)).1
      have G10 : DRn e q 1 (.alloc { A6 with pc := 6, out := ⟨0, putHandle ⟨i, (slF c f i).gen⟩, 0, m8.steps⟩ }) m8 (.alloc { A6 with pc := 6, out := ⟨0, putHandle ⟨i, (slF c f i).gen⟩, 0, m8.steps⟩ }) (est e m8 (bA c j + u) (putHead ⟨2, size, i, (slF c f i).gen, own⟩)) := Rn.last rfl (by
        simp only [DoerS.step, AllocS.step, A6, A4, newAlloc, AllocS.head]) (M9.phi hp)
      refine ⟨1 + (1 + (1 + (1 + (k + (1 + (1 + (1 + (1 + 1)))))))), _, _, _, by omega, G1.rn (G2.rn (G3.rn (G4.rn (G5.rn (G6.rn (G7.rn (G8.rn (G9.rn G10)))))))), M9, .inr (.inr ⟨i, F', j, u, rfl, ⟨_, rfl⟩, ?_⟩)⟩
      refine made_inv (n := n1) hc I z0 z1 (own := own) (f' := f5) G (fun b h1 h2 h3 => ?_) ?_ ?_
      · rw [upd_ne h2, upd_ne h3, upd_ne h2, upd_ne h1]
      · rw [upd_ne (by simp only [sA]; omega), upd_self]
      · rw [upd_self]
    · have G5 := H1.map (wf' := DoerS.wfb e.c) (step' := fun (d : DoerS) m => d.step e m) (fun s => DoerS.alloc { A4 with p := some s }) wfp stp (Φ' := Φq q) (fun _ h => h)
      obtain ⟨m6, s6, n6, H6, M6⟩ := give_run hc hw M5 hp i0 i1
      let A6 : AllocS := { A4 with p := some s', addr := 0, chunk := 0, pc := 7, out := ⟨6, 0, 0, m5.steps⟩ }
      have G6 : DFl e q 1 (.alloc { A4 with p := some s1 }) m51 (.alloc { A6 with give := some { give0 with slot := i } }) m5 := Fl.one (wfp _ H2) (by
        simp only [DoerS.step, AllocS.step, A4, A6, newAlloc, Option.getD_some, H3, hok, if_true, Bool.false_eq_true, if_false]) (M5.phi hp)
      have G7 := give_fl (i := i) H6 A6 rfl
      refine ⟨1 + (1 + (1 + (1 + (k + (1 + 3))))), _, m6, _, by omega, G1.rn (G2.rn (G3.rn (G4.rn (G5.rn (G6.rn G7))))), M6, .inr (.inl ⟨i, F', rfl, ⟨_, rfl⟩, ?_, ?_, fun b h1 h2 => by rw [upd_ne h1, upd_ne h2, upd_ne h1]⟩)⟩
      · have hu : ∀ b, b ≠ 1 → b ≠ sA c i + 1 → upd (upd (upd f 1 (putTop (headI F') n1)) (sA c i + 1) (putTop (topSlot (upd f 1 (putTop (headI F') n1) 1)) 0)) 1 (putTop i n6) b = f b := fun b h1 h2 => by rw [upd_ne h1, upd_ne h2, upd_ne h1]
        have hb := headI_bd hc hch
        have ht : upd (upd (upd f 1 (putTop (headI F') n1)) (sA c i + 1) (putTop (topSlot (upd f 1 (putTop (headI F') n1) 1)) 0)) 1 (putTop i n6) 1 = putTop i n6 := upd_self ..
        have hl : topSlot (upd (upd (upd f 1 (putTop (headI F') n1)) (sA c i + 1) (putTop (topSlot (upd f 1 (putTop (headI F') n1) 1)) 0)) 1 (putTop i n6) (sA c i + 1)) = headI F' := by
          rw [upd_ne (by simp only [sA]; omega), upd_self, upd_self, topSlot_put hb.1 hb.2, topSlot_put hb.1 hb.2]
        generalize upd (upd (upd f 1 (putTop (headI F') n1)) (sA c i + 1) (putTop (topSlot (upd f 1 (putTop (headI F') n1) 1)) 0)) 1 (putTop i n6) = g at *
        have hsl : ∀ i', 0 ≤ i' → slF c g i' = slF c f i' := fun i' a => by simp only [slF]; rw [hu _ (by simp only [sA]; omega) (by simp only [sA]; omega)]
        have hck : ∀ j, 0 ≤ j → ckF c g j = ckF c f j := fun i' a => by simp only [ckF]; rw [hu _ (by simp only [cA]; omega) (by simp only [cA, sA]; omega)]
        have hhd : ∀ i, 0 ≤ i → i < c.slots → (slF c f i).state = 1 → hdF g (slF c f i).addr = hdF f (slF c f i).addr := fun i' a b s => by
          rcases I.obj i' a b with x | x | ⟨j, off, o⟩
          · omega
          · omega
          · have := o.bd hc (I.chk j o.j0 o.j1).us
            simp only [hdF]; rw [hu _ (by omega) (by simp only [sA]; omega)]
        have hnm := (List.nodup_cons.1 I.nodup).1
        refine ⟨by rw [hu 0 (by omega) (by simp only [sA]; omega)]; exact I.ep, by rw [ht]; exact topSlot_put (by omega) (by omega), ⟨⟨i0, i1⟩, hl, hch.congr fun i' hi' => hu _ (by have := hch.mem i' hi'; simp only [sA]; omega) ?_⟩, I.nodup, fun i' hi' => ?_, fun i' a b => by rw [hsl i' a]; exact I.gen i' a b, fun i' a b => ?_, fun x y a b a' b' s s' hne => ?_, fun j a b => ?_, fun k a b => ?_⟩
        · have : i' ≠ i := by rintro rfl; exact hnm hi'
          simp only [sA]; omega
        · rw [hsl i' (I.chain.mem i' hi').1]; exact I.fst i' hi'
        · rw [hsl i' a]
          rcases I.obj i' a b with x | x | ⟨j, off, o⟩
          · exact .inl x
          · exact .inr (.inl x)
          · have hb := o.bd hc (I.chk j o.j0 o.j1).us
            exact .inr (.inr ⟨j, off, o.frame (by rw [hck j o.j0]; exact o.st) (by rw [hck j o.j0]; exact Int.le_refl _) fun b b0 b1 => hu b (by omega) (by simp only [sA]; omega)⟩)
        · rw [hsl x a] at s ⊢
          rw [hsl y a'] at s' ⊢
          rw [hhd x a b s, hhd y a' b' s']
          exact I.dis x y a b a' b' s s' hne
        · have C := I.chk j a b
          refine ⟨by rw [hck j a]; exact C.st, by rw [hck j a]; exact C.us, fun off o0 o1 => ?_⟩
          rw [hck j a] at o0
          have hb := chunkOf_bd (f (cA c j))
          have h0 : 0 ≤ off := by simp only [ckF] at o0; omega
          have h1 := bA_ge hc a
          rw [hu _ (by omega) (by simp only [sA]; omega)]
          exact C.ze off o0 o1
        · rw [hu _ (by omega) (by simp only [sA]; omega)]
          rcases I.opn k a b with x | ⟨j, y1, y2, y3, y4, y5⟩
          · exact .inl x
          · exact .inr ⟨j, y1, y2, y3, by rw [hck j y1]; exact y4, by rw [hck j y1]; exact y5⟩
      · have hcf : ∀ j', 0 ≤ j' → ckF c (upd f 1 (putTop (headI F') n1)) j' = ckF c f j' := fun j' g0 => by
          simp only [ckF]; rw [upd_ne (by simp only [cA]; omega)]
        refine ⟨fun j a b => ?_, fun j a b => ?_⟩
        · have := hfull.1 j a (by rw [upd_ne (by omega)]; exact b)
          rwa [hcf j a] at this
        · have := hfull.2 j a b
          rwa [hcf j a] at this
end
end Go.FL

/- The arena, alone: an object is let go. -/
namespace Go.FL
set_option linter.unusedVariables false
set_option linter.unusedSimpArgs false
open Go Go.SL

section
variable {c : Cfg} {f g : Int → Nat} {F : List Int} {m : MemS} {q : Int} {p : Nat} {e : EnvS}
/-- A number is the handle of the object of a slot. -/
structure Hdl (c : Cfg) (f : Int → Nat) (n : Nat) (i : Int) : Prop where
  h : handleOf n = (⟨i, (slF c f i).gen⟩, true)
  i0 : 0 ≤ i
  i1 : i < c.slots
  live : (slF c f i).state = 1
/-- Cells are frozen. -/
theorem help_run (hc : CfgOk c) (hw : Who c e q) (hp : p ≠ 0) {i a g : Int} {size : Int} {w : Nat} (hs : slotOf w = ⟨4, a, g, 1⟩) (a0 : 6 + c.threads + 2 * c.slots + 3 * c.chunks ≤ a) (a1 : a + size < bA c c.chunks) :
    ∀ (k : Nat) (t : Int) {f : Int → Nat} {m : MemS} (cell : Nat), Mv m (bA c c.chunks) q p f → 0 ≤ t → t + k = size → (∀ x, t ≤ x → x < size → f (a + 1 + x) < 1099511627776) →
      ∃ m' cell' f', Fl (fun _ => true) (fun (s : HelpS) m => s.step e m) (Φq q) (2 * k) ⟨i, w, size, t, cell, false, false⟩ m ⟨i, w, size, size, cell', false, false⟩ m' ∧ Mv m' (bA c c.chunks) q p f' ∧ ∀ b, (b ≤ a ∨ a + size < b) → f' b = f b
  | 0, t, f, m, cell, M, t0, tk, _ => by
    have : t = size := by omega
    subst this
    exact ⟨m, cell, f, .nil, M, fun _ _ => rfl⟩
  | k + 1, t, f, m, cell, M, t0, tk, hx => by
    have hL := bA_bd hc
    have ht0 := hc.t0
    have hs0 := hc.s0
    have hc0 := hc.c0
    have hq1 := hw.q1
    have hv := hx t (by omega) (by omega)
    have hwa : IntKind.i64.wrap (a + 1 + t) = a + 1 + t := w64_id (by omega) (by omega)
    have hwt : IntKind.i64.wrap (t + 1) = t + 1 := w64_id (by omega) (by omega)
    obtain ⟨m1, e1, M1, -⟩ := M.ld e (a := a + 1 + t) (by omega) (by omega) (by omega)
    obtain ⟨m2, e2, M2, -⟩ := M1.casT e (a := a + 1 + t) (old := f (a + 1 + t)) (putCell ⟨(cellOf (f (a + 1 + t))).value, true, 1⟩) (by omega) (by omega) (by omega) rfl
    obtain ⟨m', cell', f', H, M', hf'⟩ := help_run hc hw hp hs a0 a1 k (t + 1) (i := i) (f (a + 1 + t)) M2 (by omega) (by omega) (fun x x0 x1 => by rw [upd_ne (by omega)]; exact hx x (by omega) x1)
    refine ⟨m', cell', f', ?_, M', fun b hb => by rw [hf' b hb, upd_ne (by omega)]⟩
    rw [show 2 * (k + 1) = 2 * k + 1 + 1 by omega]
    refine .cons rfl (s1 := ⟨i, w, size, t, f (a + 1 + t), true, false⟩) (m1 := m1) ?_ (M1.phi hp) (.cons rfl (s1 := ⟨i, w, size, t + 1, f (a + 1 + t), false, false⟩) (m1 := m2) ?_ (M2.phi hp) H)
    · simp only [HelpS.step, hs, hwa, e1, cellOf_lt hv]
      rw [if_neg (by omega)]
      simp
    · simp only [HelpS.step, hs, hwa, e2, hwt]
      rw [if_neg (by omega)]
      simp only [if_true]
structure Freed (c : Cfg) (f g : Int → Nat) (F : List Int) (i j : Int) : Prop where
  inv : Inv c g (if (slF c f i).gen < c.gens then i :: F else F)
  sl : slF c g i = if (slF c f i).gen < c.gens then ⟨0, 0, (slF c f i).gen + 1, 0⟩ else ⟨3, 0, (slF c f i).gen, 0⟩
  rest : ∀ b, b ≠ 1 → b ≠ sA c i → b ≠ sA c i + 1 → b ≠ cA c j + 1 → (b ≤ (slF c f i).addr ∨ (slF c f i).addr + (hdF f (slF c f i).addr).size < b) → g b = f b
theorem freed_inv (hc : CfgOk c) (I : Inv c f F) {i j off : Int} (i0 : 0 ≤ i) (i1 : i < c.slots) (o : ObjAt c f (slF c f i) j off)
    (rest : ∀ b, b ≠ 1 → b ≠ sA c i → b ≠ sA c i + 1 → b ≠ cA c j + 1 → (b ≤ (slF c f i).addr ∨ (slF c f i).addr + (hdF f (slF c f i).addr).size < b) → g b = f b)
    (hsl : g (sA c i) = putSlot (if (slF c f i).gen < c.gens then ⟨0, 0, (slF c f i).gen + 1, 0⟩ else ⟨3, 0, (slF c f i).gen, 0⟩))
    (htop : if (slF c f i).gen < c.gens then topSlot (g 1) = i ∧ topSlot (g (sA c i + 1)) = topSlot (f 1) else g 1 = f 1) : Freed c f g F i j := by
  have hs0 := hc.s0
  have hs1 := hc.s1
  have ht0 := hc.t0
  have hc0 := hc.c0
  have hcc := hc.c1
  have hgg := hc.g1
  have hbd := o.bd hc (I.chk j o.j0 o.j1).us
  have hz := o.z0
  have hge := bA_ge hc o.j0
  have hle := bA_le hc o.j1
  have gen := I.gen i i0 i1
  have live := o.live
  have hj0 := o.j0
  have hj1 := o.j1
  have had := o.ad
  have ho0 := o.o0
  have hus := o.us
  have hni : i ∉ F := fun h => by have := I.fst i h; omega
  have sl : slF c g i = if (slF c f i).gen < c.gens then ⟨0, 0, (slF c f i).gen + 1, 0⟩ else ⟨3, 0, (slF c f i).gen, 0⟩ := by
    show slotOf (g (sA c i)) = _
    rw [hsl]
    split
    · exact slotOf_put ⟨by simp only; omega, by simp only; omega⟩ ⟨by simp only; omega, by simp only; omega⟩ ⟨by simp only; omega, by simp only; omega⟩ ⟨by simp only; omega, by simp only; omega⟩
    · exact slotOf_put ⟨by simp only; omega, by simp only; omega⟩ ⟨by simp only; omega, by simp only; omega⟩ ⟨by simp only; omega, by simp only; omega⟩ ⟨by simp only; omega, by simp only; omega⟩
  have hgst : (slF c g i).state ≠ 1 := by rw [sl]; split <;> simp
  have hsn : ∀ i', 0 ≤ i' → i' < c.slots → i' ≠ i → slF c g i' = slF c f i' := fun i' g0 g1 hne => by
    simp only [slF]
    rw [rest _ (by simp only [sA]; omega) (by simp only [sA]; omega) (by simp only [sA]; omega) (by simp only [sA, cA]; omega) (by simp only [sA]; simp only [slF] at hbd; omega)]
  have hcn : ∀ j', 0 ≤ j' → j' < c.chunks → ckF c g j' = ckF c f j' := fun j' g0 g1 => by
    simp only [ckF]
    rw [rest _ (by simp only [cA]; omega) (by simp only [cA, sA]; omega) (by simp only [cA, sA]; omega) (by simp only [cA]; omega) (by simp only [cA]; simp only [slF] at hbd; omega)]
  have hofr : ∀ i' j' off, 0 ≤ i' → i' < c.slots → i' ≠ i → ObjAt c f (slF c f i') j' off → ∀ b, (slF c f i').addr ≤ b → b ≤ (slF c f i').addr + (hdF f (slF c f i').addr).size → g b = f b := fun i' j' off g0 g1 hne o' b b0 b1 => by
    have hd := I.dis i i' i0 i1 g0 g1 live o'.live (Ne.symm hne)
    have hb := o'.bd hc (I.chk j' o'.j0 o'.j1).us
    exact rest b (by omega) (by simp only [sA]; omega) (by simp only [sA]; omega) (by simp only [cA]; omega) (by omega)
  have hhd : ∀ i', 0 ≤ i' → i' < c.slots → i' ≠ i → (slF c f i').state = 1 → hdF g (slF c f i').addr = hdF f (slF c f i').addr := fun i' g0 g1 hne s => by
    rcases I.obj i' g0 g1 with h | h | ⟨j', off, o'⟩
    · omega
    · omega
    · have := o'.z0
      simp only [hdF]; rw [hofr i' j' off g0 g1 hne o' _ (by omega) (by omega)]
  have hchain : ChainF c g F := I.chain.congr fun i' hi' => by
    have hm := I.chain.mem i' hi'
    have hne : i' ≠ i := by rintro rfl; exact hni hi'
    exact rest _ (by simp only [sA]; omega) (by simp only [sA]; omega) (by simp only [sA]; omega) (by simp only [sA, cA]; omega) (by simp only [sA]; omega)
  have inv : ∀ F', (F' = F ∨ (F' = i :: F ∧ (slF c f i).gen < c.gens)) → topSlot (g 1) = headI F' → ChainF c g F' → F'.Nodup → Inv c g F' := fun F' hF ht hch hnd => by
    refine ⟨?_, ht, hch, hnd, fun i' hi' => ?_, fun i' g0 g1 => ?_, fun i' g0 g1 => ?_, fun x y a b a' b' s s' hne => ?_, fun j' g0 g1 => ?_, fun k g0 g1 => ?_⟩
    · rw [rest 0 (by omega) (by simp only [sA]; omega) (by simp only [sA]; omega) (by simp only [cA]; omega) (by omega)]; exact I.ep
    · by_cases hne : i' = i
      · subst hne
        rcases hF with rfl | ⟨rfl, hl⟩
        · exact absurd hi' hni
        · rw [sl, if_pos hl]
      · have hi2 : i' ∈ F := by
          rcases hF with rfl | ⟨rfl, _⟩
          · exact hi'
          · exact (List.mem_cons.1 hi').resolve_left hne
        have hm := I.chain.mem i' hi2
        rw [hsn i' hm.1 hm.2 hne]; exact I.fst i' hi2
    · by_cases hne : i' = i
      · subst hne; rw [sl]; split <;> simp only <;> omega
      · rw [hsn i' g0 g1 hne]; exact I.gen i' g0 g1
    · by_cases hne : i' = i
      · subst hne; rw [sl]; split
        · exact .inl rfl
        · exact .inr (.inl rfl)
      · rw [hsn i' g0 g1 hne]
        rcases I.obj i' g0 g1 with h | h | ⟨j', off', o'⟩
        · exact .inl h
        · exact .inr (.inl h)
        · exact .inr (.inr ⟨j', off', o'.frame (by rw [hcn j' o'.j0 o'.j1]; exact o'.st) (by rw [hcn j' o'.j0 o'.j1]; exact Int.le_refl _) (hofr i' j' off' g0 g1 hne o')⟩)
    · have h1 : x ≠ i := by rintro rfl; exact hgst s
      have h2 : y ≠ i := by rintro rfl; exact hgst s'
      rw [hsn x a b h1] at s ⊢
      rw [hsn y a' b' h2] at s' ⊢
      rw [hhd x a b h1 s, hhd y a' b' h2 s']
      exact I.dis x y a b a' b' s s' hne
    · have C := I.chk j' g0 g1
      refine ⟨by rw [hcn j' g0 g1]; exact C.st, by rw [hcn j' g0 g1]; exact C.us, fun off' o0 o1 => ?_⟩
      rw [hcn j' g0 g1] at o0
      have hb := chunkOf_bd (f (cA c j'))
      have h0 : 0 ≤ off' := by simp only [ckF] at o0; omega
      have h1 := bA_ge hc g0
      have hap := ObjAt.apart hc I o g0 g1 rfl
      have hap2 : bA c j' + off' ≤ (slF c f i).addr ∨ (slF c f i).addr + (hdF f (slF c f i).addr).size < bA c j' + off' := by omega
      rw [rest _ (by omega) (by simp only [sA]; omega) (by simp only [sA]; omega) (by simp only [cA]; omega) hap2]
      exact C.ze off' o0 o1
    · rw [rest (2 + k) (by omega) (by simp only [sA]; omega) (by simp only [sA]; omega) (by simp only [cA]; omega) (by omega)]
      rcases I.opn k g0 g1 with h | ⟨j', a0, a1, a2, a3, a4⟩
      · exact .inl h
      · exact .inr ⟨j', a0, a1, a2, by rw [hcn j' a0 a1]; exact a3, by rw [hcn j' a0 a1]; exact a4⟩
  refine ⟨?_, sl, rest⟩
  by_cases hl : (slF c f i).gen < c.gens
  · rw [if_pos hl] at htop ⊢
    refine inv _ (.inr ⟨rfl, hl⟩) htop.1 ⟨⟨i0, i1⟩, ?_, hchain⟩ (List.nodup_cons.2 ⟨hni, I.nodup⟩)
    rw [htop.2]; exact I.top
  · rw [if_neg hl] at htop ⊢
    refine inv _ (.inl rfl) ?_ hchain I.nodup
    rw [htop]; exact I.top
theorem drop_run (hc : CfgOk c) (hw : Who c e q) (I : Inv c f F) (M : Mv m (bA c c.chunks) q p f) (hp : p ≠ 0) {n : Nat} {i j off : Int} {own : Bool} (H : Hdl c f n i) (o : ObjAt c f (slF c f i) j off) (hown : (hdF f (slF c f i).addr).own = own) :
    ∃ k d' m' g, k ≤ 60 ∧ DRn e q k (.drop (newDrop n own)) m d' m' ∧ Mv m' (bA c c.chunks) q p g ∧ (∃ s, d'.done = ⟨0, 0, 0, s⟩) ∧ Freed c f g F i j := by
  have hL := bA_ge hc (j := c.chunks) (by have := hc.c0; omega)
  have hLb := bA_bd hc
  have hs0 := hc.s0
  have hs1 := hc.s1
  have ht0 := hc.t0
  have ht1 := hc.t1
  have hc0 := hc.c0
  have hcc := hc.c1
  have hwd := hc.w0
  have hgg := hc.g1
  have hq0 := hw.q0
  have hq1 := hw.q1
  have i0 := H.i0
  have i1 := H.i1
  have hbd := o.bd hc (I.chk j o.j0 o.j1).us
  have hz0 := o.z0
  have hz1 := o.z1
  have hj0 := o.j0
  have hj1 := o.j1
  have gen := I.gen i i0 i1
  have live1 := o.live
  have ver0 := o.ver
  have hus := o.us
  have hkw := (I.chk j o.j0 o.j1).us
  have hsA := slotA_eq hc (show -1 ≤ i by omega) (by omega)
  have hS : slotOf (f (sA c i)) = slF c f i := rfl
  have hce := o.ce
  have had := o.ad
  have ho0 := o.o0
  have hbd2 := slotOf_bd (f (sA c i))
  rw [hS] at hbd2
  generalize hs : slF c f i = s at *
  obtain ⟨st, a, ge, ve⟩ := s
  simp only at hz0 hz1 live1 ver0 hbd gen hown hus hce had hbd2
  subst live1 ver0
  have hH : headOf (f a) = hdF f a := rfl
  generalize hx : hdF f a = x at *
  obtain ⟨xk, size, xs, xg, xo⟩ := x
  simp only at hz0 hz1 hbd hown hus hce
  subst hown
  have hh : handleOf n = (⟨i, ge⟩, true) := by have := H.h; rw [hs] at this; exact this
  obtain ⟨m1, e1, M1, -⟩ := M.ld e (a := sA c i) (by simp only [sA]; omega) (by simp only [sA]; omega) (by simp only [sA]; omega)
  have G1 : DFl e q 1 (.drop (newDrop n xo)) m (.drop { newDrop n xo with h := ⟨i, ge⟩, w := f (sA c i), pc := 1 }) m1 := Fl.one rfl (by
    simp only [DoerS.step, DropS.step, newDrop, hh, hw.ec]
    rw [if_neg (by simp; omega)]
    simp only [hsA, e1, hS, live]
    simp) (M1.phi hp)
  obtain ⟨m2, e2, M2, -⟩ := M1.ld e (a := a) (by omega) (by omega) (by omega)
  have G2 : DFl e q 1 (.drop { newDrop n xo with h := ⟨i, ge⟩, w := f (sA c i), pc := 1 }) m1 (.drop { newDrop n xo with h := ⟨i, ge⟩, w := f (sA c i), size := size, pc := 2 }) m2 := Fl.one rfl (by
    simp only [DoerS.step, DropS.step, newDrop, hS, e2, hH]
    simp) (M2.phi hp)
  have hput : slotOf (putSlot ⟨4, a, ge, 1⟩) = ⟨4, a, ge, 1⟩ := slotOf_put ⟨by simp only; omega, by simp only; omega⟩ ⟨by simp only; omega, by simp only; omega⟩ ⟨by simp only; omega, by simp only; omega⟩ ⟨by simp only; omega, by simp only; omega⟩
  generalize hwd : putSlot ⟨4, a, ge, 1⟩ = wd at *
  obtain ⟨m3, e3, M3, -⟩ := M2.casT e (a := sA c i) (old := f (sA c i)) wd (by simp only [sA]; omega) (by simp only [sA]; omega) (by simp only [sA]; omega) rfl
  let D3 : DropS := { newDrop n xo with h := ⟨i, ge⟩, w := f (sA c i), size := size, pc := 3 }
  have G3 : DFl e q 1 (.drop { newDrop n xo with h := ⟨i, ge⟩, w := f (sA c i), size := size, pc := 2 }) m2 (.drop { D3 with help := some ⟨i, wd, size, 0, 0, false, false⟩ }) m3 := Fl.one rfl (by
    simp only [DoerS.step, DropS.step, newDrop, hS, hw.ec, hsA, D3]
    rw [show w64 (0 + 1) = 1 by decide, hwd, e3]
    simp [newHelp]) (M3.phi hp)
  obtain ⟨sz, hsz⟩ : ∃ sz : Nat, size = sz := ⟨size.toNat, by omega⟩
  obtain ⟨m4, cell', f4, H4, M4, hf4⟩ := help_run hc hw hp (i := i) (size := size) hput (by omega) (by omega) sz 0 0 M3 (by omega) (by omega) (fun x x0 x1 => by rw [upd_ne (by simp only [sA]; omega)]; exact hce x x0 x1)
  have wfh : ∀ s : HelpS, DoerS.wfb e.c (.drop { D3 with help := some s }) = true := fun s => by simp only [DoerS.wfb, D3]; rfl
  have G4 := H4.map (wf' := DoerS.wfb e.c) (step' := fun (d : DoerS) m => d.step e m) (fun s => DoerS.drop { D3 with help := some s }) (fun s _ => wfh s) (fun s m s1 m1 hst => by
    simp only [DoerS.step, DropS.step, D3, Option.getD_some, hst]
    simp) (Φ' := Φq q) (fun _ h => h)
  have hf4s : f4 (sA c i) = wd := by rw [hf4 _ (by simp only [sA]; omega), upd_self]
  generalize hnx : (if ge < c.gens then (⟨0, 0, ge + 1, 0⟩ : SlotS) else ⟨3, 0, ge, 0⟩) = nx at *
  have hnx2 : (if ge ≥ c.gens then (⟨3, 0, ge, 0⟩ : SlotS) else ⟨0, 0, w64 (ge + 1), 0⟩) = nx := by
    have : w64 (ge + 1) = ge + 1 := w64_id (by omega) (by omega)
    rw [this, ← hnx]
    by_cases hl : ge < c.gens
    · rw [if_pos hl, if_neg (by omega)]
    · rw [if_neg hl, if_pos (by omega)]
  obtain ⟨m5, e5, M5, -⟩ := M4.casT e (a := sA c i) (old := wd) (putSlot nx) (by simp only [sA]; omega) (by simp only [sA]; omega) (by simp only [sA]; omega) hf4s
  let D5 : DropS := { D3 with help := some ⟨i, wd, size, size, cell', false, true⟩, out := ⟨0, 0, 0, m5.whenAt (sA c i)⟩, pc := 5 }
  have G5 : DFl e q 1 (.drop { D3 with help := some ⟨i, wd, size, size, cell', false, false⟩ }) m4 (.drop D5) m5 := Fl.one (wfh _) (by
    simp only [DoerS.step, DropS.step, D3, Option.getD_some, HelpS.step, hput, hw.ec, hsA, hnx2]
    rw [if_pos (Int.le_refl _), e5]
    simp only [if_true, D5, D3]) (M5.phi hp)
  have hcl := class_cases hz0 hz1
  have hof : ofA c a = j := by rw [had]; exact ofA_eq hc hj0 hj1 ho0 (by omega)
  have hcw : IntKind.i64.wrap (cA c j + 1) = cA c j + 1 := w64_id (by simp only [cA]; omega) (by simp only [cA]; omega)
  have M6 := (M5.add e (a := cA c j + 1) (w64 (-roomA (classA size))) (by simp only [cA]; omega) (by simp only [cA]; omega) (by simp only [cA]; omega)).1
  generalize hcnt : ((((upd f4 (sA c i) (putSlot nx)) (cA c j + 1) : Nat) : Int) + w64 (-roomA (classA size))) % 18446744073709551616 = cnt at M6
  have wf5 : DoerS.wfb e.c (.drop D5) = true := by
    simp only [DoerS.wfb, D5, D3, hw.ec, newDrop]
    rw [decide_eq_true hcl.1]
    simp; omega
  have st5 : DoerS.step (.drop D5) e m5 = (decide (ge ≥ c.gens), .drop { D5 with give := some { give0 with slot := i }, pc := 6 }, eadd e m5 (cA c j + 1) (w64 (-roomA (classA size)))) := by
    simp only [DoerS.step, DropS.step, D5, D3, newDrop, hS, hw.ec, hof, chunkA_eq hc (show -1 ≤ j by omega) (by omega), hcw]
  generalize hm6 : eadd e m5 (cA c j + 1) (w64 (-roomA (classA size))) = m6 at *
  have hrest6 : ∀ b, b ≠ sA c i → b ≠ cA c j + 1 → (b ≤ a ∨ a + size < b) → upd (upd f4 (sA c i) (putSlot nx)) (cA c j + 1) cnt.toNat b = f b := fun b h1 h2 h3 => by
    rw [upd_ne h2, upd_ne h1, hf4 b h3, upd_ne h1]
  have hsl6 : upd (upd f4 (sA c i) (putSlot nx)) (cA c j + 1) cnt.toNat (sA c i) = putSlot nx := by rw [upd_ne (by simp only [sA, cA]; omega), upd_self]
  generalize upd (upd f4 (sA c i) (putSlot nx)) (cA c j + 1) cnt.toNat = f6 at *
  have o' : ObjAt c f (slF c f i) j off := o.casesOn fun _ _ _ _ _ _ _ _ _ _ _ => by rw [hs]; exact o
  by_cases hl : ge < c.gens
  · have G6 : DFl e q 1 (.drop D5) m5 (.drop { D5 with give := some { give0 with slot := i }, pc := 6 }) m6 := Fl.one wf5 (by rw [st5, decide_eq_false (by omega)]) (M6.phi hp)
    obtain ⟨m7, s7, n7, ⟨k7, s71, m71, hk7, H71, H72, H73, H74⟩, M7⟩ := give_run hc hw M6 hp i0 i1
    have wfg : ∀ s : GiveS, DoerS.wfb e.c (.drop { D5 with give := some s, pc := 6 }) = true := fun s => rfl
    have stg : ∀ (s : GiveS) m b s1 m1, s.step e m = (b, s1, m1) → DoerS.step (.drop { D5 with give := some s, pc := 6 }) e m = (b, .drop { D5 with give := some s1, pc := 6 }, m1) := fun s m b s1 m1 hst => by
      simp only [DoerS.step, DropS.step, Option.getD_some, hst]
    have G7 := (H71.map (wf' := DoerS.wfb e.c) (step' := fun (d : DoerS) m => d.step e m) (fun s => DoerS.drop { D5 with give := some s, pc := 6 }) (fun s _ => wfg s) (fun s m s1 m1 hst => stg s m _ s1 m1 hst) (Φ' := Φq q) (fun _ h => h)).rn (Rn.last (wfg _) (stg _ _ _ _ _ H73) H74)
    refine ⟨1 + (1 + (1 + (2 * sz + (1 + (1 + (k7 + 1)))))), _, m7, _, by omega, G1.rn (G2.rn (G3.rn (G4.rn (G5.rn (G6.rn G7))))), M7, ⟨_, rfl⟩, ?_⟩
    refine freed_inv hc I i0 i1 o' (fun b h1 h2 h3 h4 h5 => ?_) ?_ ?_
    · rw [hs] at h5
      simp only [hx] at h5
      rw [upd_ne h1, upd_ne h3]; exact hrest6 b h2 h4 h5
    · rw [hs]; simp only [hnx]
      rw [upd_ne (by simp only [sA]; omega), upd_ne (by omega)]; exact hsl6
    · rw [hs, if_pos hl]
      refine ⟨by rw [upd_self]; exact topSlot_put (by omega) (by omega), ?_⟩
      have h1 : f6 1 = f 1 := hrest6 1 (by simp only [sA]; omega) (by simp only [cA]; omega) (by omega)
      have hh := headI_bd hc I.chain
      rw [upd_ne (by simp only [sA]; omega), upd_self, h1, I.top]
      exact topSlot_put hh.1 hh.2
  · have G6 : DRn e q 1 (.drop D5) m5 (.drop { D5 with give := some { give0 with slot := i }, pc := 6 }) m6 := Rn.last wf5 (by rw [st5, decide_eq_true (by omega)]) (M6.phi hp)
    refine ⟨1 + (1 + (1 + (2 * sz + (1 + 1)))), _, m6, _, by omega, G1.rn (G2.rn (G3.rn (G4.rn (G5.rn G6)))), M6, ⟨_, rfl⟩, ?_⟩
    refine freed_inv hc I i0 i1 o' (fun b h1 h2 h3 h4 h5 => ?_) ?_ ?_
    · rw [hs] at h5
      simp only [hx] at h5
      exact hrest6 b h2 h4 h5
    · rw [hs]; simp only [hnx]; exact hsl6
    · rw [hs, if_neg hl]
      exact hrest6 1 (by simp only [sA]; omega) (by simp only [cA]; omega) (by omega)
end
end Go.FL

