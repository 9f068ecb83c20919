/- Texts of one claim, laid into one: CG CH CI CJ CK CL CM CN CO CP CQ. -/
import Derived.Test.YtglghdjpkecngaaGreatXc
set_option linter.unusedVariables false
set_option linter.unusedSimpArgs false
/- The arena, alone: words are read and laid; what is not there; a whole act. -/
namespace Go.FL
open Go Go.SL

section
variable {c : Cfg} {f g : Int → Nat} {F : List Int} {m : MemS} {q : Int} {p : Nat} {e : EnvS}
theorem Hdl.cases {n : Nat} {i : Int} (H : Hdl c f n i) (I : Inv c f F) : ∃ j off, ObjAt c f (slF c f i) j off := by
  have hl := H.live
  rcases I.obj i H.i0 H.i1 with h | h | h
  · omega
  · omega
  · exact h
theorem acc_begin (hc : CfgOk c) (hw : Who c e q) (M : Mv m (bA c c.chunks) q p f) (hp : p ≠ 0) {n : Nat} {i j off : Int} {own : Bool} (H : Hdl c f n i) (o : ObjAt c f (slF c f i) j off) (us : (ckF c f j).used ≤ c.words)
    {x : WantS} (hx : x.handle = n) :
    ∃ sn m1 m2, DFl e q 1 (.access (newAccess x own)) m (.access { newAccess x own with h := ⟨i, (slF c f i).gen⟩, w := f (sA c i), seen := sn, pc := 1 }) m1 ∧
      eld e m1 (slF c f i).addr = (f (slF c f i).addr, m2) ∧ Mv m2 (bA c c.chunks) q p f := by
  have hL := bA_ge hc (j := c.chunks) (by have := hc.c0; omega)
  have hs0 := hc.s0
  have hs1 := hc.s1
  have ht0 := hc.t0
  have hc0 := hc.c0
  have hq0 := hw.q0
  have hq1 := hw.q1
  have i0 := H.i0
  have i1 := H.i1
  have hbd := o.bd hc us
  have hz0 := o.z0
  have hsA := slotA_eq hc (show -1 ≤ i by omega) (by omega)
  have hlv := H.live
  have hh := H.h
  obtain ⟨m1, e1, M1, -⟩ := M.ld e (a := sA c i) (by simp only [sA]; omega) (by simp only [sA]; omega) (by simp only [sA]; omega)
  obtain ⟨m2, e2, M2, -⟩ := M1.ld e (a := (slF c f i).addr) (by omega) (by omega) (by omega)
  refine ⟨m1.steps, m1, m2, Fl.one rfl ?_ (M1.phi hp), e2, M2⟩
  have hS : slotOf (f (sA c i)) = slF c f i := rfl
  simp only [DoerS.step, AccessS.step, newAccess, hx, hh, hw.ec]
  rw [if_neg (by simp; omega)]
  simp only [hsA, e1, hS, live, hlv]
  simp
theorem acc_read (hc : CfgOk c) (hw : Who c e q) (I : Inv c f F) (M : Mv m (bA c c.chunks) q p f) (hp : p ≠ 0) {n : Nat} {i j off k v : Int} {own : Bool} (H : Hdl c f n i) (o : ObjAt c f (slF c f i) j off)
    (hown : (hdF f (slF c f i).addr).own = own) {x : WantS} (hx : x.handle = n) (hk : x.index = k) (k0 : 0 ≤ k) (k1 : k < (hdF f (slF c f i).addr).size) (hv : (f ((slF c f i).addr + 1 + k) : Int) = v) :
    ∃ d m', DFl e q 3 (.access (newAccess x own)) m (.access d) m' ∧ Mv m' (bA c c.chunks) q p f ∧ d.x = x ∧ d.h = ⟨i, (slF c f i).gen⟩ ∧ d.w = f (sA c i) ∧ (d.cell : Int) = v ∧ d.out = ⟨0, 0, 0, 0⟩ ∧ cellOf d.cell = ⟨v, false, 0⟩ ∧
      d.pc = (if x.kind = 1 ∨ (x.kind = 3 ∧ v ≠ x.old) then 6 else 5) := by
  have hu := (I.chk j o.j0 o.j1).us
  obtain ⟨sn, m1, m2, G1, e2, M2⟩ := acc_begin (own := own) hc hw M hp H o hu hx
  have hbd := o.bd hc hu
  have hbd2 := bA_bd hc
  have hs0 := hc.s0
  have ht0 := hc.t0
  have hc0 := hc.c0
  have hq1 := hw.q1
  have hz0 := o.z0
  have hce := o.ce k k0 k1
  have hlv := o.live
  have hver := o.ver
  have hS : slotOf (f (sA c i)) = slF c f i := rfl
  have hH : headOf (f (slF c f i).addr) = hdF f (slF c f i).addr := rfl
  have G2 : DFl e q 1 (.access { newAccess x own with h := ⟨i, (slF c f i).gen⟩, w := f (sA c i), seen := sn, pc := 1 }) m1 (.access { newAccess x own with h := ⟨i, (slF c f i).gen⟩, w := f (sA c i), seen := sn, pc := 2, size := (hdF f (slF c f i).addr).size }) m2 := Fl.one rfl (by
    simp only [DoerS.step, AccessS.step, newAccess, hS, e2, hH, hown, hk]
    rw [if_neg (by simp), if_neg (by omega)]) (M2.phi hp)
  have hwa : w64 ((slF c f i).addr + 1 + k) = (slF c f i).addr + 1 + k := w64_id (by omega) (by omega)
  obtain ⟨m3, e3, M3, -⟩ := M2.ld e (a := (slF c f i).addr + 1 + k) (by omega) (by omega) (by omega)
  have hcl := cellOf_lt hce
  rw [hv] at hcl
  have hst2 : ¬ (slF c f i).state = 4 := by omega
  have hnx : ∀ (d : AccessS), d.cell = f ((slF c f i).addr + 1 + k) → d.w = f (sA c i) → d.x = x → d.next = if x.kind = 1 ∨ (x.kind = 3 ∧ v ≠ x.old) then 6 else 5 := fun d h1 h2 h3 => by
    simp only [AccessS.next, h1, h2, h3, hcl, hS]
    by_cases hb : x.kind = 1 ∨ (x.kind = 3 ∧ v ≠ x.old)
    · rw [if_pos hb, if_pos hb]
    · rw [if_neg hb, if_neg hb, if_neg hst2, if_pos (by simp)]
  have hpc : (if x.kind = 1 ∨ (x.kind = 3 ∧ v ≠ x.old) then 6 else 5) ≠ 4 := by split <;> simp
  refine ⟨{ newAccess x own with h := ⟨i, (slF c f i).gen⟩, w := f (sA c i), seen := sn, pc := (if x.kind = 1 ∨ (x.kind = 3 ∧ v ≠ x.old) then 6 else 5), size := (hdF f (slF c f i).addr).size, cell := f ((slF c f i).addr + 1 + k), read := m3.steps }, m3,
    G1.trans (G2.trans (Fl.one rfl ?_ (M3.phi hp))), M3, rfl, rfl, rfl, hv, rfl, hcl, rfl⟩
  simp only [DoerS.step, AccessS.step, newAccess, AccessS.at, hS, hk, hwa, e3]
  rw [hnx _ rfl rfl rfl, if_neg hpc]
theorem acc_look (hc : CfgOk c) (hw : Who c e q) (I : Inv c f F) (M : Mv m (bA c c.chunks) q p f) (hp : p ≠ 0) {n : Nat} {i j off k v : Int} {own : Bool} (H : Hdl c f n i) (o : ObjAt c f (slF c f i) j off)
    (hown : (hdF f (slF c f i).addr).own = own) {x : WantS} (hx : x.handle = n) (hk : x.index = k) (k0 : 0 ≤ k) (k1 : k < (hdF f (slF c f i).addr).size) (hv : (f ((slF c f i).addr + 1 + k) : Int) = v) (hkd : x.kind = 1 ∨ (x.kind = 3 ∧ v ≠ x.old)) :
    ∃ d' m', DRn e q 4 (.access (newAccess x own)) m d' m' ∧ Mv m' (bA c c.chunks) q p f ∧ ∃ s, d'.done = ⟨if x.kind = 3 then 8 else 0, 0, v, s⟩ := by
  obtain ⟨d, m1, G, M1, dx, dh, dw, dc, -, dcl, dpc⟩ := acc_read hc hw I M hp H o hown hx hk k0 k1 hv
  rw [if_pos hkd] at dpc
  have hL := bA_ge hc (j := c.chunks) (by have := hc.c0; omega)
  have hs0 := hc.s0
  have hs1 := hc.s1
  have ht0 := hc.t0
  have hc0 := hc.c0
  have hq0 := hw.q0
  have hq1 := hw.q1
  have i0 := H.i0
  have i1 := H.i1
  have hsA := slotA_eq hc (show -1 ≤ i by omega) (by omega)
  obtain ⟨m2, e2, M2, -⟩ := M1.ld e (a := sA c i) (by simp only [sA]; omega) (by simp only [sA]; omega) (by simp only [sA]; omega)
  have hS : slotOf (f (sA c i)) = slF c f i := rfl
  have hlv : live (slF c f i) ⟨i, (slF c f i).gen⟩ = true := by simp [live, H.live]
  refine ⟨.access { d with out := ⟨if x.kind = 3 then 8 else 0, 0, v, d.read⟩ }, m2, G.rn (Rn.last (by simp only [DoerS.wfb, dpc]) ?_ (M2.phi hp)), M2, _, rfl⟩
  simp only [DoerS.step, AccessS.step, dpc, dh, dx, dw, dcl, hw.ec, hsA, e2, hS, hlv]
  by_cases h3 : x.kind = 3
  · simp [h3]
  · simp [h3]
theorem acc_lay (hc : CfgOk c) (hw : Who c e q) (I : Inv c f F) (M : Mv m (bA c c.chunks) q p f) (hp : p ≠ 0) {n : Nat} {i j off k v : Int} {own : Bool} (H : Hdl c f n i) (o : ObjAt c f (slF c f i) j off)
    (hown : (hdF f (slF c f i).addr).own = own) {x : WantS} (hx : x.handle = n) (hk : x.index = k) (k0 : 0 ≤ k) (k1 : k < (hdF f (slF c f i).addr).size) (hv : (f ((slF c f i).addr + 1 + k) : Int) = v) (hkd : x.kind = 2 ∨ (x.kind = 3 ∧ v = x.old))
    (v0 : 0 ≤ x.value) (v1 : x.value ≤ 1099511627775) :
    ∃ d' m', DRn e q 4 (.access (newAccess x own)) m d' m' ∧ Mv m' (bA c c.chunks) q p (upd f ((slF c f i).addr + 1 + k) x.value.toNat) ∧ ∃ s, d'.done = ⟨0, 0, v, s⟩ := by
  obtain ⟨d, m1, G, M1, dx, dh, dw, dc, -, dcl, dpc⟩ := acc_read hc hw I M hp H o hown hx hk k0 k1 hv
  rw [if_neg (by rcases hkd with h | ⟨h, h2⟩ <;> simp [h] ; omega)] at dpc
  have hu := (I.chk j o.j0 o.j1).us
  have hbd := o.bd hc hu
  have hbd2 := bA_bd hc
  have hs0 := hc.s0
  have ht0 := hc.t0
  have hc0 := hc.c0
  have hq1 := hw.q1
  have hS : slotOf (f (sA c i)) = slF c f i := rfl
  have hwa : w64 ((slF c f i).addr + 1 + k) = (slF c f i).addr + 1 + k := w64_id (by omega) (by omega)
  obtain ⟨m2, e2, M2, -⟩ := M1.casT e (a := (slF c f i).addr + 1 + k) (old := d.cell) x.value.toNat (by omega) (by omega) (by omega) (by omega)
  refine ⟨.access { d with pc := 0, out := ⟨0, 0, v, m2.steps⟩ }, m2, G.rn (Rn.last (by simp only [DoerS.wfb, dpc]) ?_ (M2.phi hp)), M2, _, rfl⟩
  simp only [DoerS.step, AccessS.step, dpc, AccessS.at, dx, dw, hS, hk, hwa, putCell_plain v0 v1, e2, dcl, if_true]
/-- A word of an object is another one. -/
theorem lay_inv (hc : CfgOk c) (I : Inv c f F) {i j off k : Int} (i0 : 0 ≤ i) (i1 : i < c.slots) (o : ObjAt c f (slF c f i) j off) (k0 : 0 ≤ k) (k1 : k < (hdF f (slF c f i).addr).size) {w : Nat} (hw : w < 1099511627776) :
    Inv c (upd f ((slF c f i).addr + 1 + k) w) F ∧ (∀ x, 0 ≤ x → x < c.slots → slF c (upd f ((slF c f i).addr + 1 + k) w) x = slF c f x) := by
  have hu := (I.chk j o.j0 o.j1).us
  have hbd := o.bd hc hu
  have hs0 := hc.s0
  have ht0 := hc.t0
  have hc0 := hc.c0
  have hlv := o.live
  generalize hA : (slF c f i).addr + 1 + k = A at *
  have hsl : ∀ i, 0 ≤ i → i < c.slots → slF c (upd f A w) i = slF c f i := fun i' a b => by simp only [slF]; rw [upd_ne (by simp only [sA]; omega)]
  have hck : ∀ j, 0 ≤ j → j < c.chunks → ckF c (upd f A w) j = ckF c f j := fun i' a b => by simp only [ckF]; rw [upd_ne (by simp only [cA]; omega)]
  have hhd : ∀ x, 0 ≤ x → x < c.slots → (slF c f x).state = 1 → hdF (upd f A w) (slF c f x).addr = hdF f (slF c f x).addr := fun x a b s => by
    simp only [hdF]
    rw [upd_ne]
    by_cases hne : x = i
    · subst hne; omega
    · have hd := I.dis i x i0 i1 a b hlv s (Ne.symm hne)
      rcases I.obj x a b with h | h | ⟨j', off', o'⟩
      · omega
      · omega
      · have := o'.z0; omega
  refine ⟨⟨by rw [upd_ne (by omega)]; exact I.ep, by rw [upd_ne (by omega)]; exact I.top, I.chain.congr fun x hx => ?_, I.nodup, fun x hx => ?_, fun x a b => by rw [hsl x a b]; exact I.gen x a b, fun x a b => ?_, fun x y a b a' b' s s' hne => ?_, fun x a b => ?_, fun k' a b => ?_⟩, fun i a b => ?_⟩
  · have hm := I.chain.mem x hx
    exact upd_ne (by simp only [sA]; omega)
  · have hm := I.chain.mem x hx
    rw [hsl x hm.1 hm.2]; exact I.fst x hx
  · rw [hsl x a b]
    rcases I.obj x a b with h | h | ⟨j', off', o'⟩
    · exact .inl h
    · exact .inr (.inl h)
    · refine .inr (.inr ⟨j', off', o'.j0, o'.j1, o'.o0, o'.ad, by rw [hck j' o'.j0 o'.j1]; exact o'.st, by rw [hhd x a b o'.live]; exact o'.z0, by rw [hhd x a b o'.live]; exact o'.z1, by rw [hhd x a b o'.live, hck j' o'.j0 o'.j1]; exact o'.us, fun t t0 t1 => ?_, o'.ver, o'.live⟩)
      rw [hhd x a b o'.live] at t1
      have := o'.ce t t0 t1
      simp only [upd]
      split
      · exact hw
      · exact this
  · rw [hsl x a b] at s ⊢
    rw [hsl y a' b'] at s' ⊢
    rw [hhd x a b s, hhd y a' b' s']
    exact I.dis x y a b a' b' s s' hne
  · have C := I.chk x a b
    refine ⟨by rw [hck x a b]; exact C.st, by rw [hck x a b]; exact C.us, fun off' o0 o1 => ?_⟩
    rw [hck x a b] at o0
    have hap := ObjAt.apart hc I o a b rfl
    rw [upd_ne (by omega)]
    exact C.ze off' o0 o1
  · rw [upd_ne (by omega)]
    rcases I.opn k' a b with h | ⟨j', a0, a1, a2, a3, a4⟩
    · exact .inl h
    · exact .inr ⟨j', a0, a1, a2, by rw [hck j' a0 a1]; exact a3, by rw [hck j' a0 a1]; exact a4⟩
  · exact hsl i a b
/-- A number by which no object lives. -/
def Dead (c : Cfg) (f : Int → Nat) (n : Nat) : Prop := (handleOf n).2 = false ∨ (handleOf n).1.slot ≥ c.slots ∨ live (slF c f (handleOf n).1.slot) (handleOf n).1 = false
theorem handleOf_nn (n : Nat) : 0 ≤ (handleOf n).1.slot := by
  unfold handleOf
  split
  · exact Int.le_refl _
  · exact Int.natCast_nonneg _
theorem dead_or (I : Inv c f F) (n : Nat) : Dead c f n ∨ ∃ i, Hdl c f n i := by
  by_cases h1 : (handleOf n).2 = false
  · exact .inl (.inl h1)
  by_cases h2 : (handleOf n).1.slot ≥ c.slots
  · exact .inl (.inr (.inl h2))
  cases h3 : live (slF c f (handleOf n).1.slot) (handleOf n).1 with
  | false => exact .inl (.inr (.inr h3))
  | true =>
    right
    have h0 := handleOf_nn n
    simp only [live, Bool.and_eq_true, decide_eq_true_eq] at h3
    refine ⟨(handleOf n).1.slot, ?_, h0, by omega, ?_⟩
    · rw [h3.2]; simp only [Bool.not_eq_false] at h1; rw [← h1]
    · rcases I.obj _ h0 (by omega : (handleOf n).1.slot < c.slots) with h | h | ⟨j, off, o⟩
      · simp [h] at h3
      · simp [h] at h3
      · exact o.live
theorem Dead.not {n : Nat} {i : Int} (h : Dead c f n) (H : Hdl c f n i) : False := by
  have hh := H.h
  have h1 := H.i1
  have hl := H.live
  rcases h with h | h | h
  · rw [hh] at h; cases h
  · rw [hh] at h; simp only at h; omega
  · rw [hh] at h; simp [live, hl] at h
theorem acc_dead (hc : CfgOk c) (hw : Who c e q) (M : Mv m (bA c c.chunks) q p f) (hp : p ≠ 0) {n : Nat} {own : Bool} {x : WantS} (hx : x.handle = n) (hd : Dead c f n) :
    ∃ d' m', DRn e q 1 (.access (newAccess x own)) m d' m' ∧ Mv m' (bA c c.chunks) q p f ∧ ∃ s, d'.done = ⟨3, 0, 0, s⟩ := by
  have hL := bA_ge hc (j := c.chunks) (by have := hc.c0; omega)
  have hs1 := hc.s1
  have ht0 := hc.t0
  have hq1 := hw.q1
  have hq0 := hw.q0
  have h0 := handleOf_nn n
  by_cases hb : (handleOf n).2 = false ∨ (handleOf n).1.slot ≥ c.slots
  · refine ⟨.access { newAccess x own with h := (handleOf n).1, out := ⟨3, 0, 0, m.steps⟩ }, m, Rn.last rfl ?_ (M.phi hp), M, _, rfl⟩
    simp only [DoerS.step, AccessS.step, newAccess, hx, hw.ec]
    rw [if_pos hb]
  · have hb2 : (handleOf n).1.slot < c.slots := by have := (not_or.1 hb).2; omega
    have hs0 := hc.s0
    have hc0 := hc.c0
    have hsA := slotA_eq hc (show -1 ≤ (handleOf n).1.slot by omega) (by omega)
    obtain ⟨m1, e1, M1, -⟩ := M.ld e (a := sA c (handleOf n).1.slot) (by simp only [sA]; omega) (by simp only [sA]; omega) (by simp only [sA]; omega)
    have hlv : live (slotOf (f (sA c (handleOf n).1.slot))) (handleOf n).1 = false := by
      rcases hd with h | h | h
      · exact absurd (.inl h) hb
      · exact absurd (.inr h) hb
      · exact h
    refine ⟨.access { newAccess x own with h := (handleOf n).1, w := f (sA c (handleOf n).1.slot), seen := m1.steps, pc := 1, out := ⟨3, 0, 0, m1.steps⟩ }, m1, Rn.last rfl ?_ (M1.phi hp), M1, _, rfl⟩
    simp only [DoerS.step, AccessS.step, newAccess, hx, hw.ec]
    rw [if_neg hb]
    simp only [hsA, e1, hlv]
    simp
theorem drop_dead (hc : CfgOk c) (hw : Who c e q) (M : Mv m (bA c c.chunks) q p f) (hp : p ≠ 0) {n : Nat} {own : Bool} (hd : Dead c f n) :
    ∃ d' m', DRn e q 1 (.drop (newDrop n own)) m d' m' ∧ Mv m' (bA c c.chunks) q p f ∧ ∃ s, d'.done = ⟨3, 0, 0, s⟩ := by
  have hL := bA_ge hc (j := c.chunks) (by have := hc.c0; omega)
  have hs1 := hc.s1
  have ht0 := hc.t0
  have hq1 := hw.q1
  have hq0 := hw.q0
  have h0 := handleOf_nn n
  by_cases hb : (handleOf n).2 = false ∨ (handleOf n).1.slot ≥ c.slots
  · refine ⟨.drop { newDrop n own with h := (handleOf n).1, out := ⟨3, 0, 0, m.steps⟩ }, m, Rn.last rfl ?_ (M.phi hp), M, _, rfl⟩
    simp only [DoerS.step, DropS.step, newDrop, hw.ec]
    rw [if_pos hb]
  · have hb2 : (handleOf n).1.slot < c.slots := by have := (not_or.1 hb).2; omega
    have hs0 := hc.s0
    have hc0 := hc.c0
    have hsA := slotA_eq hc (show -1 ≤ (handleOf n).1.slot by omega) (by omega)
    obtain ⟨m1, e1, M1, -⟩ := M.ld e (a := sA c (handleOf n).1.slot) (by simp only [sA]; omega) (by simp only [sA]; omega) (by simp only [sA]; omega)
    have hlv : live (slotOf (f (sA c (handleOf n).1.slot))) (handleOf n).1 = false := by
      rcases hd with h | h | h
      · exact absurd (.inl h) hb
      · exact absurd (.inr h) hb
      · exact h
    refine ⟨.drop { newDrop n own with h := (handleOf n).1, w := f (sA c (handleOf n).1.slot), out := ⟨3, 0, 0, m1.steps⟩ }, m1, Rn.last rfl ?_ (M1.phi hp), M1, _, rfl⟩
    simp only [DoerS.step, DropS.step, newDrop, hw.ec]
    rw [if_neg hb]
    simp only [hsA, e1, hlv]
    simp
theorem acc_bad (hc : CfgOk c) (hw : Who c e q) (I : Inv c f F) (M : Mv m (bA c c.chunks) q p f) (hp : p ≠ 0) {n : Nat} {i : Int} {own : Bool} (H : Hdl c f n i) {x : WantS} (hx : x.handle = n)
    (hb : (hdF f (slF c f i).addr).own ≠ own ∨ x.index < 0 ∨ x.index ≥ (hdF f (slF c f i).addr).size) :
    ∃ d' m', DRn e q 2 (.access (newAccess x own)) m d' m' ∧ Mv m' (bA c c.chunks) q p f ∧ ∃ s, d'.done = ⟨if (hdF f (slF c f i).addr).own ≠ own then 3 else 4, 0, 0, s⟩ := by
  obtain ⟨j, off, o⟩ := H.cases I
  have hu := (I.chk j o.j0 o.j1).us
  have hS : slotOf (f (sA c i)) = slF c f i := rfl
  have hH : headOf (f (slF c f i).addr) = hdF f (slF c f i).addr := rfl
  obtain ⟨sn, m1, m2, G1, e2, M2⟩ := acc_begin (own := own) hc hw M hp H o hu hx
  by_cases ho : (hdF f (slF c f i).addr).own = own
  · refine ⟨_, m2, G1.rn (Rn.last rfl (s' := .access { newAccess x own with h := ⟨i, (slF c f i).gen⟩, w := f (sA c i), seen := sn, pc := 2, size := (hdF f (slF c f i).addr).size, out := ⟨4, 0, 0, sn⟩ }) ?_ (M2.phi hp)), M2, sn, by rw [if_neg (by simp [ho])]; rfl⟩
    simp only [DoerS.step, AccessS.step, newAccess, hS, e2, hH]
    rw [if_neg (by simp [ho]), if_pos (hb.resolve_left fun h => h ho)]
  · refine ⟨_, m2, G1.rn (Rn.last rfl (s' := .access { newAccess x own with h := ⟨i, (slF c f i).gen⟩, w := f (sA c i), seen := sn, pc := 2, size := (hdF f (slF c f i).addr).size, out := ⟨3, 0, 0, m2.steps⟩ }) ?_ (M2.phi hp)), M2, m2.steps, by rw [if_pos ho]; rfl⟩
    simp only [DoerS.step, AccessS.step, newAccess, hS, e2, hH]
    rw [if_pos ho]
theorem drop_bad (hc : CfgOk c) (hw : Who c e q) (I : Inv c f F) (M : Mv m (bA c c.chunks) q p f) (hp : p ≠ 0) {n : Nat} {i : Int} {own : Bool} (H : Hdl c f n i) (hb : (hdF f (slF c f i).addr).own ≠ own) :
    ∃ d' m', DRn e q 2 (.drop (newDrop n own)) m d' m' ∧ Mv m' (bA c c.chunks) q p f ∧ ∃ s, d'.done = ⟨3, 0, 0, s⟩ := by
  obtain ⟨j, off, o⟩ := H.cases I
  have hbd := o.bd hc (I.chk j o.j0 o.j1).us
  have hz0 := o.z0
  have hL := bA_ge hc (j := c.chunks) (by have := hc.c0; omega)
  have hs0 := hc.s0
  have hs1 := hc.s1
  have ht0 := hc.t0
  have hc0 := hc.c0
  have hq0 := hw.q0
  have hq1 := hw.q1
  have i0 := H.i0
  have i1 := H.i1
  have hlv := H.live
  have hh := H.h
  have hsA := slotA_eq hc (show -1 ≤ i by omega) (by omega)
  have hS : slotOf (f (sA c i)) = slF c f i := rfl
  have hH : headOf (f (slF c f i).addr) = hdF f (slF c f i).addr := rfl
  obtain ⟨m1, e1, M1, -⟩ := M.ld e (a := sA c i) (by simp only [sA]; omega) (by simp only [sA]; omega) (by simp only [sA]; omega)
  obtain ⟨m2, e2, M2, -⟩ := M1.ld e (a := (slF c f i).addr) (by omega) (by omega) (by omega)
  have G1 : DFl e q 1 (.drop (newDrop n own)) m (.drop { newDrop n own with h := ⟨i, (slF c f i).gen⟩, w := f (sA c i), pc := 1 }) m1 := Fl.one rfl (by
    simp only [DoerS.step, DropS.step, newDrop, hh, hw.ec]
    rw [if_neg (by simp; omega)]
    simp only [hsA, e1, hS, live, hlv]
    simp) (M1.phi hp)
  refine ⟨.drop { newDrop n own with h := ⟨i, (slF c f i).gen⟩, w := f (sA c i), pc := 1, out := ⟨3, 0, 0, m2.steps⟩ }, m2, G1.rn (Rn.last rfl ?_ (M2.phi hp)), M2, _, rfl⟩
  simp only [DoerS.step, DropS.step, newDrop, hS, e2, hH]
  rw [if_pos hb]

/-! A whole act. -/
def Ψq (c : Cfg) (q : Int) : MemS → Prop := fun m => ofA c m.la < 0 ∨ (m.at q).1 ≠ 0
abbrev AFl (e : EnvS) (q : Int) := Fl (ActS.wfb e.c) (fun (a : ActS) m => a.step e m) (Ψq e.c q)
abbrev ARn (e : EnvS) (q : Int) := Rn (ActS.wfb e.c) (fun (a : ActS) m => a.step e m) (Ψq e.c q)
theorem inc_ne (h : f 0 < 9223372036854775808) : inc64 (f 0) ≠ 0 := by unfold inc64; omega
theorem act_run (hc : CfgOk c) (hw : Who c e q) (M : Mv m (bA c c.chunks) q 0 f) {x : ActX} {N : Nat} {R : DoneS → (Int → Nat) → Prop}
    (h : ∀ m1, Mv m1 (bA c c.chunks) q (inc64 (f 0)) f → ∃ n d' m2 g, n ≤ N ∧ DRn e q n (doerOf x) m1 d' m2 ∧ Mv m2 (bA c c.chunks) q (inc64 (f 0)) g ∧ R d'.done g) :
    ∃ n a' m3 g, n ≤ N + 4 ∧ ARn e q n (newAct x) m a' m3 ∧ Mv m3 (bA c c.chunks) q 0 g ∧ R a'.out g := by
  have hL := bA_ge hc (j := c.chunks) (by have := hc.c0; omega)
  have hs0 := hc.s0
  have ht0 := hc.t0
  have hc0 := hc.c0
  have hq0 := hw.q0
  have hq1 := hw.q1
  have hlo : ∀ a, a < 6 + c.threads → ofA e.c a < 0 := fun a ha => by rw [hw.ec, ofA_lo hc (by omega)]; omega
  obtain ⟨m1, e1, M1, l1⟩ := M.ld e (a := 0) (by omega) (by omega) (by omega)
  have M2 := M1.pinned e (inc64 (f 0))
  obtain ⟨m3, e3, M3, l3⟩ := M2.1.ld e (a := 0) (by omega) (by omega) (by omega)
  obtain ⟨n, d', m4, g, hn, ⟨k, d1, m41, rfl, H1, H2, H3, H4⟩, M4, hR⟩ := h m3 M3
  have M5 := M4.pinned e 0
  let A : ActS := ⟨⟨2, f 0⟩, 1, doerOf x, ⟨0, 0, 0, 0⟩⟩
  have G1 : AFl e q 3 (newAct x) m A m3 := .cons rfl (s1 := ⟨⟨1, f 0⟩, 0, doerOf x, ⟨0, 0, 0, 0⟩⟩) (m1 := m1) (by simp [ActS.step, newAct, InS.step, e1]) (.inl (by rw [l1]; exact hlo 0 (by omega)))
    (.cons rfl (s1 := ⟨⟨2, f 0⟩, 0, doerOf x, ⟨0, 0, 0, 0⟩⟩) (m1 := est e m1 q (inc64 (f 0))) (by simp [ActS.step, InS.step, hw.qe]) (.inl (by rw [M2.2]; exact hlo q (by omega)))
      (.cons rfl (s1 := A) (m1 := m3) (by simp [ActS.step, InS.step, e3, A]) (.inl (by rw [l3]; exact hlo 0 (by omega))) .nil))
  have wfd : ∀ d : DoerS, DoerS.wfb e.c d = true → ActS.wfb e.c { A with work := d } = true := fun d hd => hd
  have G2 := H1.map (wf' := ActS.wfb e.c) (step' := fun (a : ActS) m => a.step e m) (fun d => { A with work := d }) wfd (fun s m s1 m1 hst => by simp [ActS.step, A, hst]) (Φ' := Ψq e.c q) (fun _ h => .inr h)
  have G3 : AFl e q 1 { A with work := d1 } m41 { A with work := d', out := d'.done, pc := 2 } m4 := Fl.one (wfd _ H2) (by simp [ActS.step, A, H3]) (.inr H4)
  have G4 : ARn e q 1 { A with work := d', out := d'.done, pc := 2 } m4 { A with work := d', out := d'.done, pc := 2 } (est e m4 q 0) := Rn.last rfl (by simp [ActS.step, outStep, hw.qe]) (.inl (by rw [M5.2]; exact hlo q (by omega)))
  exact ⟨3 + (k + (1 + 1)), _, _, g, by omega, G1.rn (G2.rn (G3.rn G4)), M5.1, hR⟩
end
end Go.FL

/- The arena, alone: nodes of a list; acts on them; steps of a list made of acts. -/
namespace Go.FL
open Go Go.SL

section
variable {c : Cfg} {f g : Int → Nat} {F : List Int} {m : MemS} {q : Int} {e : EnvS}
abbrev sot (h : Nat) : Int := (handleOf h).1.slot
def adr (c : Cfg) (f : Int → Nat) (h : Nat) : Int := (slF c f (sot h)).addr
/-- A node: its handle, its key, the next one's handle (or what else stands in its link). -/
structure Node (c : Cfg) (f : Int → Nat) (h : Nat) (k : Int) (nx : Nat) : Prop where
  H : Hdl c f h (sot h)
  own : (hdF f (adr c f h)).own = true
  size : (hdF f (adr c f h)).size = 2
  key : (f (adr c f h + 1) : Int) = k
  nx : f (adr c f h + 2) = nx
theorem Node.bd {h : Nat} {k : Int} {nx : Nat} (N : Node c f h k nx) : 65536 ≤ h ∧ h < 4294967296 := by
  obtain ⟨h1, h2, h3, h4, h5⟩ := putHandle_of N.H.h
  rw [h1, putHandle_eq, fitN_eq (by simp only; omega) (by simp only; omega), fitN_eq (by simp only; omega) (by simp only; omega)]
  simp only
  omega
theorem Node.frame {h : Nat} {k : Int} {nx : Nat} (N : Node c f h k nx) (hs : slF c g (sot h) = slF c f (sot h)) (hb : ∀ b, adr c f h ≤ b → b ≤ adr c f h + 2 → g b = f b) : Node c g h k nx := by
  have ha : adr c g h = adr c f h := by simp only [adr, hs]
  have hh : hdF g (adr c f h) = hdF f (adr c f h) := by simp only [hdF]; rw [hb _ (by omega) (by omega)]
  refine ⟨⟨by rw [hs]; exact N.H.h, N.H.i0, N.H.i1, by rw [hs]; exact N.H.live⟩, by rw [ha, hh]; exact N.own, by rw [ha, hh]; exact N.size, ?_, ?_⟩
  · rw [ha, hb _ (by omega) (by omega)]; exact N.key
  · rw [ha, hb _ (by omega) (by omega)]; exact N.nx
theorem Node.relink {h : Nat} {k : Int} {nx nx' : Nat} (N : Node c f h k nx) (hs : slF c g (sot h) = slF c f (sot h)) (hb : ∀ b, adr c f h ≤ b → b ≤ adr c f h + 1 → g b = f b) (hn : g (adr c f h + 2) = nx') : Node c g h k nx' := by
  have ha : adr c g h = adr c f h := by simp only [adr, hs]
  have hh : hdF g (adr c f h) = hdF f (adr c f h) := by simp only [hdF]; rw [hb _ (by omega) (by omega)]
  refine ⟨⟨by rw [hs]; exact N.H.h, N.H.i0, N.H.i1, by rw [hs]; exact N.H.live⟩, by rw [ha, hh]; exact N.own, by rw [ha, hh]; exact N.size, ?_, ?_⟩
  · rw [ha, hb _ (by omega) (by omega)]; exact N.key
  · rw [ha]; exact hn
/-- Two nodes lie apart. -/
theorem Node.apart {h h' : Nat} {k k' : Int} {nx nx' : Nat} (I : Inv c f F) (N : Node c f h k nx) (N' : Node c f h' k' nx') (hne : h ≠ h') : sot h ≠ sot h' ∧ (adr c f h + 2 < adr c f h' ∨ adr c f h' + 2 < adr c f h) := by
  have hs : sot h ≠ sot h' := fun he => by
    have h1 := N.H.h
    have h2 := N'.H.h
    rw [← he] at h2
    obtain ⟨e1, _⟩ := putHandle_of h1
    obtain ⟨e2, _⟩ := putHandle_of h2
    exact hne (e1.trans e2.symm)
  have hd := I.dis _ _ N.H.i0 N.H.i1 N'.H.i0 N'.H.i1 N.H.live N'.H.live hs
  have h1 := N.size
  have h2 := N'.size
  simp only [adr] at h1 h2 ⊢
  rw [h1, h2] at hd
  exact ⟨hs, hd⟩
def firstOr : List (Nat × Int) → Nat → Nat
  | [], e => e
  | x :: _, _ => x.1
/-- Nodes, each of which leads to the next one; the last one to e. -/
def Chn (c : Cfg) (f : Int → Nat) : List (Nat × Int) → Nat → Prop
  | [], _ => True
  | x :: r, e => Node c f x.1 x.2 (firstOr r e) ∧ Chn c f r e
theorem firstOr_append (xs ys : List (Nat × Int)) (e : Nat) : firstOr (xs ++ ys) e = firstOr xs (firstOr ys e) := by cases xs <;> rfl
theorem Chn.append : ∀ {xs ys : List (Nat × Int)} {e : Nat}, Chn c f (xs ++ ys) e ↔ Chn c f xs (firstOr ys e) ∧ Chn c f ys e
  | [], ys, e => by simp [Chn]
  | x :: xs, ys, e => by
    simp only [List.cons_append, Chn, firstOr_append, Chn.append (xs := xs)]
    exact and_assoc.symm
theorem Chn.node : ∀ {xs : List (Nat × Int)} {e : Nat}, Chn c f xs e → ∀ x ∈ xs, ∃ nx, Node c f x.1 x.2 nx
  | y :: xs, e, h, x, hx => by
    rcases List.mem_cons.1 hx with rfl | hx
    · exact ⟨_, h.1⟩
    · exact Chn.node h.2 x hx
theorem Chn.frame : ∀ {xs : List (Nat × Int)} {e : Nat}, Chn c f xs e → (∀ x ∈ xs, slF c g (sot x.1) = slF c f (sot x.1) ∧ ∀ b, adr c f x.1 ≤ b → b ≤ adr c f x.1 + 2 → g b = f b) → Chn c g xs e
  | [], _, _, _ => trivial
  | x :: xs, e, h, hf => ⟨h.1.frame (hf x (by simp)).1 (hf x (by simp)).2, Chn.frame h.2 fun y hy => hf y (by simp [hy])⟩

/-! Links. -/
theorem u64i_nat {n : Nat} (h : n < 18446744073709551616) : u64i (n : Int) = n := by unfold u64i; omega
theorem linkNext_nat {n : Nat} (h : n < 4294967296) : linkNext (n : Int) = n := by
  simp only [linkNext, u64i_nat (show n < 18446744073709551616 by omega), m32]; omega
theorem linkGone_nat {n : Nat} (h : n < 4294967296) : linkGone (n : Int) = false := by
  have e : n &&& 4294967296 = 0 := by
    apply Nat.eq_of_testBit_eq
    intro i
    rw [show (4294967296 : Nat) = 2 ^ 32 by decide, Nat.testBit_and, Nat.testBit_two_pow]
    by_cases hi : 32 = i
    · subst hi; rw [Nat.testBit_lt_two_pow (by omega)]; simp
    · simp [hi]
  simp only [linkGone, u64i_nat (show n < 18446744073709551616 by omega), e]; rfl
theorem putLink_nat {n : Nat} (h : n < 4294967296) : putLink n false = n := by
  simp only [putLink, m32, Bool.false_eq_true, if_false]; omega
theorem or_gone {n : Nat} (h : n < 4294967296) : arith .or .i64 (n : Int) 4294967296 = ((n + 4294967296 : Nat) : Int) := by
  have e := orNo (a := n) (k := 4294967296) (by omega) (by omega)
  rw [e]
  have := or_shl n 1 32 (by omega)
  rw [show (1 : Nat) <<< 32 = 4294967296 by decide] at this
  rw [this, Nat.one_mul]
theorem w64_nat {n : Nat} (h : n < 9223372036854775808) : IntKind.i64.wrap (n : Int) = n := w64_id (by omega) (by omega)

/-! Acts on nodes. -/
theorem doerOf_acc {x : ActX} {k : Int} (h : x.kind = k + 2) (k0 : 1 ≤ k) (k1 : k ≤ 3) : doerOf x = .access (newAccess ⟨k, x.handle, x.index, x.value, x.old⟩ x.own) := by
  have e : w64 (w64 (x.kind - 3) + 1) = k := by
    show IntKind.i64.wrap (IntKind.i64.wrap _ + 1) = k
    rw [w64_id (z := x.kind - 3) (by omega) (by omega), w64_id (by omega) (by omega)]; omega
  simp only [doerOf]
  rw [if_neg (by omega), if_neg (by omega), e]
theorem nd_read (hc : CfgOk c) (hw : Who c e q) (I : Inv c f F) (M : Mv m (bA c c.chunks) q 0 f) {h : Nat} {k : Int} {nx : Nat} (N : Node c f h k nx) {x : ActX} (hx : x.kind = 3) (hh : x.handle = h) (ho : x.own = true) {t v : Int} (ht : x.index = t) (htv : (t = 0 ∧ v = k) ∨ (t = 1 ∧ v = nx)) :
    ∃ n a' m', n ≤ 8 ∧ ARn e q n (newAct x) m a' m' ∧ Mv m' (bA c c.chunks) q 0 f ∧ ∃ s, a'.out = ⟨0, 0, v, s⟩ := by
  obtain ⟨j, off, o⟩ := N.H.cases I
  obtain ⟨n, a', m', g, hn, h1, h2, h3, rfl⟩ := act_run hc hw M (x := x) (N := 4) (R := fun d g => (∃ s, d = ⟨0, 0, v, s⟩) ∧ g = f) (fun m1 M1 => by
    rw [doerOf_acc (k := 1) (by omega) (by omega) (by omega), ho]
    have hsz : (hdF f (slF c f (sot h)).addr).size = 2 := N.size
    have hvv : (f ((slF c f (sot h)).addr + 1 + t) : Int) = v := by
      have hk := N.key
      have hn := N.nx
      simp only [adr] at hk hn
      rcases htv with ⟨rfl, rfl⟩ | ⟨rfl, rfl⟩
      · rw [Int.add_zero]; exact hk
      · rw [show (slF c f (sot h)).addr + 1 + 1 = (slF c f (sot h)).addr + 2 by omega, hn]
    obtain ⟨d', m2, g1, g2, s, g3⟩ := acc_look hc hw I M1 (inc_ne I.ep) N.H o N.own (x := ⟨1, x.handle, x.index, x.value, x.old⟩) hh ht (by omega) (by omega) hvv (.inl rfl)
    exact ⟨4, d', m2, f, Nat.le_refl _, g1, g2, ⟨s, g3⟩, rfl⟩)
  exact ⟨n, a', m', hn, h1, h2, h3⟩
theorem nd_write (hc : CfgOk c) (hw : Who c e q) (I : Inv c f F) (M : Mv m (bA c c.chunks) q 0 f) {h : Nat} {k : Int} {nx : Nat} (N : Node c f h k nx) {x : ActX} (hh : x.handle = h) (ho : x.own = true) {t w : Int} (ht : x.index = t) (t0 : 0 ≤ t) (t1 : t < 2)
    (hx : x.kind = 4 ∨ (x.kind = 5 ∧ t = 1 ∧ x.old = nx)) (hwv : x.value = w) (w0 : 0 ≤ w) (w1 : w ≤ 1099511627775) :
    ∃ n a' m', n ≤ 8 ∧ ARn e q n (newAct x) m a' m' ∧ Mv m' (bA c c.chunks) q 0 (upd f (adr c f h + 1 + t) w.toNat) ∧ ∃ v s, a'.out = ⟨0, 0, v, s⟩ := by
  obtain ⟨j, off, o⟩ := N.H.cases I
  obtain ⟨n, a', m', g, hn, h1, h2, h3, rfl⟩ := act_run hc hw M (x := x) (N := 4) (R := fun d g => (∃ v s, d = ⟨0, 0, v, s⟩) ∧ g = upd f (adr c f h + 1 + t) w.toNat) (fun m1 M1 => by
    have hsz : (hdF f (slF c f (sot h)).addr).size = 2 := N.size
    have hk : x.kind = 4 ∨ x.kind = 5 := by omega
    rw [doerOf_acc (k := x.kind - 2) (by omega) (by omega) (by omega), ho]
    obtain ⟨d', m2, g1, g2, s, g3⟩ := acc_lay hc hw I M1 (inc_ne I.ep) N.H o N.own (x := ⟨x.kind - 2, x.handle, x.index, x.value, x.old⟩) hh ht (by omega) (by omega) rfl (by
      rcases hx with hx | ⟨hx, rfl, hold⟩
      · left; simp only; omega
      · right; refine ⟨by simp only; omega, ?_⟩
        have hn := N.nx
        simp only [adr] at hn
        rw [show (slF c f (sot h)).addr + 1 + 1 = (slF c f (sot h)).addr + 2 by omega, hn]; exact hold.symm) (by simp only; omega) (by simp only; omega)
    simp only [hwv] at g2
    exact ⟨4, d', m2, _, Nat.le_refl _, g1, g2, ⟨_, s, g3⟩, rfl⟩)
  exact ⟨n, a', m', hn, h1, h2, h3⟩
/-- A node's word being another one, the arena is as it must be. -/
theorem nd_inv (hc : CfgOk c) (I : Inv c f F) {h : Nat} {k : Int} {nx : Nat} (N : Node c f h k nx) {t : Int} (t0 : 0 ≤ t) (t1 : t < 2) {w : Nat} (hw : w < 1099511627776) :
    Inv c (upd f (adr c f h + 1 + t) w) F ∧ ∀ x, 0 ≤ x → x < c.slots → slF c (upd f (adr c f h + 1 + t) w) x = slF c f x := by
  obtain ⟨j, off, o⟩ := N.H.cases I
  have hs := N.size
  exact lay_inv hc I N.H.i0 N.H.i1 o t0 (by simp only [adr] at hs; omega) hw

/-! Steps of a list. -/
abbrev LFl (e : EnvS) (q : Int) := Fl (ListS.wfb e.c) (fun (s : ListS) m => s.step e m) (Ψq e.c q)
abbrev LRn (e : EnvS) (q : Int) := Rn (ListS.wfb e.c) (fun (s : ListS) m => s.step e m) (Ψq e.c q)
def LRb (e : EnvS) (q : Int) (b : Bool) (n : Nat) (s : ListS) (m : MemS) (s' : ListS) (m' : MemS) : Prop :=
  match b with
  | true => LRn e q n s m s' m'
  | false => LFl e q n s m s' m'
theorem LRb.pre {b : Bool} {n k : Nat} {s s1 s2 : ListS} {m m1 m2 : MemS} (h : LFl e q n s m s1 m1) (g : LRb e q b k s1 m1 s2 m2) : LRb e q b (n + k) s m s2 m2 := by
  cases b with
  | true => exact h.rn g
  | false => exact h.trans g
theorem list_act {s s1 : ListS} {b : Bool} {n : Nat} {a' : ActS} {m' : MemS} (ha : s.a = none) (hk : checkAct s.want = true) (H : ARn e q n (newAct s.want) m a' m') (haf : s.after a'.out = (b, s1)) : LRb e q b n s m s1 m' := by
  obtain ⟨k, a1, m1, rfl, H1, H2, H3, H4⟩ := H.ex
  have hs0 : ({ s with a := none } : ListS) = s := by cases s; simp only at ha; subst ha; rfl
  have hno : ListS.wfb e.c s = true := by simp [ListS.wfb, ha]
  have acts : s.acts = some (newAct s.want) := by simp [ListS.acts, ha, hk]
  have stp : ∀ (t : ListS) (a a1 : ActS) m m1, t.acts = some a → ({ t with a := none } : ListS) = s → a.step e m = (false, a1, m1) → t.step e m = (false, { s with a := some a1 }, m1) := fun t a a1 m m1 h1 h2 h3 => by
    simp only [ListS.step, h1, h3]
    rw [← h2]; rfl
  have stl : ∀ (t : ListS) (a a1 : ActS) m m1, t.acts = some a → ({ t with a := none } : ListS) = s → a.step e m = (true, a1, m1) → t.step e m = ((s.after a1.out).1, (s.after a1.out).2, m1) := fun t a a1 m m1 h1 h2 h3 => by
    simp only [ListS.step, h1, h3]
    rw [h2]; rfl
  have hs1 : ∀ a : ActS, ({ ({ s with a := some a } : ListS) with a := none } : ListS) = s := fun a => hs0
  have fin : ∀ (t : ListS) m2, ListS.wfb e.c t = true → t.step e m2 = (b, s1, m') → LRb e q b 1 t m2 s1 m' := fun t m2 h1 h2 => by
    cases b with
    | true => exact Rn.last h1 h2 H4
    | false => exact Fl.one h1 h2 H4
  cases H1 with
  | nil => exact fin s m hno (by rw [stl s _ _ _ _ acts hs0 H3, haf])
  | cons h1 h2 h3 h4 =>
    rename_i k a2 m2
    have G := h4.map (wf' := ListS.wfb e.c) (step' := fun (t : ListS) m => t.step e m) (fun a => { s with a := some a }) (fun a ha => ha) (fun a m a1 m1 hst => stp _ a a1 m m1 rfl (hs1 a) hst) (Φ' := Ψq e.c q) (fun _ h => h)
    have G0 : LFl e q 1 s m { s with a := some a2 } m2 := Fl.one hno (stp s _ _ _ _ acts hs0 h2) h3
    have := LRb.pre G0 (LRb.pre G (fin { s with a := some a1 } _ H2 (by rw [stl _ a1 _ _ _ rfl (hs1 a1) H3, haf])))
    rw [show 1 + (k + 1) = k + 1 + 1 by omega] at this
    exact this
theorem listRun_of {n : Nat} {s s' : ListS} {m' : MemS} (h : LRn e q n s m s' m') : ∀ N, n ≤ N → listRun e N s m = some (s', m') := by
  obtain ⟨k, s1, m1, rfl, h1, h2, h3, _⟩ := h.ex
  have last : ∀ N, 1 ≤ N → listRun e N s1 m1 = some (s', m') := fun N hN => by
    obtain ⟨N, rfl⟩ : ∃ N', N = N' + 1 := ⟨N - 1, by omega⟩
    simp only [listRun, h2, if_true, h3]
  clear h
  induction h1 with
  | nil => exact last
  | cons g1 g2 g3 _ ih =>
    intro N hN
    obtain ⟨N, rfl⟩ : ∃ N', N = N' + 1 := ⟨N - 1, by omega⟩
    simp only [listRun, g1, if_true, g2]
    exact ih h2 h3 last N (by omega)
end
end Go.FL

/- The arena, alone: a list is gone through. -/
namespace Go.FL
open Go Go.SL

section
variable {c : Cfg} {f g : Int → Nat} {F : List Int} {m : MemS} {q : Int} {e : EnvS}
abbrev LMv (c : Cfg) (q : Int) (m : MemS) (f : Int → Nat) : Prop := Mv m (bA c c.chunks) q 0 f
/-- What a list looks for: where it stands when it has found, or not. -/
structure Stop (ns : List (Nat × Int)) (kind key : Int) (head : Nat) (b : Bool) (s' : ListS) : Prop where
  ex : ∃ (pc : Nat) (pre : List (Nat × Int)) (p : Nat × Int) (post : List (Nat × Int)) (lk sn : Int) (out : DoneS), ns = pre ++ p :: post ∧ (∀ x ∈ (pre ++ [p]).tail, x.2 < key) ∧
    ((∃ x post', post = x :: post' ∧ x.2 = key ∧ lk = firstOr post' 0 ∧ (b, s') = ListS.present ⟨kind, key, head, pc, none, p.1, x.1, lk, 0, sn, out⟩ out.s) ∨
     ((∀ x post', post = x :: post' → key < x.2) ∧ (b, s') = ListS.absent ⟨kind, key, head, pc, none, p.1, firstOr post 0, lk, 0, sn, out⟩))
theorem firstOr_bd {xs : List (Nat × Int)} (h : Chn c f xs 0) : firstOr xs 0 < 4294967296 ∧ (xs ≠ [] → firstOr xs 0 ≠ 0) := by
  cases xs with
  | nil => simp [firstOr]
  | cons x xs => have := h.1.bd; simp only [firstOr]; exact ⟨by omega, fun _ => by omega⟩
theorem trav (hc : CfgOk c) (hw : Who c e q) (I : Inv c f F) {kind key : Int} {head : Nat} : ∀ (post pre : List (Nat × Int)) (p : Nat × Int) {m : MemS} {lk sn : Int} {out : DoneS}, post ≠ [] → LMv c q m f → Chn c f (pre ++ p :: post) 0 → (∀ x ∈ (pre ++ [p]).tail, x.2 < key) →
    ∃ n b s' m', n ≤ 16 * post.length ∧ LRb e q b n ⟨kind, key, head, 1, none, p.1, firstOr post 0, lk, 0, sn, out⟩ m s' m' ∧ LMv c q m' f ∧ Stop (pre ++ p :: post) kind key head b s'
  | [], _, _, _, _, _, _, h, _, _, _ => (h rfl).elim
  | x :: post, pre, p, m, lk, sn, out, _, M, C, hlt => by
    have C2 := (Chn.append.1 C).2
    have Cx : Chn c f (x :: post) 0 := C2.2
    have N := Cx.1
    have hfb := firstOr_bd Cx.2
    have hxb := N.bd
    obtain ⟨n1, a1, m1, hn1, H1, M1, s1, ho1⟩ := nd_read hc hw I M N (x := ⟨3, 0, x.1, 1, 0, 0, true⟩) rfl rfl rfl rfl (.inr ⟨rfl, rfl⟩)
    have G1 : LRb e q false n1 ⟨kind, key, head, 1, none, p.1, x.1, lk, 0, sn, out⟩ m ⟨kind, key, head, 2, none, p.1, x.1, firstOr post 0, 0, sn, { out with s := s1 }⟩ m1 := list_act rfl rfl H1 (by
      rw [ho1]
      simp only [ListS.after, ListS.looked]
      rw [if_neg (by simp), if_neg (by simp), if_neg (by simp), linkGone_nat hfb.1]
      simp)
    obtain ⟨n2, a2, m2, hn2, H2, M2, s2, ho2⟩ := nd_read hc hw I M1 N (x := ⟨3, 0, x.1, 0, 0, 0, true⟩) rfl rfl rfl rfl (.inl ⟨rfl, rfl⟩)
    have wnt : ∀ b s', ListS.looked ⟨kind, key, head, 2, none, p.1, x.1, (firstOr post 0 : Nat), 0, sn, { out with s := s1 }⟩ ⟨0, 0, x.2, s2⟩ = (b, s') →
        LRb e q b n2 ⟨kind, key, head, 2, none, p.1, x.1, (firstOr post 0 : Nat), 0, sn, { out with s := s1 }⟩ m1 s' m2 := fun b s' hl => list_act rfl rfl H2 (by rw [ho2]; exact hl)
    have look : ListS.looked ⟨kind, key, head, 2, none, p.1, x.1, (firstOr post 0 : Nat), 0, sn, { out with s := s1 }⟩ ⟨0, 0, x.2, s2⟩ =
        if x.2 < key then ListS.at ⟨kind, key, head, 2, none, p.1, x.1, (firstOr post 0 : Nat), 0, sn, { out with s := s1 }⟩ x.1 (firstOr post 0 : Nat) s1
        else if x.2 = key then ListS.present ⟨kind, key, head, 2, none, p.1, x.1, (firstOr post 0 : Nat), 0, sn, { out with s := s1 }⟩ s1
        else ListS.absent ⟨kind, key, head, 2, none, p.1, x.1, (firstOr post 0 : Nat), 0, sn, { out with s := s1 }⟩ := by
      simp only [ListS.looked]
      rw [if_neg (by simp), if_neg (by simp), if_neg (by simp), if_neg (by simp)]
    by_cases h1 : x.2 < key
    · have hlt' : ∀ y ∈ ((pre ++ [p]) ++ [x]).tail, y.2 < key := fun y hy => by
        have e1 : ((pre ++ [p]) ++ [x]).tail = (pre ++ [p]).tail ++ [x] := by cases pre <;> rfl
        rw [e1] at hy
        rcases List.mem_append.1 hy with h | h
        · exact hlt y h
        · rw [List.mem_singleton.1 h]; exact h1
      have eat : ListS.at ⟨kind, key, head, 2, none, p.1, x.1, (firstOr post 0 : Nat), 0, sn, { out with s := s1 }⟩ x.1 (firstOr post 0 : Nat) s1 =
          if Nat.beq (firstOr post 0) 0 then ListS.absent ⟨kind, key, head, 2, none, x.1, firstOr post 0, (firstOr post 0 : Nat), 0, s1, { out with s := s1 }⟩ else (false, ⟨kind, key, head, 1, none, x.1, firstOr post 0, (firstOr post 0 : Nat), 0, s1, { out with s := s1 }⟩) := by
        simp only [ListS.at, linkNext_nat hfb.1]
      by_cases hp : post = []
      · subst hp
        rw [if_pos h1, eat, if_pos (show Nat.beq (firstOr [] 0) 0 = true from rfl)] at look
        refine ⟨n1 + n2, _, _, m2, by simp only [List.length_cons]; omega, LRb.pre G1 (wnt _ _ look), M2, ⟨2, pre ++ [p], x, [], _, _, _, by simp, hlt', .inr ⟨fun y post' h => (List.cons_ne_nil _ _ h.symm).elim, rfl⟩⟩⟩
      · rw [if_pos h1, eat, if_neg (by rw [Bool.not_eq_true, beq_false]; exact hfb.2 hp)] at look
        obtain ⟨n3, b, s', m3, hn3, H3, M3, S3⟩ := trav hc hw I post (pre ++ [p]) x (kind := kind) (key := key) (head := head) (lk := (firstOr post 0 : Nat)) (sn := s1) (out := { out with s := s1 }) hp M2 (by simpa using C) hlt'
        refine ⟨n1 + (n2 + n3), b, s', m3, by simp only [List.length_cons]; omega, LRb.pre G1 (LRb.pre (wnt _ _ look) H3), M3, by simpa using S3⟩
    · rw [if_neg h1] at look
      by_cases h2 : x.2 = key
      · rw [if_pos h2] at look
        exact ⟨n1 + n2, _, _, m2, by simp only [List.length_cons]; omega, LRb.pre G1 (wnt _ _ look), M2, ⟨2, pre, p, x :: post, _, _, _, rfl, hlt, .inl ⟨x, post, rfl, h2, rfl, rfl⟩⟩⟩
      · rw [if_neg h2] at look
        refine ⟨n1 + n2, _, _, m2, by simp only [List.length_cons]; omega, LRb.pre G1 (wnt _ _ look), M2, ⟨2, pre, p, x :: post, _, _, _, rfl, hlt, .inr ⟨fun y post' h => ?_, rfl⟩⟩⟩
        cases h; omega
/-- From the beginning. -/
theorem trav0 (hc : CfgOk c) (hw : Who c e q) (I : Inv c f F) {kind key : Int} {hd : Nat × Int} {ks : List (Nat × Int)} (M : LMv c q m f) (C : Chn c f (hd :: ks) 0) :
    ∃ n b s' m', n ≤ 16 * ks.length + 8 ∧ LRb e q b n (newList kind key hd.1) m s' m' ∧ LMv c q m' f ∧ Stop (hd :: ks) kind key hd.1 b s' := by
  have N := C.1
  have hfb := firstOr_bd C.2
  obtain ⟨n1, a1, m1, hn1, H1, M1, s1, ho1⟩ := nd_read hc hw I M N (x := ⟨3, 0, hd.1, 1, 0, 0, true⟩) rfl rfl rfl rfl (.inr ⟨rfl, rfl⟩)
  have wnt : ∀ b s', ListS.at (newList kind key hd.1) hd.1 (firstOr ks 0 : Nat) s1 = (b, s') → LRb e q b n1 (newList kind key hd.1) m s' m1 := fun b s' hl => list_act rfl rfl H1 (by
    rw [ho1, ← hl]
    simp only [ListS.after, newList, ListS.looked]
    rw [if_neg (by simp), if_neg (by simp)]
    simp)
  have eat : ListS.at (newList kind key hd.1) hd.1 (firstOr ks 0 : Nat) s1 =
      if Nat.beq (firstOr ks 0) 0 then ListS.absent ⟨kind, key, hd.1, 0, none, hd.1, firstOr ks 0, 0, 0, s1, ⟨0, 0, 0, 0⟩⟩ else (false, ⟨kind, key, hd.1, 1, none, hd.1, firstOr ks 0, 0, 0, s1, ⟨0, 0, 0, 0⟩⟩) := by
    simp only [ListS.at, newList, linkNext_nat hfb.1]
  by_cases hp : ks = []
  · subst hp
    rw [if_pos (show Nat.beq (firstOr [] 0) 0 = true from rfl)] at eat
    exact ⟨n1, _, _, m1, by omega, wnt _ _ eat, M1, ⟨0, [], hd, [], _, _, _, rfl, by simp, .inr ⟨fun y post' h => (List.cons_ne_nil _ _ h.symm).elim, rfl⟩⟩⟩
  · rw [if_neg (by rw [Bool.not_eq_true, beq_false]; exact hfb.2 hp)] at eat
    obtain ⟨n2, b, s', m2, hn2, H2, M2, S2⟩ := trav hc hw I ks [] hd (kind := kind) (key := key) (head := hd.1) (lk := 0) (sn := s1) (out := ⟨0, 0, 0, 0⟩) hp M1 C (by simp)
    exact ⟨n1 + n2, b, s', m2, by omega, LRb.pre (wnt _ _ eat) H2, M2, S2⟩
end
end Go.FL

/- The arena, alone: what else stays when a list is asked; how many objects there is room for. -/
namespace Go.FL
open Go Go.SL

section
variable {c : Cfg} {f g k : Int → Nat} {F : List Int}
/-- What may change: nodes of these handles, and what is new and a part of a list. -/
structure Frm (c : Cfg) (f g : Int → Nat) (hs : List Nat) : Prop where
  keep : ∀ i, 0 ≤ i → i < c.slots → (slF c f i).state = 1 → (∀ h ∈ hs, sot h ≠ i) → slF c g i = slF c f i ∧ ∀ b, (slF c f i).addr ≤ b → b ≤ (slF c f i).addr + (hdF f (slF c f i).addr).size → g b = f b
  back : ∀ i, 0 ≤ i → i < c.slots → (slF c g i).state = 1 → ((slF c f i).state = 1 ∧ slF c g i = slF c f i ∧ hdF g (slF c f i).addr = hdF f (slF c f i).addr) ∨ (hdF g (slF c g i).addr).own = true
theorem Frm.refl (c : Cfg) (f : Int → Nat) (hs : List Nat) : Frm c f f hs := ⟨fun _ _ _ _ _ => ⟨rfl, fun _ _ _ => rfl⟩, fun _ _ _ h => .inl ⟨h, rfl, rfl⟩⟩
theorem size_nn (f : Int → Nat) (a : Int) : 0 ≤ (hdF f a).size := by simp only [hdF, headOf]; exact Int.natCast_nonneg _
theorem Frm.trans {hs : List Nat} (A : Frm c f g hs) (B : Frm c g k hs) : Frm c f k hs := by
  refine ⟨fun i i0 i1 s hn => ?_, fun i i0 i1 s => ?_⟩
  · obtain ⟨a1, a2⟩ := A.keep i i0 i1 s hn
    obtain ⟨b1, b2⟩ := B.keep i i0 i1 (by rw [a1]; exact s) hn
    have hz := size_nn f (slF c f i).addr
    have hh : hdF g (slF c f i).addr = hdF f (slF c f i).addr := by simp only [hdF]; rw [a2 _ (by omega) (by omega)]
    refine ⟨b1.trans a1, fun b x y => ?_⟩
    rw [a1] at b2
    rw [b2 b x (by rw [hh]; exact y), a2 b x y]
  · rcases B.back i i0 i1 s with ⟨b1, b2, b3⟩ | b
    · rcases A.back i i0 i1 b1 with ⟨a1, a2, a3⟩ | a
      · refine .inl ⟨a1, b2.trans a2, ?_⟩
        rw [a2] at b3; rw [b3, a3]
      · right; rw [b2, b3]; exact a
    · exact .inr b
theorem Frm.mono {hs ts : List Nat} (A : Frm c f g hs) (h : ∀ x ∈ hs, x ∈ ts ∨ ∀ i, 0 ≤ i → i < c.slots → (slF c f i).state = 1 → sot x ≠ i) : Frm c f g ts :=
  ⟨fun i i0 i1 s hn => A.keep i i0 i1 s fun x hx => (h x hx).elim (hn x) fun h => h i i0 i1 s, A.back⟩
theorem live_obj (I : Inv c f F) {i : Int} (i0 : 0 ≤ i) (i1 : i < c.slots) (s : (slF c f i).state = 1) : ∃ j off, ObjAt c f (slF c f i) j off := by
  rcases I.obj i i0 i1 with h | h | h
  · omega
  · omega
  · exact h
theorem Frm.lay (hc : CfgOk c) (I : Inv c f F) {h : Nat} {ky : Int} {nx : Nat} (N : Node c f h ky nx) {t : Int} (t0 : 0 ≤ t) (t1 : t < 2) {w : Nat} (hw : w < 1099511627776) {hs : List Nat} (hm : h ∈ hs) : Frm c f (upd f (adr c f h + 1 + t) w) hs := by
  obtain ⟨I', sl⟩ := nd_inv hc I N t0 t1 hw
  have hsz := N.size
  have ap : ∀ i, 0 ≤ i → i < c.slots → (slF c f i).state = 1 → ∀ b, (slF c f i).addr ≤ b → b ≤ (slF c f i).addr + (hdF f (slF c f i).addr).size → sot h ≠ i → b ≠ adr c f h + 1 + t := fun i i0 i1 s b b0 b1 hne => by
    have hd := I.dis _ _ N.H.i0 N.H.i1 i0 i1 N.H.live s hne
    simp only [adr] at hsz ⊢
    rw [hsz] at hd
    omega
  refine ⟨fun i i0 i1 s hn => ⟨sl i i0 i1, fun b b0 b1 => upd_ne (ap i i0 i1 s b b0 b1 (hn h hm))⟩, fun i i0 i1 s => ?_⟩
  rw [sl i i0 i1] at s
  refine .inl ⟨s, sl i i0 i1, ?_⟩
  by_cases he : sot h = i
  · subst he
    simp only [hdF]
    rw [upd_ne (by simp only [adr]; omega)]
  · have hz := size_nn f (slF c f i).addr
    simp only [hdF]
    rw [upd_ne (ap i i0 i1 s _ (by omega) (by omega) he)]
theorem Made.kept (hc : CfgOk c) {i : Int} (I : Inv c f (i :: F)) {size : Int} {own : Bool} {j u : Int} (M : Made c f g F size own i j u) : ∀ x, 0 ≤ x → x < c.slots → (slF c f x).state = 1 → slF c g x = slF c f x ∧ ∀ b, (slF c f x).addr ≤ b → b ≤ (slF c f x).addr + (hdF f (slF c f x).addr).size → g b = f b := fun x x0 x1 s => by
  obtain ⟨j', off, o⟩ := live_obj I x0 x1 s
  have hne : x ≠ i := by rintro rfl; have := M.fst; omega
  have hb := o.bd hc (I.chk j' o.j0 o.j1).us
  have hu : (ckF c f j).used = u := by rcases M.was with h | h; exact h.2.1; exact h.2.2.1
  have ap := ObjAt.apart hc I o M.j0 M.j1 hu
  have hfit := M.fit
  have hz0 := M.z0
  have hk := class_cases M.z0 M.z1
  have hs0 := hc.s0
  have ht0 := hc.t0
  have hc0 := hc.c0
  have hj0 := M.j0
  have hj1 := M.j1
  have hu0 := M.u0
  have hbj := bA_ge hc hj0
  have i1 := M.i1
  have i0 := M.i0
  refine ⟨?_, fun b b0 b1 => M.rest b (by omega) (by simp only [cA]; omega) (by simp only [cA]; omega) (by omega) (by omega) (by simp only [sA]; omega)⟩
  simp only [slF]
  rw [M.rest _ (by simp only [sA]; omega) (by simp only [sA, cA]; omega) (by simp only [sA, cA]; omega) (by simp only [sA]; omega) (by simp only [sA]; omega) (by simp only [sA]; omega)]
theorem Made.other (hc : CfgOk c) {i : Int} {size : Int} {own : Bool} {j u : Int} (M : Made c f g F size own i j u) {x : Int} (x0 : 0 ≤ x) (x1 : x < c.slots) (hne : x ≠ i) : slF c g x = slF c f x := by
  have hk := class_cases M.z0 M.z1
  have ht0 := hc.t0
  have hc0 := hc.c0
  have hj0 := M.j0
  have hj1 := M.j1
  have hu0 := M.u0
  have hbj := bA_ge hc hj0
  have i1 := M.i1
  have i0 := M.i0
  simp only [slF]
  rw [M.rest _ (by simp only [sA]; omega) (by simp only [sA, cA]; omega) (by simp only [sA, cA]; omega) (by simp only [sA]; omega) (by simp only [sA]; omega) (by simp only [sA]; omega)]
theorem Frm.made (hc : CfgOk c) {i : Int} (I : Inv c f (i :: F)) {size : Int} {j u : Int} (M : Made c f g F size true i j u) (hs : List Nat) : Frm c f g hs := by
  refine ⟨fun x x0 x1 s _ => M.kept hc I x x0 x1 s, fun x x0 x1 s => ?_⟩
  by_cases hx : x = i
  · subst hx; right; rw [M.sl]; simp only; rw [M.hd]
  · have e := M.other hc x0 x1 hx
    rw [e] at s
    have hk := M.kept hc I x x0 x1 s
    have hz := size_nn f (slF c f x).addr
    exact .inl ⟨s, e, by simp only [hdF]; rw [hk.2 _ (by omega) (by omega)]⟩
theorem Freed.other (hc : CfgOk c) {i j off : Int} (I : Inv c f F) (o : ObjAt c f (slF c f i) j off) (D : Freed c f g F i j) {x : Int} (x0 : 0 ≤ x) (x1 : x < c.slots) (hne : x ≠ i) : slF c g x = slF c f x := by
  have hb := o.bd hc (I.chk j o.j0 o.j1).us
  have ht0 := hc.t0
  have hc0 := hc.c0
  have hj0 := o.j0
  have ha : sA c x < (slF c f i).addr := by simp only [sA]; omega
  show slotOf (g (sA c x)) = slotOf (f (sA c x))
  rw [D.rest _ (by simp only [sA]; omega) (by simp only [sA]; omega) (by simp only [sA]; omega) (by simp only [sA, cA]; omega) (by omega)]
theorem Freed.kept (hc : CfgOk c) {i j off : Int} (I : Inv c f F) (i0 : 0 ≤ i) (i1 : i < c.slots) (o : ObjAt c f (slF c f i) j off) (D : Freed c f g F i j) : ∀ x, 0 ≤ x → x < c.slots → (slF c f x).state = 1 → x ≠ i → slF c g x = slF c f x ∧ ∀ b, (slF c f x).addr ≤ b → b ≤ (slF c f x).addr + (hdF f (slF c f x).addr).size → g b = f b := fun x x0 x1 s hne => by
  obtain ⟨j', off', o'⟩ := live_obj I x0 x1 s
  have hb' := o'.bd hc (I.chk j' o'.j0 o'.j1).us
  have ht0 := hc.t0
  have hs0 := hc.s0
  have hc0 := hc.c0
  have hj0 := o.j0
  have hj1 := o.j1
  have hd := I.dis i x i0 i1 x0 x1 o.live s (Ne.symm hne)
  exact ⟨D.other hc I o x0 x1 hne, fun b b0 b1 => D.rest b (by omega) (by simp only [sA]; omega) (by simp only [sA]; omega) (by simp only [cA]; omega) (by omega)⟩
theorem Frm.freed (hc : CfgOk c) {j off : Int} {h : Nat} (I : Inv c f F) (H : Hdl c f h (sot h)) (o : ObjAt c f (slF c f (sot h)) j off) (D : Freed c f g F (sot h) j) {hs : List Nat} (hm : h ∈ hs) : Frm c f g hs := by
  refine ⟨fun x x0 x1 s hn => D.kept hc I H.i0 H.i1 o x x0 x1 s (Ne.symm (hn h hm)), fun x x0 x1 s => ?_⟩
  by_cases hx : x = sot h
  · subst hx
    exfalso
    rw [D.sl] at s
    split at s <;> simp at s
  · have e := D.other hc I o x0 x1 hx
    rw [e] at s
    have hk := D.kept hc I H.i0 H.i1 o x x0 x1 s hx
    have hz := size_nn f (slF c f x).addr
    exact .inl ⟨s, e, by simp only [hdF]; rw [hk.2 _ (by omega) (by omega)]⟩

/-! How chunks are used when all objects are nodes, and a chunk has 40 words: 13 nodes each. -/
structure Cap (c : Cfg) (f : Int → Nat) (N : Nat) : Prop where
  opn : (f 2 : Int) = (N + 12) / 13
  some_ : ∀ j, 0 ≤ j → j < c.chunks → j * 13 < N → (ckF c f j).state = 1 ∧ (ckF c f j).used = 3 * min 13 (N - 13 * j)
  none_ : ∀ j, 0 ≤ j → j < c.chunks → N ≤ j * 13 → (ckF c f j).state = 0
theorem Cap.same {N : Nat} (C : Cap c f N) (h2 : g 2 = f 2) (hk : ∀ j, 0 ≤ j → j < c.chunks → ckF c g j = ckF c f j) : Cap c g N :=
  ⟨by rw [h2]; exact C.opn, fun j a b h => by rw [hk j a b]; exact C.some_ j a b h, fun j a b h => by rw [hk j a b]; exact C.none_ j a b h⟩
theorem Cap.nofit {N : Nat} (C : Cap c f N) (hw : c.words = 40) (hn : NoFit c f 0) (hN : N ≤ 13 * c.chunks) : ∃ t : Nat, N = 13 * t := by
  rcases Nat.eq_zero_or_pos N with h0 | h0
  · exact ⟨0, by omega⟩
  · have ho := C.opn
    have h := hn (((N + 12) / 13 : Nat) - 1) (by omega) (by rw [show (2 : Int) + 0 = 2 by rfl]; omega)
    have hs := C.some_ (((N + 12) / 13 : Nat) - 1) (by omega) (by omega) (by omega)
    rw [hs.2, hw, show roomA 0 = 3 by decide] at h
    exact ⟨(N + 12) / 13, by omega⟩
theorem Cap.notfull {N : Nat} (C : Cap c f N) (hw : c.words = 40) (hN : N < 13 * c.chunks) : ¬ Full c f 0 := fun h => by
  obtain ⟨t, rfl⟩ := C.nofit hw h.1 (by omega)
  exact h.2 t (by omega) (by omega) (C.none_ t (by omega) (by omega) (by omega))
theorem Cap.made {N : Nat} (C : Cap c f N) (hc : CfgOk c) (hw : c.words = 40) {i j u : Int} {own : Bool} (M : Made c f g F 2 own i j u) (hN : N < 13 * c.chunks) : Cap c g (N + 1) := by
  have e2 : classA 2 = 0 := by decide
  have e3 : roomA 0 = 3 := by decide
  have hj0 := M.j0
  have hj1 := M.j1
  have hw2 := M.was
  have hst := M.st
  have hus := M.us
  have hop := M.opn
  have hfit := M.fit
  rw [e2, e3] at hus hfit
  rw [e2] at hw2 hop
  rw [show (2 : Int) + 0 = 2 by rfl] at hop hw2
  rw [hw] at hfit
  have ho := C.opn
  have i0 := M.i0
  have i1 := M.i1
  have ht0 := hc.t0
  have hbj := bA_ge hc hj0
  have hu0 := M.u0
  have hcn : ∀ j', 0 ≤ j' → j' < c.chunks → j' ≠ j → ckF c g j' = ckF c f j' := fun j' a b hne => by
    simp only [ckF]
    rw [M.rest _ (by simp only [cA]; omega) (by simp only [cA]; omega) (by simp only [cA]; omega) (by rw [e2]; simp only [cA]; omega) (by simp only [cA]; omega) (by simp only [cA, sA]; omega)]
  -- where it was
  have key : 13 * j ≤ N ∧ N < 13 * (j + 1) ∧ u = 3 * (N - 13 * j) := by
    rcases hw2 with ⟨a1, a2, a3, a4⟩ | ⟨a1, a2, a3, a4, a5⟩
    · have hj : j = (N + 12) / 13 - 1 := by omega
      by_cases hN0 : N = 0
      · subst hN0; omega
      · have hs := C.some_ j hj0 hj1 (by omega)
        rw [a2] at hs
        omega
    · obtain ⟨t, rfl⟩ := C.nofit hw a1 (by omega)
      have h1 : ¬ j * 13 < (13 * t : Nat) := fun h => by have := (C.some_ j hj0 hj1 h).1; omega
      by_cases hjt : j = t
      · omega
      · have := a5 t (by omega) (by omega)
        exact absurd (C.none_ t (by omega) (by omega) (by omega)) this
  refine ⟨?_, fun j' a b h => ?_, fun j' a b h => ?_⟩
  · rw [hop]; omega
  · by_cases hjj : j' = j
    · subst hjj
      refine ⟨hst, ?_⟩
      rw [hus]; omega
    · rw [hcn j' a b hjj]
      have := C.some_ j' a b (by omega)
      refine ⟨this.1, ?_⟩
      rw [this.2]; omega
  · have hjj : j' ≠ j := by rintro rfl; omega
    rw [hcn j' a b hjj]
    exact C.none_ j' a b (by omega)
end
end Go.FL

/- The arena, alone: what a list tells: whether a key is there; it comes in. -/
namespace Go.FL
open Go Go.SL

section
variable {c : Cfg} {f g : Int → Nat} {F : List Int} {m : MemS} {q : Int} {e : EnvS}
/-- A list: its nodes, the first one of which has no key. -/
structure LS (c : Cfg) (f : Int → Nat) (F : List Int) (hd : Nat × Int) (ks : List (Nat × Int)) : Prop where
  inv : Inv c f F
  ch : Chn c f (hd :: ks) 0
  nd : ((hd :: ks).map (·.1)).Nodup
  so : (ks.map (·.2)).Pairwise (· < ·)
abbrev keysOf (ks : List (Nat × Int)) : List Int := ks.map (·.2)
theorem tail_split {hd p : Nat × Int} {ks pre post : List (Nat × Int)} (h : hd :: ks = pre ++ p :: post) : ks = (pre ++ [p]).tail ++ post := by
  cases pre with
  | nil => simp only [List.nil_append, List.cons.injEq] at h; simp [h.2]
  | cons x pre => simp only [List.cons_append, List.cons.injEq] at h; simp [h.2]
theorem present_mem {hd p x : Nat × Int} {ks pre post : List (Nat × Int)} (h : hd :: ks = pre ++ p :: x :: post) : x.2 ∈ keysOf ks := by
  rw [tail_split h]; simp
theorem absent_mem {hd p : Nat × Int} {ks pre post : List (Nat × Int)} {key : Int} (h : hd :: ks = pre ++ p :: post) (so : (ks.map (·.2)).Pairwise (· < ·)) (hl : ∀ x ∈ (pre ++ [p]).tail, x.2 < key) (hr : ∀ x post', post = x :: post' → key < x.2) : key ∉ keysOf ks ∧ ∀ x ∈ post, key < x.2 := by
  have e := tail_split h
  have hp : ∀ x ∈ post, key < x.2 := by
    rw [e, List.map_append, List.pairwise_append] at so
    cases post with
    | nil => simp
    | cons y post =>
      have hy := hr y post rfl
      have h2 := so.2.1
      simp only [List.map_cons, List.pairwise_cons] at h2
      intro x hx
      rcases List.mem_cons.1 hx with rfl | hx
      · exact hy
      · exact Int.lt_trans hy (h2.1 _ (List.mem_map_of_mem hx))
  refine ⟨fun hk => ?_, hp⟩
  rw [keysOf, e, List.map_append, List.mem_append] at hk
  rcases hk with hk | hk
  · obtain ⟨x, hx, rfl⟩ := List.mem_map.1 hk
    exact Int.lt_irrefl _ (hl x hx)
  · obtain ⟨x, hx, rfl⟩ := List.mem_map.1 hk
    exact Int.lt_irrefl _ (hp x hx)
theorem has_run (hc : CfgOk c) (hw : Who c e q) {hd : Nat × Int} {ks : List (Nat × Int)} (L : LS c f F hd ks) (M : LMv c q m f) (key : Int) :
    ∃ n s' m', n ≤ 16 * ks.length + 8 ∧ LRn e q n (newList 1 key hd.1) m s' m' ∧ LMv c q m' f ∧ ∃ st, s'.out = ⟨0, 0, if key ∈ keysOf ks then 1 else 0, st⟩ := by
  obtain ⟨n, b, s', m', hn, H, M', ⟨pc, pre, p, post, lk, sn, out, hns, hlt, h⟩⟩ := trav0 hc hw L.inv (kind := 1) (key := key) M L.ch
  rcases h with ⟨x, post', rfl, rfl, rfl, h⟩ | ⟨hr, h⟩
  · simp only [ListS.present, ListS.fin] at h
    rw [if_neg (by simp), if_neg (by simp), if_pos (show Nat.beq 0 0 = true from rfl)] at h
    simp only [Prod.mk.injEq] at h
    obtain ⟨rfl, rfl⟩ := h
    exact ⟨n, _, m', hn, H, M', _, by rw [if_pos (present_mem hns)]⟩
  · have hm := (absent_mem hns L.so hlt hr).1
    simp only [ListS.absent, ListS.fin] at h
    rw [if_pos (by simp), if_pos (show Nat.beq 0 0 = true from rfl)] at h
    simp only [Prod.mk.injEq] at h
    obtain ⟨rfl, rfl⟩ := h
    exact ⟨n, _, m', hn, H, M', _, by rw [if_neg hm]⟩
/-- What becomes of a list's nodes when a word of a node is laid. -/
theorem chn_lay (hc : CfgOk c) (I : Inv c f F) {h : Nat} {k : Int} {nx : Nat} (N : Node c f h k nx) {t : Int} (t0 : 0 ≤ t) (t1 : t < 2) {w : Nat} (hw : w < 1099511627776) {xs : List (Nat × Int)} {z : Nat} (C : Chn c f xs z) (hn : h ∉ xs.map (·.1)) : Chn c (upd f (adr c f h + 1 + t) w) xs z := by
  have sl := (nd_inv hc I N t0 t1 hw).2
  refine C.frame fun x hx => ?_
  obtain ⟨nx', N'⟩ := C.node x hx
  have hne : h ≠ x.1 := by rintro rfl; exact hn (List.mem_map_of_mem hx)
  have ap := N.apart I N' hne
  exact ⟨sl _ N'.H.i0 N'.H.i1, fun b b0 b1 => upd_ne (by omega)⟩
theorem node_lay (hc : CfgOk c) (I : Inv c f F) {h h' : Nat} {k k' : Int} {nx nx' : Nat} (N : Node c f h k nx) {t : Int} (t0 : 0 ≤ t) (t1 : t < 2) {w : Nat} (hw : w < 1099511627776) (N' : Node c f h' k' nx') (hne : h ≠ h') : Node c (upd f (adr c f h + 1 + t) w) h' k' nx' := by
  have := chn_lay hc I N t0 t1 hw (xs := [(h', k')]) (z := nx') ⟨N', trivial⟩ (by simp [hne])
  exact this.1
theorem node_lay0 (hc : CfgOk c) (I : Inv c f F) {h : Nat} {k : Int} {nx : Nat} (N : Node c f h k nx) {w : Nat} (hw : w < 1099511627776) : Node c (upd f (adr c f h + 1 + 0) w) h w nx := by
  have sl := (nd_inv hc I N (t := 0) (by omega) (by omega) hw).2 _ N.H.i0 N.H.i1
  have ha : adr c (upd f (adr c f h + 1 + 0) w) h = adr c f h := by simp only [adr] at sl ⊢; rw [sl]
  have hh : hdF (upd f (adr c f h + 1 + 0) w) (adr c f h) = hdF f (adr c f h) := by simp only [hdF]; rw [upd_ne (by omega)]
  refine ⟨⟨by rw [sl]; exact N.H.h, N.H.i0, N.H.i1, by rw [sl]; exact N.H.live⟩, by rw [ha, hh]; exact N.own, by rw [ha, hh]; exact N.size, ?_, ?_⟩
  · rw [ha, show adr c f h + 1 + 0 = adr c f h + 1 by omega, upd_self]
  · rw [ha, upd_ne (by omega)]; exact N.nx
theorem node_lay1 (hc : CfgOk c) (I : Inv c f F) {h : Nat} {k : Int} {nx : Nat} (N : Node c f h k nx) {w : Nat} (hw : w < 1099511627776) : Node c (upd f (adr c f h + 1 + 1) w) h k w := by
  have sl := (nd_inv hc I N (t := 1) (by omega) (by omega) hw).2 _ N.H.i0 N.H.i1
  exact N.relink sl (fun b b0 b1 => upd_ne (by omega)) (by rw [show adr c f h + 2 = adr c f h + 1 + 1 by omega, upd_self])
/-- What becomes of chunks. -/
structure Chs (c : Cfg) (f g : Int → Nat) : Prop where
  opn : ∀ k, 0 ≤ k → k < 4 → g (2 + k) = f (2 + k)
  ck : ∀ j, 0 ≤ j → j < c.chunks → ckF c g j = ckF c f j
theorem Chs.refl (c : Cfg) (f : Int → Nat) : Chs c f f := ⟨fun _ _ _ => rfl, fun _ _ _ => rfl⟩
theorem Chs.trans {k : Int → Nat} (A : Chs c f g) (B : Chs c g k) : Chs c f k := ⟨fun i a b => by rw [B.opn i a b, A.opn i a b], fun j a b => by rw [B.ck j a b, A.ck j a b]⟩
theorem Chs.lay (hc : CfgOk c) (I : Inv c f F) {h : Nat} {ky : Int} {nx : Nat} (N : Node c f h ky nx) {t : Int} (t0 : 0 ≤ t) (w : Nat) : Chs c f (upd f (adr c f h + 1 + t) w) := by
  obtain ⟨j, off, o⟩ := N.H.cases I
  have hb := o.bd hc (I.chk j o.j0 o.j1).us
  have ht0 := hc.t0
  have hs0 := hc.s0
  have hc0 := hc.c0
  have ha : 6 + c.threads + 2 * c.slots + 3 * c.chunks ≤ adr c f h := hb.1
  refine ⟨fun k a b => upd_ne (by omega), fun j' a b => ?_⟩
  simp only [ckF]; rw [upd_ne (by simp only [cA]; omega)]
theorem Chs.cap {N : Nat} (A : Chs c f g) (C : Cap c f N) : Cap c g N := C.same (A.opn 0 (by omega) (by omega)) A.ck
/-- Lives of slots. -/
def Gens (c : Cfg) (f : Int → Nat) (B : Int) : Prop := ∀ i, 0 ≤ i → i < c.slots → (slF c f i).gen ≤ B
theorem Gens.same {B : Int} (G : Gens c f B) (h : ∀ i, 0 ≤ i → i < c.slots → slF c g i = slF c f i) : Gens c g B := fun i a b => by rw [h i a b]; exact G i a b
theorem Gens.made (hc : CfgOk c) {i : Int} {B : Int} (G : Gens c f B) {size : Int} {own : Bool} {j u : Int} (M : Made c f g F size own i j u) : Gens c g B := fun x a b => by
  by_cases hx : x = i
  · subst hx; rw [M.sl]; exact G x a b
  · rw [M.other hc a b hx]; exact G x a b
theorem Gens.freed (hc : CfgOk c) {i j off : Int} (I : Inv c f F) (o : ObjAt c f (slF c f i) j off) (D : Freed c f g F i j) {B : Int} (G : Gens c f B) : Gens c g (B + 1) := fun x a b => by
  by_cases hx : x = i
  · subst hx
    have := G x a b
    rw [D.sl]; split <;> simp only <;> omega
  · rw [D.other hc I o a b hx]; have := G x a b; omega
/-- What comes of an addition. -/
structure Added (c : Cfg) (f g : Int → Nat) (F : List Int) (hd : Nat × Int) (ks : List (Nat × Int)) (key : Int) (d : DoneS) : Prop where
  ex : ∃ F' ks', LS c g F' hd ks' ∧ Frm c f g ((hd :: ks).map (·.1)) ∧ (∀ B, Gens c f B → Gens c g B) ∧
    ((key ∈ keysOf ks ∧ d.e = 0 ∧ d.v = 0 ∧ g = f ∧ F' = F ∧ ks' = ks) ∨
     (key ∉ keysOf ks ∧ F = [] ∧ d.e = 7 ∧ d.v = 0 ∧ g = f ∧ F' = F ∧ ks' = ks) ∨
     (key ∉ keysOf ks ∧ Full c f 0 ∧ d.e = 6 ∧ d.v = 0 ∧ Chs c f g ∧ F' = F ∧ ks' = ks) ∨
     (key ∉ keysOf ks ∧ d.e = 0 ∧ d.v = 1 ∧ (∃ i, F = i :: F' ∧ ∃ h, h ∉ (hd :: ks).map (·.1) ∧ (∀ x, x ∈ ks'.map (·.1) ↔ x = h ∨ x ∈ ks.map (·.1)) ∧ sot h = i) ∧ (∀ k, k ∈ keysOf ks' ↔ k = key ∨ k ∈ keysOf ks) ∧ ks'.length = ks.length + 1 ∧
      (∀ N : Nat, c.words = 40 → N < 13 * c.chunks → Cap c f N → Cap c g (N + 1))))
theorem newHandle {n : Nat} {s g : Int} (h0 : 0 ≤ s) (h1 : s ≤ 65535) (h2 : 1 ≤ g) (h3 : g ≤ 65535) (h : n = putHandle ⟨s, g⟩) : handleOf n = (⟨s, g⟩, true) := by rw [h]; exact handleOf_put ⟨h0, h1⟩ ⟨h2, h3⟩
theorem add_run (hc : CfgOk c) (hw : Who c e q) {hd : Nat × Int} {ks : List (Nat × Int)} (L : LS c f F hd ks) (M : LMv c q m f) {key : Int} (k0 : 0 ≤ key) (k1 : key < 1073741824) :
    ∃ n s' m' g, n ≤ 16 * ks.length + 200 ∧ LRn e q n (newList 2 key hd.1) m s' m' ∧ LMv c q m' g ∧ Added c f g F hd ks key s'.out := by
  have I := L.inv
  obtain ⟨n, b, s', m1, hn, H, M1, ⟨pc, pre, p, post, lk, sn, out, hns, hlt, h⟩⟩ := trav0 hc hw I (kind := 2) (key := key) M L.ch
  rcases h with ⟨x, post', rfl, rfl, rfl, h⟩ | ⟨hr, h⟩
  · simp only [ListS.present, ListS.fin] at h
    rw [if_neg (by simp), if_pos (by simp), if_pos (show Nat.beq 0 0 = true from rfl)] at h
    simp only [Prod.mk.injEq] at h
    obtain ⟨rfl, rfl⟩ := h
    exact ⟨n, _, m1, f, by omega, H, M1, ⟨F, ks, L, Frm.refl _ _ _, fun B h => h, .inl ⟨present_mem hns, rfl, rfl, rfl, rfl, rfl⟩⟩⟩
  · obtain ⟨hm, hgt⟩ := absent_mem hns L.so hlt hr
    have e0 : (b, s') = (false, (⟨2, key, hd.1, 5, none, p.1, firstOr post 0, lk, 0, sn, out⟩ : ListS)) := by
      rw [h]; simp only [ListS.absent]
      rw [if_neg (by simp)]; rfl
    simp only [Prod.mk.injEq] at e0
    obtain ⟨rfl, rfl⟩ := e0
    clear h
    have C := L.ch
    rw [hns] at C
    obtain ⟨C1, C2⟩ := Chn.append.1 C
    have Np := C2.1
    have Cpost : Chn c f post 0 := C2.2
    have hfb := firstOr_bd Cpost
    -- the node is made
    obtain ⟨n2, a2, m2, g2, hn2, H2, M2, hres⟩ := act_run hc hw M1 (x := ⟨1, 2, 0, 0, 0, 0, true⟩) (N := 160) (R := fun d g =>
      (F = [] ∧ (∃ s, d = ⟨7, 0, 0, s⟩) ∧ g = f) ∨ (∃ i F', F = i :: F' ∧ (∃ s, d = ⟨6, 0, 0, s⟩) ∧ Inv c g F ∧ Full c f (classA 2) ∧ ∀ b, b ≠ 1 → b ≠ sA c i + 1 → g b = f b) ∨
      (∃ i F' j u, F = i :: F' ∧ (∃ s, d = ⟨0, putHandle ⟨i, (slF c f i).gen⟩, 0, s⟩) ∧ Made c f g F' 2 true i j u)) (fun mm MM => by
        obtain ⟨n, d', m', g, hn, h1, h2, h3⟩ := alloc_run hc hw I MM (inc_ne I.ep) (size := 2) (own := true) (by omega) (by omega)
        exact ⟨n, d', m', g, hn, h1, h2, h3⟩)
    have wnt : ∀ b s', ListS.joined ⟨2, key, hd.1, 5, none, p.1, firstOr post 0, lk, 0, sn, out⟩ a2.out = (b, s') → LRb e q b n2 ⟨2, key, hd.1, 5, none, p.1, firstOr post 0, lk, 0, sn, out⟩ m1 s' m2 := fun b s' hl => list_act rfl rfl H2 hl
    rcases hres with ⟨hF, ⟨s, hd2⟩, rfl⟩ | ⟨i, F', hF, ⟨s, hd2⟩, I2, hfull, hrest⟩ | ⟨i, F', j, u, hF, ⟨s, hd2⟩, Md⟩
    · have hj : ListS.joined ⟨2, key, hd.1, 5, none, p.1, firstOr post 0, lk, 0, sn, out⟩ a2.out = (true, ⟨2, key, hd.1, 5, none, p.1, firstOr post 0, lk, 0, sn, ⟨7, 0, 0, s⟩⟩) := by
        rw [hd2]; simp only [ListS.joined, ListS.fin]
        rw [if_pos trivial, if_pos (by simp), if_pos (show Nat.beq 0 0 = true from rfl)]
      exact ⟨n + n2, _, m2, _, by omega, H.rn (wnt _ _ hj), M2, ⟨F, ks, L, Frm.refl _ _ _, fun B h => h, .inr (.inl ⟨hm, hF, rfl, rfl, rfl, rfl, rfl⟩)⟩⟩
    · have hj : ListS.joined ⟨2, key, hd.1, 5, none, p.1, firstOr post 0, lk, 0, sn, out⟩ a2.out = (true, ⟨2, key, hd.1, 5, none, p.1, firstOr post 0, lk, 0, sn, ⟨6, 0, 0, s⟩⟩) := by
        rw [hd2]; simp only [ListS.joined, ListS.fin]
        rw [if_pos trivial, if_pos (by simp), if_pos (show Nat.beq 0 0 = true from rfl)]
      have hi := (hF ▸ I.chain : ChainF c f (i :: F')).1
      have ht0 := hc.t0
      have hs0 := hc.s0
      have hc0 := hc.c0
      have hsl : ∀ x, 0 ≤ x → x < c.slots → slF c g2 x = slF c f x := fun x a b => by simp only [slF]; rw [hrest _ (by simp only [sA]; omega) (by simp only [sA]; omega)]
      have hwd : ∀ x, 0 ≤ x → x < c.slots → (slF c f x).state = 1 → ∀ b, (slF c f x).addr ≤ b → g2 b = f b := fun x a b st y y0 => by
        obtain ⟨j', off, o⟩ := live_obj I a b st
        have hb := o.bd hc (I.chk j' o.j0 o.j1).us
        exact hrest y (by omega) (by simp only [sA]; omega)
      refine ⟨n + n2, _, m2, g2, by omega, H.rn (wnt _ _ hj), M2, ⟨F, ks, ⟨I2, L.ch.frame fun x hx => ?_, L.nd, L.so⟩, ⟨fun x a b st _ => ⟨hsl x a b, fun y y0 _ => hwd x a b st y y0⟩, fun x a b st => ?_⟩, fun B G => G.same hsl, .inr (.inr (.inl ⟨hm, hfull, rfl, rfl, ⟨fun k a b => hrest _ (by omega) (by simp only [sA]; omega), fun j' a b => ?_⟩, rfl, rfl⟩))⟩⟩
      · obtain ⟨nx, N⟩ := L.ch.node x hx
        exact ⟨hsl _ N.H.i0 N.H.i1, fun b b0 _ => hwd _ N.H.i0 N.H.i1 N.H.live b b0⟩
      · rw [hsl x a b] at st
        exact .inl ⟨st, hsl x a b, by simp only [hdF]; rw [hwd x a b st _ (Int.le_refl _)]⟩
      · simp only [ckF]; rw [hrest _ (by simp only [cA]; omega) (by simp only [cA, sA]; omega)]
    · have hj : ListS.joined ⟨2, key, hd.1, 5, none, p.1, firstOr post 0, lk, 0, sn, out⟩ a2.out = (false, ⟨2, key, hd.1, 6, none, p.1, firstOr post 0, lk, putHandle ⟨i, (slF c f i).gen⟩, sn, out⟩) := by
        rw [hd2]; simp only [ListS.joined]
        rw [if_pos trivial, if_neg (by simp)]
      have G2 := wnt _ _ hj
      clear wnt hj
      subst hF
      have hg := I.gen i Md.i0 Md.i1
      have hg1 := hc.g1
      have hs1 := hc.s1
      have i0 := Md.i0
      have i1 := Md.i1
      obtain ⟨h, hh⟩ : ∃ h, h = putHandle ⟨i, (slF c f i).gen⟩ := ⟨_, rfl⟩
      rw [← hh] at G2
      have hho : handleOf h = (⟨i, (slF c f i).gen⟩, true) := newHandle (by omega) (by omega) (by omega) (by omega) hh
      have hso : sot h = i := by simp only [sot, hho]
      have hsl := Md.sl
      have hhd := Md.hd
      have hze := Md.ze
      have I2 := Md.inv
      have hadr : adr c g2 h = bA c j + u := by simp only [adr, hso, hsl]
      have Nh : Node c g2 h 0 0 := by
        refine ⟨⟨by rw [hso, hsl, hho], by rw [hso]; exact i0, by rw [hso]; exact i1, by rw [hso, hsl]⟩, by rw [hadr, hhd], by rw [hadr, hhd], ?_, ?_⟩
        · rw [hadr]; have := hze 0 (by omega) (by omega); rw [Int.add_zero] at this; rw [this]; rfl
        · rw [hadr]; have := hze 1 (by omega) (by omega); rw [show bA c j + u + 2 = bA c j + u + 1 + 1 by omega]; exact this
      have hnotin : ∀ x ∈ hd :: ks, h ≠ x.1 := fun x hx => by
        rintro rfl
        obtain ⟨nx, N⟩ := L.ch.node x hx
        have hl := N.H.live
        rw [hso] at hl
        have := Md.fst
        omega
      have hnm : h ∉ (hd :: ks).map (·.1) := fun hm => by
        obtain ⟨x, hx, e⟩ := List.mem_map.1 hm
        exact hnotin x hx e.symm
      have Call2 : Chn c g2 (hd :: ks) 0 := L.ch.frame fun x hx => by
        obtain ⟨nx, N⟩ := L.ch.node x hx
        have := Md.kept hc I _ N.H.i0 N.H.i1 N.H.live
        refine ⟨this.1, fun b b0 b1 => this.2 b b0 ?_⟩
        have hs := N.size
        simp only [adr] at hs b1
        omega
      have hhb := Nh.bd
      -- its key
      obtain ⟨n3, a3, m3, hn3, H3, M3, v3, s3, ho3⟩ := nd_write hc hw I2 M2 Nh (t := 0) (w := key) (x := ⟨4, 0, h, 0, key, 0, true⟩) rfl rfl rfl (by omega) (by omega) (.inl rfl) rfl k0 (by omega)
      have G3 : LFl e q n3 ⟨2, key, hd.1, 6, none, p.1, firstOr post 0, lk, h, sn, out⟩ m2 ⟨2, key, hd.1, 7, none, p.1, firstOr post 0, lk, h, sn, out⟩ m3 := list_act (b := false) rfl (by simp [checkAct, ListS.want]; omega) H3 (by
        rw [ho3]; simp only [ListS.after, ListS.joined]
        rw [if_neg (by simp), if_pos trivial])
      have I3 := (nd_inv hc I2 Nh (t := 0) (by omega) (by omega) (w := key.toNat) (by omega)).1
      have Nh3 := node_lay0 hc I2 Nh (w := key.toNat) (by omega)
      have Call3 := chn_lay hc I2 Nh (t := 0) (by omega) (by omega) (w := key.toNat) (by omega) Call2 hnm
      have F3 := Frm.lay hc I2 Nh (t := 0) (by omega) (by omega) (w := key.toNat) (by omega) (hs := h :: (hd :: ks).map (·.1)) (by simp)
      have X3 := Chs.lay hc I2 Nh (t := 0) (by omega) key.toNat
      have S3 := (nd_inv hc I2 Nh (t := 0) (by omega) (by omega) (w := key.toNat) (by omega)).2
      generalize upd g2 (adr c g2 h + 1 + 0) key.toNat = g3 at *
      -- its link
      obtain ⟨n4, a4, m4, hn4, H4, M4, v4, s4, ho4⟩ := nd_write hc hw I3 M3 Nh3 (t := 1) (w := (firstOr post 0 : Nat)) (x := ⟨4, 0, h, 1, w64 (firstOr post 0 : Nat), 0, true⟩) rfl rfl rfl (by omega) (by omega) (.inl rfl) (w64_nat (by omega)) (by omega) (by omega)
      have G4 : LFl e q n4 ⟨2, key, hd.1, 7, none, p.1, firstOr post 0, lk, h, sn, out⟩ m3 ⟨2, key, hd.1, 8, none, p.1, firstOr post 0, lk, h, sn, out⟩ m4 := list_act (b := false) rfl (by
        simp only [checkAct, ListS.want, w64_nat (show firstOr post 0 < 9223372036854775808 by omega)]
        simp; omega) H4 (by
        rw [ho4]; simp only [ListS.after, ListS.joined]
        rw [if_neg (by simp), if_neg (by simp), if_pos trivial])
      rw [Int.toNat_natCast] at M4
      have I4 := (nd_inv hc I3 Nh3 (t := 1) (by omega) (by omega) (w := firstOr post 0) (by omega)).1
      have Nh4 := node_lay1 hc I3 Nh3 (w := firstOr post 0) (by omega)
      have Call4 := chn_lay hc I3 Nh3 (t := 1) (by omega) (by omega) (w := firstOr post 0) (by omega) Call3 hnm
      have F4 := Frm.lay hc I3 Nh3 (t := 1) (by omega) (by omega) (w := firstOr post 0) (by omega) (hs := h :: (hd :: ks).map (·.1)) (by simp)
      have X4 := Chs.lay hc I3 Nh3 (t := 1) (by omega) (firstOr post 0)
      have S4 := (nd_inv hc I3 Nh3 (t := 1) (by omega) (by omega) (w := firstOr post 0) (by omega)).2
      generalize upd g3 (adr c g3 h + 1 + 1) (firstOr post 0) = g4 at *
      -- it joins
      rw [hns] at Call4
      obtain ⟨Cpre4, Cp4⟩ := Chn.append.1 Call4
      have Np4 := Cp4.1
      have Cpost4 : Chn c g4 post 0 := Cp4.2
      obtain ⟨n5, a5, m5, hn5, H5, M5, v5, s5, ho5⟩ := nd_write hc hw I4 M4 Np4 (t := 1) (w := (h : Nat)) (x := ⟨5, 0, p.1, 1, w64 (h : Nat), w64 (firstOr post 0 : Nat), true⟩) rfl rfl rfl (by omega) (by omega) (.inr ⟨rfl, rfl, w64_nat (by omega)⟩) (w64_nat (by omega)) (by omega) (by omega)
      have hb0 : Nat.beq h 0 = false := by rw [beq_false]; omega
      have G5 : LRn e q n5 ⟨2, key, hd.1, 8, none, p.1, firstOr post 0, lk, h, sn, out⟩ m4 ⟨2, key, hd.1, 8, none, p.1, firstOr post 0, lk, 0, sn, ⟨0, 0, 1, s5⟩⟩ m5 := list_act (b := true) rfl (by
        simp only [checkAct, ListS.want, w64_nat (show firstOr post 0 < 9223372036854775808 by omega), w64_nat (show h < 9223372036854775808 by omega)]
        simp; omega) H5 (by
        rw [ho5]; simp only [ListS.after, ListS.joined]
        rw [if_neg (by simp), if_neg (by simp), if_neg (by simp), if_neg (by simp)]; rfl)
      rw [Int.toNat_natCast] at M5
      have hnd := L.nd
      rw [hns] at hnd
      simp only [List.map_append, List.map_cons, List.nodup_append, List.nodup_cons] at hnd
      have hpn : p.1 ∉ post.map (·.1) := hnd.2.1.1
      have hpp : p.1 ∉ pre.map (·.1) := fun hm => hnd.2.2 _ hm p.1 (by simp) rfl
      have hhp : p.1 ≠ h := fun e => hnotin p (by rw [hns]; simp) e.symm
      have I5 := (nd_inv hc I4 Np4 (t := 1) (by omega) (by omega) (w := h) (by omega)).1
      have Np5 := node_lay1 hc I4 Np4 (w := h) (by omega)
      have Cpre5 := chn_lay hc I4 Np4 (t := 1) (by omega) (by omega) (w := h) (by omega) Cpre4 hpp
      have Cpost5 := chn_lay hc I4 Np4 (t := 1) (by omega) (by omega) (w := h) (by omega) Cpost4 hpn
      have Nh5 := node_lay hc I4 Np4 (t := 1) (by omega) (by omega) (w := h) (by omega) Nh4 hhp
      have F5 := Frm.lay hc I4 Np4 (t := 1) (by omega) (by omega) (w := h) (by omega) (hs := h :: (hd :: ks).map (·.1)) (by rw [hns]; simp)
      have X5 := Chs.lay hc I4 Np4 (t := 1) (by omega) h
      have S5 := (nd_inv hc I4 Np4 (t := 1) (by omega) (by omega) (w := h) (by omega)).2
      generalize upd g4 (adr c g4 p.1 + 1 + 1) h = g5 at *
      refine ⟨n + (n2 + (n3 + (n4 + n5))), _, m5, g5, by omega, H.rn (G2.rn (G3.rn (G4.rn G5))), M5, ?_⟩
      have hks := tail_split hns
      refine ⟨F', (pre ++ [p]).tail ++ (h, key) :: post, ⟨I5, ?_, ?_, ?_⟩, ?_, fun B G => (((G.made hc Md).same S3).same S4).same S5, .inr (.inr (.inr ⟨hm, rfl, rfl, ⟨i, rfl, h, hnm, fun x => ?_, hso⟩, fun k => ?_, ?_, fun N w40 hN C => ?_⟩))⟩
      · have e1 : hd :: ((pre ++ [p]).tail ++ (h, key) :: post) = pre ++ p :: (h, key) :: post := by
          cases pre with
          | nil => simp only [List.nil_append, List.cons.injEq] at hns; simp [hns.1]
          | cons y pre => simp only [List.cons_append, List.cons.injEq] at hns; simp [hns.1]
        rw [e1]
        refine Chn.append.2 ⟨Cpre5, Np5, ?_, Cpost5⟩
        have : ((key.toNat : Nat) : Int) = key := by omega
        rw [this] at Nh5
        exact Nh5
      · have hnd2 := L.nd
        rw [hks] at hnd2
        simp only [List.map_cons, List.map_append] at hnd2 ⊢
        have hnm2 := hnm
        rw [hks] at hnm2
        simp only [List.map_cons, List.map_append, List.mem_cons, List.mem_append, not_or] at hnm2
        simp only [List.nodup_cons, List.nodup_append, List.mem_append, List.mem_cons, not_or] at hnd2 ⊢
        refine ⟨⟨hnd2.1.1, fun e => hnm2.1 e.symm, hnd2.1.2⟩, hnd2.2.1, ⟨hnm2.2.2, hnd2.2.2.1⟩, fun a ha b hb => ?_⟩
        rcases hb with rfl | hb
        · rintro rfl; exact hnm2.2.1 ha
        · exact hnd2.2.2.2 a ha b hb
      · have hso2 := L.so
        rw [hks] at hso2
        simp only [List.map_append, List.map_cons, List.pairwise_append, List.pairwise_cons] at hso2 ⊢
        refine ⟨hso2.1, ⟨fun a ha => ?_, hso2.2.1⟩, fun a ha b hb => ?_⟩
        · obtain ⟨x, hx, rfl⟩ := List.mem_map.1 ha; exact hgt x hx
        · obtain ⟨x, hx, rfl⟩ := List.mem_map.1 ha
          rcases List.mem_cons.1 hb with rfl | hb
          · exact hlt x hx
          · exact hso2.2.2 _ (List.mem_map_of_mem hx) b hb
      · refine ((Frm.made hc I Md (h :: (hd :: ks).map (·.1))).trans (F3.trans (F4.trans F5))).mono fun x hx => ?_
        rcases List.mem_cons.1 hx with rfl | hx
        · right
          intro z z0 z1 st
          rw [hso]; rintro rfl
          have := Md.fst; omega
        · exact .inl hx
      · rw [hks]
        simp only [List.map_append, List.map_cons, List.mem_append, List.mem_cons]
        constructor
        · rintro (h | h | h)
          · exact .inr (.inl h)
          · exact .inl h
          · exact .inr (.inr h)
        · rintro (h | h | h)
          · exact .inr (.inl h)
          · exact .inl h
          · exact .inr (.inr h)
      · rw [keysOf, keysOf, hks]
        simp only [List.map_append, List.map_cons, List.mem_append, List.mem_cons]
        constructor
        · rintro (h | h | h)
          · exact .inr (.inl h)
          · exact .inl h
          · exact .inr (.inr h)
        · rintro (h | h | h)
          · exact .inr (.inl h)
          · exact .inl h
          · exact .inr (.inr h)
      · rw [hks]; simp only [List.length_append, List.length_cons]; omega
      · exact (X3.trans (X4.trans X5)).cap (C.made hc w40 Md hN)
end
end Go.FL

/- The arena, alone: what a list tells: a key goes. -/
namespace Go.FL
open Go Go.SL

section
variable {c : Cfg} {f g : Int → Nat} {F : List Int} {m : MemS} {q : Int} {e : EnvS}
/-- What comes of a removal. -/
structure Gone (c : Cfg) (f g : Int → Nat) (F : List Int) (hd : Nat × Int) (ks : List (Nat × Int)) (key : Int) (d : DoneS) : Prop where
  ex : ∃ F' ks', LS c g F' hd ks' ∧ Frm c f g ((hd :: ks).map (·.1)) ∧ Chs c f g ∧ d.e = 0 ∧
    ((key ∉ keysOf ks ∧ d.v = 0 ∧ g = f ∧ F' = F ∧ ks' = ks) ∨
     (key ∈ keysOf ks ∧ d.v = 1 ∧ (∀ B, Gens c f B → B < c.gens → Gens c g (B + 1) ∧ F'.length = F.length + 1) ∧ F'.length ≤ F.length + 1 ∧ (∀ x, x ∈ ks'.map (·.1) → x ∈ ks.map (·.1)) ∧ (∀ k, k ∈ keysOf ks' ↔ k ≠ key ∧ k ∈ keysOf ks) ∧ ks'.length + 1 = ks.length))
theorem remove_run (hc : CfgOk c) (hw : Who c e q) {hd : Nat × Int} {ks : List (Nat × Int)} (L : LS c f F hd ks) (M : LMv c q m f) {key : Int} :
    ∃ n s' m' g, n ≤ 16 * ks.length + 200 ∧ LRn e q n (newList 3 key hd.1) m s' m' ∧ LMv c q m' g ∧ Gone c f g F hd ks key s'.out := by
  have I := L.inv
  obtain ⟨n, b, s', m1, hn, H, M1, ⟨pc, pre, p, post, lk, sn, out, hns, hlt, h⟩⟩ := trav0 hc hw I (kind := 3) (key := key) M L.ch
  rcases h with ⟨x, post', rfl, rfl, rfl, h⟩ | ⟨hr, h⟩
  · have e0 : (b, s') = (false, (⟨3, x.2, hd.1, 9, none, p.1, x.1, (firstOr post' 0 : Nat), 0, sn, out⟩ : ListS)) := by
      rw [h]; simp only [ListS.present]
      rw [if_pos (by simp)]
    simp only [Prod.mk.injEq] at e0
    obtain ⟨rfl, rfl⟩ := e0
    clear h
    have hmem := present_mem hns
    have hks := tail_split hns
    have C := L.ch
    rw [hns] at C
    obtain ⟨C1, C2⟩ := Chn.append.1 C
    have Np := C2.1
    have Nx : Node c f x.1 x.2 (firstOr post' 0) := C2.2.1
    have Cpost : Chn c f post' 0 := C2.2.2
    have C1 : Chn c f pre p.1 := C1
    have hfb := firstOr_bd Cpost
    have hxb := Nx.bd
    have hnd := L.nd
    rw [hns] at hnd
    simp only [List.map_append, List.map_cons, List.nodup_append, List.nodup_cons, List.mem_cons, not_or] at hnd
    have hpx : p.1 ≠ x.1 := hnd.2.1.1.1
    have hp1 : p.1 ∉ post'.map (·.1) := hnd.2.1.1.2
    have hx1 : x.1 ∉ post'.map (·.1) := hnd.2.1.2.1
    have hp0 : p.1 ∉ pre.map (·.1) := fun hm => hnd.2.2 _ hm p.1 (.inl rfl) rfl
    have hx0 : x.1 ∉ pre.map (·.1) := fun hm => hnd.2.2 _ hm x.1 (.inr (.inl rfl)) rfl
    have hpm : p.1 ∈ (hd :: ks).map (·.1) := by rw [hns]; simp
    have hxm : x.1 ∈ (hd :: ks).map (·.1) := by rw [hns]; simp
    -- it is marked
    obtain ⟨n2, a2, m2, hn2, H2, M2, v2, s2, ho2⟩ := nd_write hc hw I M1 Nx (t := 1) (w := ((firstOr post' 0 + 4294967296 : Nat) : Int)) (x := ⟨5, 0, x.1, 1, arith .or .i64 (firstOr post' 0 : Nat) 4294967296, (firstOr post' 0 : Nat), true⟩) rfl rfl rfl (by omega) (by omega) (.inr ⟨rfl, rfl, rfl⟩) (or_gone hfb.1) (by omega) (by omega)
    have G2 : LFl e q n2 ⟨3, x.2, hd.1, 9, none, p.1, x.1, (firstOr post' 0 : Nat), 0, sn, out⟩ m1 ⟨3, x.2, hd.1, 10, none, p.1, x.1, (firstOr post' 0 : Nat), 0, sn, ⟨0, 0, 1, s2⟩⟩ m2 := list_act (b := false) rfl (by
      simp only [checkAct, ListS.want, or_gone hfb.1]
      simp; omega) H2 (by
      rw [ho2]; simp only [ListS.after, ListS.removed]
      rw [if_pos trivial, if_neg (by simp)])
    rw [Int.toNat_natCast] at M2
    have I2 := (nd_inv hc I Nx (t := 1) (by omega) (by omega) (w := firstOr post' 0 + 4294967296) (by omega)).1
    have S2 := (nd_inv hc I Nx (t := 1) (by omega) (by omega) (w := firstOr post' 0 + 4294967296) (by omega)).2
    have Nx2 := node_lay1 hc I Nx (w := firstOr post' 0 + 4294967296) (by omega)
    have Np2 := node_lay hc I Nx (t := 1) (by omega) (by omega) (w := firstOr post' 0 + 4294967296) (by omega) Np (Ne.symm hpx)
    have Cpre2 := chn_lay hc I Nx (t := 1) (by omega) (by omega) (w := firstOr post' 0 + 4294967296) (by omega) C1 hx0
    have Cpost2 := chn_lay hc I Nx (t := 1) (by omega) (by omega) (w := firstOr post' 0 + 4294967296) (by omega) Cpost hx1
    have F2 := Frm.lay hc I Nx (t := 1) (by omega) (by omega) (w := firstOr post' 0 + 4294967296) (by omega) hxm
    have X2 := Chs.lay hc I Nx (t := 1) (by omega) (firstOr post' 0 + 4294967296)
    generalize upd f (adr c f x.1 + 1 + 1) (firstOr post' 0 + 4294967296) = g2 at *
    -- it is taken out
    have hpl : putLink (linkNext ((firstOr post' 0 : Nat) : Int)) false = (firstOr post' 0 : Nat) := by rw [linkNext_nat hfb.1, putLink_nat hfb.1]
    obtain ⟨n3, a3, m3, hn3, H3, M3, v3, s3, ho3⟩ := nd_write hc hw I2 M2 Np2 (t := 1) (w := (firstOr post' 0 : Nat)) (x := ⟨5, 0, p.1, 1, putLink (linkNext ((firstOr post' 0 : Nat) : Int)) false, w64 (x.1 : Nat), true⟩) rfl rfl rfl (by omega) (by omega) (.inr ⟨rfl, rfl, w64_nat (by omega)⟩) hpl (by omega) (by omega)
    have G3 : LFl e q n3 ⟨3, x.2, hd.1, 10, none, p.1, x.1, (firstOr post' 0 : Nat), 0, sn, ⟨0, 0, 1, s2⟩⟩ m2 ⟨3, x.2, hd.1, 11, none, p.1, x.1, (firstOr post' 0 : Nat), 0, sn, ⟨0, 0, 1, s2⟩⟩ m3 := list_act (b := false) rfl (by
      simp only [checkAct, ListS.want, hpl, w64_nat (show x.1 < 9223372036854775808 by omega)]
      simp; omega) H3 (by
      rw [ho3]; simp only [ListS.after, ListS.removed]
      rw [if_neg (by simp), if_pos trivial]; simp)
    rw [Int.toNat_natCast] at M3
    have I3 := (nd_inv hc I2 Np2 (t := 1) (by omega) (by omega) (w := firstOr post' 0) (by omega)).1
    have S3 := (nd_inv hc I2 Np2 (t := 1) (by omega) (by omega) (w := firstOr post' 0) (by omega)).2
    have Np3 := node_lay1 hc I2 Np2 (w := firstOr post' 0) (by omega)
    have Nx3 := node_lay hc I2 Np2 (t := 1) (by omega) (by omega) (w := firstOr post' 0) (by omega) Nx2 hpx
    have Cpre3 := chn_lay hc I2 Np2 (t := 1) (by omega) (by omega) (w := firstOr post' 0) (by omega) Cpre2 hp0
    have Cpost3 := chn_lay hc I2 Np2 (t := 1) (by omega) (by omega) (w := firstOr post' 0) (by omega) Cpost2 hp1
    have F3 := Frm.lay hc I2 Np2 (t := 1) (by omega) (by omega) (w := firstOr post' 0) (by omega) hpm
    have X3 := Chs.lay hc I2 Np2 (t := 1) (by omega) (firstOr post' 0)
    generalize upd g2 (adr c g2 p.1 + 1 + 1) (firstOr post' 0) = g3 at *
    -- it is let go
    obtain ⟨j, off, o⟩ := Nx3.H.cases I3
    obtain ⟨n4, a4, m4, g4, hn4, H4, M4, ⟨s4, ho4⟩, D⟩ := act_run hc hw M3 (x := ⟨2, 0, x.1, 0, 0, 0, true⟩) (N := 60) (R := fun d g => (∃ s, d = ⟨0, 0, 0, s⟩) ∧ Freed c g3 g F (sot x.1) j) (fun mm MM => by
      obtain ⟨k, d', m', g, hk, h1, h2, h3, h4⟩ := drop_run hc hw I3 MM (inc_ne I3.ep) Nx3.H o Nx3.own
      exact ⟨k, d', m', g, hk, h1, h2, h3, h4⟩)
    have G4 : LRn e q n4 ⟨3, x.2, hd.1, 11, none, p.1, x.1, (firstOr post' 0 : Nat), 0, sn, ⟨0, 0, 1, s2⟩⟩ m3 ⟨3, x.2, hd.1, 11, none, p.1, x.1, (firstOr post' 0 : Nat), 0, sn, ⟨0, 0, 1, s2⟩⟩ m4 := list_act (b := true) rfl (by rfl) H4 (by
      rw [ho4]; simp only [ListS.after, ListS.removed]
      rw [if_neg (by simp), if_neg (by simp)])
    have hkeep : ∀ {xs : List (Nat × Int)} {z : Nat}, Chn c g3 xs z → x.1 ∉ xs.map (·.1) → Chn c g4 xs z := fun {xs z} Cz hn => Cz.frame fun y hy => by
      obtain ⟨nx, N⟩ := Cz.node y hy
      have hne : y.1 ≠ x.1 := fun e => hn (e ▸ List.mem_map_of_mem hy)
      have ap := N.apart I3 Nx3 hne
      have := D.kept hc I3 Nx3.H.i0 Nx3.H.i1 o _ N.H.i0 N.H.i1 N.H.live ap.1
      refine ⟨this.1, fun b b0 b1 => this.2 b b0 ?_⟩
      have hs := N.size
      simp only [adr] at hs b1
      omega
    have hob := o.bd hc (I3.chk j o.j0 o.j1).us
    have hsx1 := Nx3.H.i1
    have hsx0 := Nx3.H.i0
    have hj0 := o.j0
    have ht0 := hc.t0
    have hs0 := hc.s0
    have hc0 := hc.c0
    refine ⟨n + (n2 + (n3 + n4)), _, m4, g4, by omega, H.rn (G2.rn (G3.rn G4)), M4, ?_⟩
    refine ⟨_, (pre ++ [p]).tail ++ post', ⟨D.inv, ?_, ?_, ?_⟩, (F2.trans F3).trans (Frm.freed hc I3 Nx3.H o D hxm), (X2.trans X3).trans ⟨fun k a b => D.rest _ (by omega) (by simp only [sA]; omega) (by simp only [sA]; omega) (by simp only [cA]; omega) (by omega), fun j' a b => ?_⟩, rfl,
      .inr ⟨hmem, rfl, fun B GB hB => ⟨((GB.same S2).same S3).freed hc I3 o D, ?_⟩, ?_, fun y hy => ?_, fun k => ?_, ?_⟩⟩
    · have e1 : hd :: ((pre ++ [p]).tail ++ post') = pre ++ ([p] ++ post') := by
        cases pre with
        | nil => simp only [List.nil_append, List.cons.injEq] at hns; simp [hns.1]
        | cons y pre => simp only [List.cons_append, List.cons.injEq] at hns; simp [hns.1]
      rw [e1]
      refine Chn.append.2 ⟨hkeep Cpre3 hx0, ?_⟩
      have hNp : Chn c g3 [p] (firstOr post' 0) := ⟨Np3, trivial⟩
      exact Chn.append.2 ⟨hkeep hNp (by simp [Ne.symm hpx]), hkeep Cpost3 hx1⟩
    · have hnd2 := L.nd
      rw [hks] at hnd2
      simp only [List.map_cons, List.map_append] at hnd2 ⊢
      simp only [List.nodup_cons, List.nodup_append, List.mem_append, List.mem_cons, not_or] at hnd2 ⊢
      exact ⟨⟨hnd2.1.1, hnd2.1.2.2⟩, hnd2.2.1, hnd2.2.2.1.2, fun a ha b hb => hnd2.2.2.2 a ha b (.inr hb)⟩
    · have hso2 := L.so
      rw [hks] at hso2
      simp only [List.map_append, List.map_cons, List.pairwise_append, List.pairwise_cons] at hso2 ⊢
      exact ⟨hso2.1, hso2.2.1.2, fun a ha b hb => hso2.2.2 a ha b (by simp only [List.mem_cons]; exact .inr hb)⟩
    · simp only [ckF]; rw [D.rest _ (by simp only [cA]; omega) (by simp only [cA, sA]; omega) (by simp only [cA, sA]; omega) (by simp only [cA]; omega) (by simp only [cA]; omega)]
    · have := (GB.same S2).same S3 (sot x.1) Nx3.H.i0 Nx3.H.i1
      rw [if_pos (by omega)]; simp
    · split <;> simp
    · rw [hks]
      simp only [List.map_append, List.map_cons, List.mem_append, List.mem_cons] at hy ⊢
      rcases hy with h | h
      · exact .inl h
      · exact .inr (.inr h)
    · have hso2 := L.so
      rw [hks] at hso2
      simp only [List.map_append, List.map_cons, List.pairwise_append, List.pairwise_cons] at hso2
      rw [keysOf, keysOf, hks]
      simp only [List.map_append, List.map_cons, List.mem_append, List.mem_cons]
      constructor
      · rintro (h | h)
        · refine ⟨?_, .inl h⟩
          have := hso2.2.2 k h x.2 (by simp)
          omega
        · refine ⟨?_, .inr (.inr h)⟩
          have := hso2.2.1.1 k h
          omega
      · rintro ⟨hne, h | h | h⟩
        · exact .inl h
        · exact absurd h hne
        · exact .inr h
    · rw [hks]; simp only [List.length_append, List.length_cons]; omega
  · have hm := (absent_mem hns L.so hlt hr).1
    simp only [ListS.absent, ListS.fin] at h
    rw [if_pos (by simp), if_pos (show Nat.beq 0 0 = true from rfl)] at h
    simp only [Prod.mk.injEq] at h
    obtain ⟨rfl, rfl⟩ := h
    exact ⟨n, _, m1, f, by omega, H, M1, ⟨F, ks, L, Frm.refl _ _ _, Chs.refl _ _, rfl, .inl ⟨hm, rfl, rfl, rfl, rfl⟩⟩⟩
end
end Go.FL

/- The arena, alone: a fresh one; a list begun; what is asked of it. -/
namespace Go.FL
set_option linter.unusedVariables false
set_option linter.unusedSimpArgs false
open Go Go.SL

section
variable {c : Cfg} {f g : Int → Nat} {F : List Int} {m : MemS} {q : Int} {e : EnvS}
structure Mw (m : MemS) (L : Int) (f : Int → Nat) : Prop where
  len : (m.cs.length : Int) = L
  at_ : ∀ a, 0 ≤ a → a < L → (m.at a).1 = f a
theorem Mw.st {L : Int} (M : Mw m L f) {a : Int} (w : Nat) (h0 : 0 ≤ a) (h1 : a < L) : Mw (m.st a w) L (upd f a w) := by
  have hl := M.len
  have hr : m.inR a = true := Bool.and_eq_true_iff.2 ⟨decide_eq_true h0, decide_eq_true (by omega)⟩
  have hs : m.st a w = (m.tick a).lay a w := by simp only [MemS.st, hr, if_true]
  rw [hs]
  refine ⟨by rw [MemS.lay_len]; exact hl, fun b b0 b1 => ?_⟩
  rw [MemS.lay_at _ _ h0 (by show a < (m.cs.length : Int); omega) b0]
  simp only [upd]
  split
  · rfl
  · exact M.at_ b b0 b1
theorem Mw.mv {L : Int} (M : Mw m L f) (h0 : 0 ≤ q) (h1 : q < L) : Mv m L q (f q) f := ⟨M.len, fun a a0 a1 _ => M.at_ a a0 a1, M.at_ q h0 h1, h0, h1⟩
theorem Mv.mw {L : Int} {p : Nat} (M : Mv m L q p f) (h : f q = p) : Mw m L f := ⟨M.len, fun a a0 a1 => by
  by_cases hq : a = q
  · subst hq; rw [M.pin, h]
  · exact M.at_ a a0 a1 hq⟩
/-- The words of a fresh arena. -/
def frF (c : Cfg) (n : Nat) (a : Int) : Nat :=
  if sA c 0 ≤ a ∧ a < sA c n then (if (a - sA c 0) % 2 = 0 then putSlot ⟨0, 0, 1, 0⟩ else putTop ((a - sA c 0) / 2 + 1) 0) else 0
def freshF (c : Cfg) : Int → Nat := upd (upd (frF c c.slots.toNat) (sA c (c.slots - 1) + 1) (putTop (-1) 0)) 1 (putTop 0 0)
theorem frTo_mw (hc : CfgOk c) : ∀ n : Nat, (n : Int) ≤ c.slots → Mw (frTo c (newMem (lenA c).toNat) n) (bA c c.chunks) (frF c n)
  | 0, _ => by
    have hL := bA_ge hc (j := c.chunks) (by have := hc.c0; omega)
    have hs0 := hc.s0
    have ht0 := hc.t0
    have hc0 := hc.c0
    refine ⟨?_, fun a a0 a1 => ?_⟩
    · simp only [frTo, List.range_zero, List.foldl_nil, newMem, List.length_replicate, lenA_eq hc]; omega
    · simp only [frTo, List.range_zero, List.foldl_nil, newMem, MemS.at, List.getD_eq_getElem?_getD, List.getElem?_replicate]
      have hn : ¬ (sA c 0 ≤ a ∧ a < sA c ((0 : Nat) : Int)) := by simp only [sA]; omega
      rw [frF, if_neg hn]
      split <;> rfl
  | n + 1, hn => by
    have hL := bA_ge hc (j := c.chunks) (by have := hc.c0; omega)
    have hs0 := hc.s0
    have hs1 := hc.s1
    have ht0 := hc.t0
    have ht1 := hc.t1
    have hc0 := hc.c0
    have M := frTo_mw hc n (by omega)
    rw [frTo_succ, frStep, slotA_eq hc (by omega) (by omega)]
    have hw : w64 (sA c n + 1) = sA c n + 1 := w64_id (by simp only [sA]; omega) (by simp only [sA]; omega)
    have hw2 : w64 ((n : Int) + 1) = n + 1 := w64_id (by omega) (by omega)
    rw [hw, hw2]
    have M2 := (M.st (a := sA c n) (putSlot ⟨0, 0, 1, 0⟩) (by simp only [sA]; omega) (by simp only [sA]; omega)).st (a := sA c n + 1) (putTop ((n : Int) + 1) 0) (by simp only [sA]; omega) (by simp only [sA]; omega)
    refine ⟨M2.len, fun a a0 a1 => ?_⟩
    rw [M2.at_ a a0 a1]
    simp only [upd]
    by_cases h1 : a = sA c n + 1
    · subst h1
      have c1 : sA c 0 ≤ sA c n + 1 ∧ sA c n + 1 < sA c ((n + 1 : Nat) : Int) := by simp only [sA]; omega
      have c2 : ¬ (sA c n + 1 - sA c 0) % 2 = 0 := by simp only [sA]; omega
      rw [if_pos rfl, frF, if_pos c1, if_neg c2]
      congr 1; simp only [sA]; omega
    · rw [if_neg h1]
      by_cases h2 : a = sA c n
      · subst h2
        have c1 : sA c 0 ≤ sA c n ∧ sA c n < sA c ((n + 1 : Nat) : Int) := by simp only [sA]; omega
        have c2 : (sA c n - sA c 0) % 2 = 0 := by simp only [sA]; omega
        rw [if_pos rfl, frF, if_pos c1, if_pos c2]
      · rw [if_neg h2, frF, frF]
        by_cases h3 : sA c 0 ≤ a ∧ a < sA c n
        · have c1 : sA c 0 ≤ a ∧ a < sA c ((n + 1 : Nat) : Int) := by simp only [sA] at h3 ⊢; omega
          rw [if_pos h3, if_pos c1]
        · have c1 : ¬ (sA c 0 ≤ a ∧ a < sA c ((n + 1 : Nat) : Int)) := by simp only [sA] at h1 h2 h3 ⊢; omega
          rw [if_neg h3, if_neg c1]
theorem fresh_mw (hc : CfgOk c) : Mw (freshM c) (bA c c.chunks) (freshF c) := by
  have hL := bA_ge hc (j := c.chunks) (by have := hc.c0; omega)
  have hs0 := hc.s0
  have hs1 := hc.s1
  have ht0 := hc.t0
  have ht1 := hc.t1
  have hc0 := hc.c0
  have M := frTo_mw hc c.slots.toNat (by omega)
  have hw : w64 (c.slots - 1) = c.slots - 1 := w64_id (by omega) (by omega)
  have hw2 : w64 (sA c (c.slots - 1) + 1) = sA c (c.slots - 1) + 1 := w64_id (by simp only [sA]; omega) (by simp only [sA]; omega)
  rw [freshM, hw, slotA_eq hc (by omega) (by omega), hw2]
  exact (M.st (putTop (-1) 0) (by simp only [sA]; omega) (by simp only [sA]; omega)).st (putTop 0 0) (by omega) (by omega)
def slotsFrom (n : Nat) : Nat → List Int
  | 0 => []
  | k + 1 => (n : Int) :: slotsFrom (n + 1) k
theorem slotsFrom_mem : ∀ {k n : Nat} {i : Int}, i ∈ slotsFrom n k ↔ (n : Int) ≤ i ∧ i < n + k
  | 0, n, i => by
    simp only [slotsFrom, List.not_mem_nil, false_iff]; omega
  | k + 1, n, i => by
    simp only [slotsFrom, List.mem_cons, slotsFrom_mem (k := k)]
    omega
theorem slotsFrom_nodup : ∀ (k n : Nat), (slotsFrom n k).Nodup
  | 0, n => List.nodup_nil
  | k + 1, n => List.nodup_cons.2 ⟨fun h => by have := slotsFrom_mem.1 h; omega, slotsFrom_nodup k (n + 1)⟩
theorem slotsFrom_len : ∀ (k n : Nat), (slotsFrom n k).length = k
  | 0, n => rfl
  | k + 1, n => by simp [slotsFrom, slotsFrom_len k]
theorem freshF_slot (hc : CfgOk c) {i : Int} (i0 : 0 ≤ i) (i1 : i < c.slots) : freshF c (sA c i) = putSlot ⟨0, 0, 1, 0⟩ ∧ freshF c (sA c i + 1) = putTop (if i = c.slots - 1 then -1 else i + 1) 0 := by
  have ht0 := hc.t0
  refine ⟨?_, ?_⟩
  · have c1 : sA c 0 ≤ sA c i ∧ sA c i < sA c (c.slots.toNat : Nat) := by simp only [sA]; omega
    have c2 : (sA c i - sA c 0) % 2 = 0 := by simp only [sA]; omega
    rw [freshF, upd_ne (by simp only [sA]; omega), upd_ne (by simp only [sA]; omega), frF, if_pos c1, if_pos c2]
  · rw [freshF, upd_ne (by simp only [sA]; omega)]
    by_cases h : i = c.slots - 1
    · rw [if_pos h, h, upd_self]
    · have c1 : sA c 0 ≤ sA c i + 1 ∧ sA c i + 1 < sA c (c.slots.toNat : Nat) := by simp only [sA]; omega
      have c2 : ¬ (sA c i + 1 - sA c 0) % 2 = 0 := by simp only [sA]; omega
      rw [if_neg h, upd_ne (by simp only [sA]; omega), frF, if_pos c1, if_neg c2]
      congr 1; simp only [sA]; omega
theorem freshF_zero (hc : CfgOk c) {a : Int} (h : a < 1 ∨ (1 < a ∧ a < sA c 0) ∨ 6 + c.threads + 2 * c.slots ≤ a) : freshF c a = 0 := by
  have ht0 := hc.t0
  have hs0 := hc.s0
  have c1 : ¬ (sA c 0 ≤ a ∧ a < sA c (c.slots.toNat : Nat)) := by simp only [sA] at h ⊢; omega
  rw [freshF, upd_ne (by simp only [sA] at h; omega), upd_ne (by simp only [sA] at h ⊢; omega), frF, if_neg c1]
theorem fresh_chain (hc : CfgOk c) : ∀ k n : Nat, (n : Int) + k = c.slots → ChainF c (freshF c) (slotsFrom n k)
    | 0, n, _ => trivial
    | k + 1, n, h => by
      have hs1 := hc.s1
      refine ⟨by omega, ?_, fresh_chain hc k (n + 1) (by omega)⟩
      rw [(freshF_slot hc (i := n) (by omega) (by omega)).2]
      cases k with
      | zero => rw [if_pos (by omega)]; exact topSlot_put (by omega) (by omega)
      | succ k => rw [if_neg (by omega)]; exact topSlot_put (by omega) (by omega)
theorem fresh_inv (hc : CfgOk c) : Inv c (freshF c) (slotsFrom 0 c.slots.toNat) ∧ Gens c (freshF c) 1 ∧ Cap c (freshF c) 0 := by
  have ht0 := hc.t0
  have hs0 := hc.s0
  have hs1 := hc.s1
  have hc0 := hc.c0
  have hg0 := hc.g0
  have sl : ∀ i, 0 ≤ i → i < c.slots → slF c (freshF c) i = ⟨0, 0, 1, 0⟩ := fun i a b => by
    simp only [slF]; rw [(freshF_slot hc a b).1]; decide
  have ck : ∀ j, 0 ≤ j → ckF c (freshF c) j = ⟨0, 0, 0, 0⟩ := fun j a => by
    simp only [ckF]; rw [freshF_zero hc (.inr (.inr (by simp only [cA]; omega)))]; decide
  refine ⟨⟨by rw [freshF_zero hc (.inl (by omega))]; omega, ?_, fresh_chain hc _ 0 (by omega), slotsFrom_nodup _ _, fun i hi => ?_, fun i a b => by rw [sl i a b]; simp only; omega, fun i a b => .inl (by rw [sl i a b]), fun i i' a b a' b' s => ?_, fun j a b => ⟨.inl (by rw [ck j a]; simp), by rw [ck j a]; have := hc.w0; simp only; omega, fun off o0 o1 => ?_⟩, fun k a b => .inl (freshF_zero hc (.inr (.inl (by simp only [sA]; omega))))⟩, fun i a b => by rw [sl i a b]; simp, ⟨?_, fun j a b h => by omega, fun j a b h => by rw [ck j a]⟩⟩
  · obtain ⟨k, hk⟩ : ∃ k, c.slots.toNat = k + 1 := ⟨c.slots.toNat - 1, by omega⟩
    rw [hk, freshF, upd_self]
    exact topSlot_put (by omega) (by omega)
  · have := slotsFrom_mem.1 hi
    rw [sl i (by omega) (by omega)]
  · rw [sl i a b] at s; simp at s
  · rw [ck j a] at o0
    have := bA_ge hc a
    exact freshF_zero hc (.inr (.inr (by simp only at o0; omega)))
  · rw [freshF_zero hc (.inr (.inl (by simp only [sA]; omega)))]; rfl
theorem actRun_of {n : Nat} {s s' : ActS} {m' : MemS} (h : ARn e q n s m s' m') : ∀ N, n ≤ N → actRun e N s m = some (s', m') := by
  obtain ⟨k, s1, m1, rfl, h1, h2, h3, _⟩ := h.ex
  have last : ∀ N, 1 ≤ N → actRun e N s1 m1 = some (s', m') := fun N hN => by
    obtain ⟨N, rfl⟩ : ∃ N', N = N' + 1 := ⟨N - 1, by omega⟩
    simp only [actRun, h2, if_true, h3]
  clear h
  induction h1 with
  | nil => exact last
  | cons g1 g2 g3 _ ih =>
    intro N hN
    obtain ⟨N, rfl⟩ : ∃ N', N = N' + 1 := ⟨N - 1, by omega⟩
    simp only [actRun, g1, if_true, g2]
    exact ih h2 h3 last N (by omega)
/-- A node of its own is made: a list without keys. -/
theorem head_run (hc : CfgOk c) (hw : Who c e q) {i : Int} (I : Inv c f (i :: F)) (M : LMv c q m f) {N : Nat} (w40 : c.words = 40) (C : Cap c f N) (hN : N < 13 * c.chunks) :
    ∃ n a' m' g s j u, n ≤ 164 ∧ ARn e q n (newAct ⟨1, 2, 0, 0, 0, 0, true⟩) m a' m' ∧ LMv c q m' g ∧ a'.out = ⟨0, putHandle ⟨i, (slF c f i).gen⟩, 0, s⟩ ∧ Made c f g F 2 true i j u ∧
      LS c g F (putHandle ⟨i, (slF c f i).gen⟩, 0) [] ∧ Cap c g (N + 1) ∧ sot (putHandle ⟨i, (slF c f i).gen⟩) = i := by
  obtain ⟨n, a', m', g, hn, H, M', hres⟩ := act_run hc hw M (x := ⟨1, 2, 0, 0, 0, 0, true⟩) (N := 160) (R := fun d g => ∃ s j u, d = ⟨0, putHandle ⟨i, (slF c f i).gen⟩, 0, s⟩ ∧ Made c f g F 2 true i j u) (fun mm MM => by
    obtain ⟨n, d', m', g, hn, h1, h2, h3⟩ := alloc_run hc hw I MM (inc_ne I.ep) (size := 2) (own := true) (by omega) (by omega)
    refine ⟨n, d', m', g, hn, h1, h2, ?_⟩
    rcases h3 with ⟨h, _⟩ | ⟨_, _, _, _, _, hf, _⟩ | ⟨i', F', j, u, hF, ⟨s, hd⟩, Md⟩
    · cases h
    · exact absurd hf (C.notfull w40 hN)
    · cases hF; exact ⟨s, j, u, hd, Md⟩)
  obtain ⟨s, j, u, ho, Md⟩ := hres
  have hg := I.gen i Md.i0 Md.i1
  have hg1 := hc.g1
  have hs1 := hc.s1
  have i0 := Md.i0
  have i1 := Md.i1
  have hho : handleOf (putHandle ⟨i, (slF c f i).gen⟩) = (⟨i, (slF c f i).gen⟩, true) := newHandle (by omega) (by omega) (by omega) (by omega) rfl
  have hso : sot (putHandle ⟨i, (slF c f i).gen⟩) = i := by simp only [sot, hho]
  have hsl := Md.sl
  have hhd := Md.hd
  have hze := Md.ze
  have hadr : adr c g (putHandle ⟨i, (slF c f i).gen⟩) = bA c j + u := by simp only [adr, hso, hsl]
  refine ⟨n, a', m', g, s, j, u, hn, H, M', ho, Md, ⟨Md.inv, ⟨⟨⟨by rw [hso, hsl, hho], by rw [hso]; exact i0, by rw [hso]; exact i1, by rw [hso, hsl]⟩, by rw [hadr, hhd], by rw [hadr, hhd], ?_, ?_⟩, trivial⟩, by simp, List.Pairwise.nil⟩, C.made hc w40 Md hN, hso⟩
  · rw [hadr]; have := hze 0 (by omega) (by omega); rw [Int.add_zero] at this; rw [this]; rfl
  · rw [hadr]; have := hze 1 (by omega) (by omega); rw [show bA c j + u + 2 = bA c j + u + 1 + 1 by omega]; exact this
end
end Go.FL

/- The arena, alone: a list asked again and again. -/
namespace Go.FL
open Go Go.SL

section
variable {c : Cfg} {f g : Int → Nat} {F : List Int} {m : MemS} {q : Int} {e : EnvS}
theorem ask_of {hd : Nat} {kind key : Int} {n : Nat} {s' : ListS} {m' : MemS} (hk : checkList kind key = true) (h : LRn e q n (newList kind key hd) m s' m') (hn : n ≤ 20000) : FL.ask e hd kind key m = some (s'.out, m') := by
  unfold FL.ask
  rw [if_pos hk, listRun_of h 20000 hn]; rfl
theorem sorted_len : ∀ (l : List Int) (a b : Int), l.Pairwise (· < ·) → (∀ k ∈ l, a ≤ k ∧ k < b) → a ≤ b → (l.length : Int) ≤ b - a
  | [], a, b, _, _, h => by simp; omega
  | x :: l, a, b, h, hk, hab => by
    have hx := hk x (by simp)
    have h2 := List.pairwise_cons.1 h
    have := sorted_len l (x + 1) b h2.2 (fun k hm => ⟨by have := h2.1 k hm; omega, (hk k (by simp [hm])).2⟩) (by omega)
    simp only [List.length_cons]; omega
/-- What is known of the keys: whether each is there. -/
def Knows (ks : List (Nat × Int)) (inn : List Bool) : Prop := ∀ k, k ∈ keysOf ks ↔ 0 ≤ k ∧ k < inn.length ∧ inn[k.toNat]?.getD false = true
theorem Knows.set {ks ks' : List (Nat × Int)} {inn : List Bool} (K : Knows ks inn) {k : Int} (k0 : 0 ≤ k) (k1 : k < inn.length) (b : Bool) (h : ∀ x, x ∈ keysOf ks' ↔ if x = k then b = true else x ∈ keysOf ks) : Knows ks' (inn.set k.toNat b) := by
  intro x
  rw [h, List.length_set]
  by_cases hx : x = k
  · subst hx
    rw [if_pos rfl, List.getElem?_set_self (by omega)]
    simp only [Option.getD_some]
    constructor
    · intro hb; exact ⟨k0, k1, hb⟩
    · exact fun h => h.2.2
  · rw [if_neg hx, K x]
    by_cases h0 : 0 ≤ x
    · rw [List.getElem?_set_ne (by omega)]
    · simp [h0]
structure LA (c : Cfg) (q : Int) (hd : Nat × Int) (m : MemS) (inn : List Bool) (i : Nat) : Prop where
  ex : ∃ f F ks, ∃ N : Nat, ∃ B : Int, LMv c q m f ∧ LS c f F hd ks ∧ Cap c f N ∧ Gens c f B ∧ N ≤ i + 1 ∧ B ≤ i + 1 ∧ (F.length : Int) + ks.length + 1 = c.slots ∧ Knows ks inn
theorem LA.keys {ks : List (Nat × Int)} {inn : List Bool} {hd : Nat × Int} (L : LS c f F hd ks) (K : Knows ks inn) : ks.length ≤ inn.length := by
  have := sorted_len (ks.map (·.2)) 0 inn.length L.so (fun k hk => by have := (K k).1 hk; omega) (by omega)
  simp only [List.length_map] at this; omega
/-- Whoever asks, alone, is told what is there. -/
theorem LA.step (hc : CfgOk c) (hw : Who c e q) (w40 : c.words = 40) {hd : Nat × Int} {inn : List Bool} {i : Nat} (A : LA c q hd m inn i) {kind key : Int} (kd : kind = 1 ∨ kind = 2 ∨ kind = 3) (k0 : 0 ≤ key) (k1 : key < inn.length) (kb : inn.length ≤ 1000)
    (hi : (i : Int) + 1 < 13 * c.chunks) (hg : (i : Int) + 1 < c.gens) (hsl : (inn.length : Int) + 1 < c.slots) :
    ∃ d m', FL.ask e hd.1 kind key m = some (d, m') ∧ d.e = 0 ∧ d.v = (if (inn[key.toNat]?.getD false == (!decide (kind = 2))) = true then 1 else 0) ∧ LA c q hd m' (if kind = 1 then inn else inn.set key.toNat (decide (kind = 2))) (i + 1) := by
  obtain ⟨f, F, ks, N, B, M, L, C, G, hN, hB, hF, K⟩ := A.ex
  have hlen := LA.keys L K
  have hck : checkList kind key = true := by
    simp only [checkList, Bool.and_eq_true, decide_eq_true_eq]; omega
  have hin : (key ∈ keysOf ks) ↔ inn[key.toNat]?.getD false = true := by rw [K key]; exact ⟨fun h => h.2.2, fun h => ⟨k0, k1, h⟩⟩
  have hcase : ∀ b, inn[key.toNat]?.getD false = b → ((key ∈ keysOf ks) ↔ b = true) := fun b hb => by rw [hin, hb]
  generalize hb : inn[key.toNat]?.getD false = b at *
  rcases kd with rfl | rfl | rfl
  · obtain ⟨n, s', m', hn, H, M', st, ho⟩ := has_run hc hw L M key
    refine ⟨_, m', ask_of hck H (by omega), by rw [ho], ?_, ⟨f, F, ks, N, B, M', L, C, G, by omega, by omega, hF, by rw [if_pos rfl]; exact K⟩⟩
    rw [ho]
    cases b
    · rw [if_neg (by rw [hin]; simp)]; rfl
    · rw [if_pos (hin.2 rfl)]; rfl
  · obtain ⟨n, s', m', g, hn, H, M', ⟨⟨F', ks', L', -, hG, hr⟩⟩⟩ := add_run hc hw L M k0 (show key < 1073741824 by omega)
    refine ⟨_, m', ask_of hck H (by omega), ?_⟩
    rw [if_neg (show ¬ (2 : Int) = 1 by decide), show decide ((2 : Int) = 2) = true by decide]
    rcases hr with ⟨h1, h2, h3, rfl, rfl, rfl⟩ | ⟨h1, rfl, _⟩ | ⟨h1, hf, _⟩ | ⟨h1, h2, h3, ⟨i', rfl, -⟩, h5, h6, h7⟩
    · obtain rfl := hin.1 h1
      refine ⟨h2, by rw [h3]; rfl, ⟨_, _, _, N, B, M', L', C, G, by omega, by omega, hF, ?_⟩⟩
      refine K.set k0 k1 true fun x => ?_
      by_cases hx : x = key
      · subst hx; simp [h1]
      · rw [if_neg hx]
    · simp only [List.length_nil] at hF; omega
    · exact absurd hf (C.notfull w40 (by omega))
    · have hbf : b = false := by
        cases b
        · rfl
        · exact absurd (hin.2 rfl) h1
      subst hbf
      simp only [List.length_cons] at hF
      refine ⟨h2, by rw [h3]; rfl, ⟨_, _, _, N + 1, B, M', L', h7 N w40 (by omega) C, hG B G, by omega, by omega, by omega, ?_⟩⟩
      refine K.set k0 k1 true fun x => ?_
      rw [h5]
      by_cases hx : x = key
      · simp [hx]
      · rw [if_neg hx]; simp [hx]
  · obtain ⟨n, s', m', g, hn, H, M', ⟨⟨F', ks', L', -, hX, he, hr⟩⟩⟩ := remove_run hc hw L M (key := key)
    refine ⟨_, m', ask_of hck H (by omega), ?_⟩
    rw [if_neg (show ¬ (3 : Int) = 1 by decide), show decide ((3 : Int) = 2) = false by decide]
    rcases hr with ⟨h1, h2, rfl, rfl, rfl⟩ | ⟨h1, h2, h3, -, -, h5, h6⟩
    · have hbf : b = false := by
        cases b
        · rfl
        · exact absurd (hin.2 rfl) h1
      subst hbf
      refine ⟨he, by rw [h2]; rfl, ⟨_, _, _, N, B, M', L', C, G, by omega, by omega, hF, ?_⟩⟩
      refine K.set k0 k1 false fun x => ?_
      by_cases hx : x = key
      · subst hx; simp [h1]
      · rw [if_neg hx]
    · obtain rfl := hin.1 h1
      obtain ⟨h7, h8⟩ := h3 B G (by omega)
      refine ⟨he, by rw [h2]; rfl, ⟨_, _, _, N, B + 1, M', L', hX.cap C, h7, by omega, by omega, by omega, ?_⟩⟩
      refine K.set k0 k1 false fun x => ?_
      rw [h5]
      by_cases hx : x = key
      · simp [hx]
      · rw [if_neg hx]; simp [hx]
/-- A fresh arena with a list. -/
theorem begun_ok (n : Nat) (n0 : 1 ≤ n) (n1 : n ≤ 65536) : ∃ (d : DoneS) (m : MemS) (k : Int), FL.begun n = some (d, m) ∧ d.e = 0 ∧ ∀ K : Nat, LA (arena 4 n 12 40).c 6 (d.h, k) m (List.replicate K false) 0 ∧ Who (arena 4 n 12 40).c (arena 4 n 12 40) 6 := by
  have hc : CfgOk (arena 4 n 12 40).c := by constructor <;> simp only [arena] <;> omega
  have hw : Who (arena 4 n 12 40).c (arena 4 n 12 40) 6 := ⟨rfl, by omega, by simp only [arena]; omega, (by decide : pinA 0 = 6)⟩
  obtain ⟨I, G, C⟩ := fresh_inv hc
  have hL := bA_ge hc (j := (arena 4 n 12 40).c.chunks) (by simp only [arena]; omega)
  have hz : freshF (arena 4 n 12 40).c 6 = 0 := freshF_zero hc (.inr (.inl (by simp only [sA, arena]; omega)))
  have M := (fresh_mw hc).mv (q := 6) (by omega) (by simp only [arena] at hL ⊢; omega)
  rw [hz] at M
  obtain ⟨k, hk⟩ : ∃ k, (arena 4 n 12 40).c.slots.toNat = k + 1 := ⟨n - 1, by simp only [arena]; omega⟩
  rw [hk] at I
  have hlen := slotsFrom_len k 1
  obtain ⟨N, a', m', g, s, j, u, hN, H, M', ho, Md, L, C', -⟩ := head_run hc hw (i := 0) (F := slotsFrom 1 k) I M rfl C (by simp only [arena]; omega)
  refine ⟨a'.out, m', 0, ?_, by rw [ho], fun K => ⟨⟨g, slotsFrom 1 k, [], 1, 1, M', by rw [ho]; exact L, C', G.made hc Md, by omega, by omega, ?_, fun x => ?_⟩, hw⟩⟩
  · unfold FL.begun doAct
    rw [if_pos (by decide), actRun_of H 500 (by omega)]; rfl
  · rw [hlen]; simp only [List.length_nil]; omega
  · simp only [keysOf, List.map_nil, List.not_mem_nil, false_iff, not_and, List.length_replicate]
    intro x0 x1
    rw [List.getElem?_replicate]; split <;> simp
end
end Go.FL

/- The arena, alone: what is seen of nodes without a step. -/
namespace Go.FL
set_option linter.unusedVariables false
set_option linter.unusedSimpArgs false
open Go Go.SL
def nodeV (m : MemS) (c : Cfg) (h : Nat) (a : Int) : Int := (cellOf (m.peek (w64 ((slotOf (m.peek (slotA c (sot h)))).addr + a)))).value
section
variable {c : Cfg} {f g : Int → Nat} {F : List Int} {m : MemS} {q : Int} {e : EnvS}
theorem Mv.peek {L : Int} {p : Nat} (M : Mv m L q p f) {a : Int} (h0 : 0 ≤ a) (h1 : a < L) (h2 : a ≠ q) : m.peek a = f a := by
  have hl := M.len
  have hr : m.inR a = true := Bool.and_eq_true_iff.2 ⟨decide_eq_true h0, decide_eq_true (by omega)⟩
  simp only [MemS.peek, hr, if_true]
  exact M.at_ a h0 h1 h2
theorem nodeV_of (hc : CfgOk c) (hq : q < 6 + c.threads) (I : Inv c f F) (M : LMv c q m f) {h : Nat} {k : Int} {nx : Nat} (N : Node c f h k nx) : nodeV m c h 2 = nx ∧ nodeV m c h 1 = k := by
  obtain ⟨j, off, o⟩ := N.H.cases I
  have hb := o.bd hc (I.chk j o.j0 o.j1).us
  have hL := bA_ge hc (j := c.chunks) (by have := hc.c0; omega)
  have hL2 := bA_bd hc
  have hs1 := hc.s1
  have hs0 := hc.s0
  have hc0 := hc.c0
  have ht0 := hc.t0
  have i0 := N.H.i0
  have i1 := N.H.i1
  have hsz := N.size
  have hn := N.nx
  have hk := N.key
  simp only [adr] at hsz hn hk
  rw [hsz] at hb
  have hs : slotA c (sot h) = sA c (sot h) := slotA_eq hc (by omega) (by omega)
  have p1 : m.peek (sA c (sot h)) = f (sA c (sot h)) := M.peek (by simp only [sA]; omega) (by simp only [sA]; omega) (by simp only [sA]; omega)
  have hS : slotOf (f (sA c (sot h))) = slF c f (sot h) := rfl
  have c1 := o.ce 1 (by omega) (by omega)
  have c0 := o.ce 0 (by omega) (by omega)
  have w1 : w64 ((slF c f (sot h)).addr + 1) = (slF c f (sot h)).addr + 1 := w64_id (by omega) (by omega)
  have w2 : w64 ((slF c f (sot h)).addr + 2) = (slF c f (sot h)).addr + 2 := w64_id (by omega) (by omega)
  rw [show (slF c f (sot h)).addr + 1 + 1 = (slF c f (sot h)).addr + 2 by omega] at c1
  rw [Int.add_zero] at c0
  refine ⟨?_, ?_⟩
  · simp only [nodeV]
    rw [hs, p1, hS, w2, M.peek (by omega) (by omega) (by omega), cellOf_lt c1, hn]
  · simp only [nodeV]
    rw [hs, p1, hS, w1, M.peek (by omega) (by omega) (by omega), cellOf_lt c0, hk]
structure Seen (m : MemS) (c : Cfg) (hd : Nat) (ks : List (Nat × Int)) (inn : List Bool) : Prop where
  h0 : nodeV m c hd 2 = (firstOr ks 0 : Nat)
  h00 : firstOr ks 0 < 4294967296
  hn : ∀ pre x post, ks = pre ++ x :: post → nodeV m c x.1 2 = (firstOr post 0 : Nat) ∧ nodeV m c x.1 1 = x.2 ∧ 65536 ≤ x.1 ∧ x.1 < 4294967296 ∧ firstOr post 0 < 4294967296
  so : (ks.map (·.2)).Pairwise (· < ·)
  K : Knows ks inn
theorem seen_of (hc : CfgOk c) (hq : q < 6 + c.threads) {hd : Nat × Int} {ks : List (Nat × Int)} {inn : List Bool} (L : LS c f F hd ks) (M : LMv c q m f) (K : Knows ks inn) : Seen m c hd.1 ks inn := by
  refine ⟨(nodeV_of hc hq L.inv M L.ch.1).1, (firstOr_bd L.ch.2).1, fun pre x post h => ?_, L.so, K⟩
  have C := L.ch.2
  rw [h] at C
  obtain ⟨_, C2⟩ := Chn.append.1 C
  have hv := nodeV_of hc hq L.inv M C2.1
  have hb := C2.1.bd
  exact ⟨hv.1, hv.2, hb.1, hb.2, (firstOr_bd C2.2).1⟩
theorem kind3 (k : Int) : let d := arith .add .i64 1 (arith .rem .i64 (arith .add .i64 (arith .rem .i64 k 3) 3) 3); d = 1 ∨ d = 2 ∨ d = 3 := by
  have h1 : -3 < k.tmod 3 ∧ k.tmod 3 < 3 := by
    have := Int.tmod_lt_of_pos k (b := 3) (by decide)
    have h2 := Int.lt_tmod_of_pos k (b := 3) (by decide)
    omega
  have h2 : arith .rem .i64 k 3 = k.tmod 3 := rfl
  have h3 : arith .add .i64 (k.tmod 3) 3 = k.tmod 3 + 3 := w64_id (by omega) (by omega)
  have h4 : arith .rem .i64 (k.tmod 3 + 3) 3 = (k.tmod 3 + 3) % 3 := by
    show (k.tmod 3 + 3).tmod 3 = _
    exact Int.tmod_eq_emod_of_nonneg (by omega)
  have h5 : arith .add .i64 1 ((k.tmod 3 + 3) % 3) = 1 + (k.tmod 3 + 3) % 3 := w64_id (by omega) (by omega)
  simp only [h2, h3, h4, h5]
  omega
theorem key15 (k : Int) : ∃ n : Nat, arith .and .i64 k 15 = n ∧ n < 16 := by
  have := andIo (n := k) (m := 15) (by omega)
  refine ⟨u64i k &&& 15, this, ?_⟩
  have := Nat.and_le_right (n := u64i k) (m := 15)
  omega
structure Want where
  who : Int
  kind : Int
  key : Int
def Want.cs (w : Want) : List VV := [.int .i64 w.who, .int .i64 w.kind, .int .i64 w.key]
end
end Go.FL

/- The arena, alone: a list asked, with the number of its keys. -/
namespace Go.FL
open Go Go.SL

section
variable {c : Cfg} {f g : Int → Nat} {F : List Int} {m : MemS} {q : Int} {e : EnvS}
structure LX (c : Cfg) (q : Int) (hd : Nat × Int) (m : MemS) (inn : List Bool) (cnt a : Nat) (b : Int) : Prop where
  ex : ∃ f F ks, ∃ N : Nat, ∃ B : Int, LMv c q m f ∧ LS c f F hd ks ∧ Cap c f N ∧ Gens c f B ∧ N ≤ a ∧ B ≤ b ∧ (F.length : Int) + cnt + 1 = c.slots ∧ ks.length = cnt ∧ Knows ks inn
theorem LA.lx {hd : Nat × Int} {inn : List Bool} (A : LA c q hd m inn 0) (h : ∀ k : Nat, inn[k]?.getD false = false) : LX c q hd m inn 0 1 1 := by
  obtain ⟨f, F, ks, N, B, M, L, C, G, hN, hB, hF, K⟩ := A.ex
  have hk : ks = [] := by
    cases ks with
    | nil => rfl
    | cons x ks =>
      have := (K x.2).1 (by simp [keysOf])
      rw [h] at this
      exact absurd this.2.2 (by decide)
  subst hk
  exact ⟨f, F, [], N, B, M, L, C, G, by omega, by omega, by simpa using hF, rfl, K⟩
theorem LX.weak {hd : Nat × Int} {inn : List Bool} {cnt a a' : Nat} {b b' : Int} (A : LX c q hd m inn cnt a b) (h1 : a ≤ a') (h2 : b ≤ b') : LX c q hd m inn cnt a' b' := by
  obtain ⟨f, F, ks, N, B, M, L, C, G, hN, hB, hF, hn, K⟩ := A.ex
  exact ⟨f, F, ks, N, B, M, L, C, G, by omega, by omega, hF, hn, K⟩
theorem LX.has (hc : CfgOk c) (hw : Who c e q) {hd : Nat × Int} {inn : List Bool} {cnt a : Nat} {b : Int} (A : LX c q hd m inn cnt a b) {key : Nat} (k1 : key < inn.length) (kb : inn.length ≤ 1000) :
    ∃ h s m', FL.ask e hd.1 1 key m = some (⟨0, h, if inn[key]?.getD false = true then 1 else 0, s⟩, m') ∧ LX c q hd m' inn cnt a b := by
  obtain ⟨f, F, ks, N, B, M, L, C, G, hN, hB, hF, hn, K⟩ := A.ex
  have hlen := LA.keys L K
  have hck : checkList 1 key = true := by simp only [checkList, Bool.and_eq_true, decide_eq_true_eq]; omega
  have hin : ((key : Int) ∈ keysOf ks) ↔ inn[key]?.getD false = true := by rw [K key, Int.toNat_natCast]; exact ⟨fun h => h.2.2, fun h => ⟨by omega, by omega, h⟩⟩
  obtain ⟨n, s', m', hn', H, M', st, ho⟩ := has_run hc hw L M key
  refine ⟨0, st, m', ?_, ⟨f, F, ks, N, B, M', L, C, G, hN, hB, hF, hn, K⟩⟩
  rw [ask_of hck H (by omega), ho]
  by_cases h : (key : Int) ∈ keysOf ks
  · rw [if_pos h, if_pos (hin.1 h)]
  · rw [if_neg h, if_neg (fun h' => h (hin.2 h'))]
theorem LX.add (hc : CfgOk c) (hw : Who c e q) (w40 : c.words = 40) {hd : Nat × Int} {inn : List Bool} {cnt a : Nat} {b : Int} (A : LX c q hd m inn cnt a b) {key : Nat} (k1 : key < inn.length) (kb : inn.length ≤ 1000) (ha : (a : Int) < 13 * c.chunks) :
    ∃ x h v s m', FL.ask e hd.1 2 key m = some (⟨x, h, v, s⟩, m') ∧
      ((inn[key]?.getD false = true ∧ x = 0 ∧ v = 0 ∧ LX c q hd m' inn cnt (a + 1) b) ∨
       (inn[key]?.getD false = false ∧ (cnt : Int) + 1 = c.slots ∧ x = 7 ∧ v = 0 ∧ LX c q hd m' inn cnt (a + 1) b) ∨
       (inn[key]?.getD false = false ∧ (cnt : Int) + 1 < c.slots ∧ x = 0 ∧ v = 1 ∧ LX c q hd m' (inn.set key true) (cnt + 1) (a + 1) b)) := by
  obtain ⟨f, F, ks, N, B, M, L, C, G, hN, hB, hF, hn, K⟩ := A.ex
  have hlen := LA.keys L K
  have hck : checkList 2 key = true := by simp only [checkList, Bool.and_eq_true, decide_eq_true_eq]; omega
  have hin : ((key : Int) ∈ keysOf ks) ↔ inn[key]?.getD false = true := by rw [K key, Int.toNat_natCast]; exact ⟨fun h => h.2.2, fun h => ⟨by omega, by omega, h⟩⟩
  obtain ⟨n, s', m', g, hn', H, M', ⟨⟨F', ks', L', -, hG, hr⟩⟩⟩ := add_run hc hw L M (key := key) (by omega) (by omega)
  refine ⟨_, _, _, _, m', ask_of hck H (by omega), ?_⟩
  rcases hr with ⟨h1, h2, h3, rfl, rfl, rfl⟩ | ⟨h1, rfl, h2, h3, rfl, rfl, rfl⟩ | ⟨h1, hf, _⟩ | ⟨h1, h2, h3, ⟨i', rfl, -⟩, h5, h6, h7⟩
  · exact .inl ⟨hin.1 h1, h2, h3, ⟨_, _, _, N, B, M', L', C, G, by omega, hB, hF, hn, K⟩⟩
  · refine .inr (.inl ⟨?_, ?_, h2, h3, ⟨_, _, _, N, B, M', L', C, G, by omega, hB, hF, hn, K⟩⟩)
    · rw [← Bool.not_eq_true]; exact fun h => h1 (hin.2 h)
    · simp only [List.length_nil] at hF; omega
  · exact absurd hf (C.notfull w40 (by omega))
  · simp only [List.length_cons] at hF
    refine .inr (.inr ⟨?_, by omega, h2, h3, ⟨_, _, _, N + 1, B, M', L', h7 N w40 (by omega) C, hG B G, by omega, hB, by omega, by omega, ?_⟩⟩)
    · rw [← Bool.not_eq_true]; exact fun h => h1 (hin.2 h)
    · have := K.set (ks' := ks') (k := key) (by omega) (by omega) true fun x => ?_
      · rwa [Int.toNat_natCast] at this
      · rw [h5]
        by_cases hx : x = key
        · simp [hx]
        · rw [if_neg hx]; simp [hx]
theorem LX.rem (hc : CfgOk c) (hw : Who c e q) {hd : Nat × Int} {inn : List Bool} {cnt a : Nat} {b : Int} (A : LX c q hd m inn cnt a b) {key : Nat} (k1 : key < inn.length) (kb : inn.length ≤ 1000) (hin0 : inn[key]?.getD false = true) (hb : b < c.gens) :
    ∃ cnt' h s m', cnt = cnt' + 1 ∧ FL.ask e hd.1 3 key m = some (⟨0, h, 1, s⟩, m') ∧ LX c q hd m' (inn.set key false) cnt' a (b + 1) := by
  obtain ⟨f, F, ks, N, B, M, L, C, G, hN, hB, hF, hn, K⟩ := A.ex
  have hlen := LA.keys L K
  have hck : checkList 3 key = true := by simp only [checkList, Bool.and_eq_true, decide_eq_true_eq]; omega
  have hin : ((key : Int) ∈ keysOf ks) ↔ inn[key]?.getD false = true := by rw [K key, Int.toNat_natCast]; exact ⟨fun h => h.2.2, fun h => ⟨by omega, by omega, h⟩⟩
  obtain ⟨n, s', m', g, hn', H, M', ⟨⟨F', ks', L', -, hX, he, hr⟩⟩⟩ := remove_run hc hw L M (key := key)
  rcases hr with ⟨h1, _⟩ | ⟨h1, h2, h3, -, -, h5, h6⟩
  · exact absurd (hin.2 hin0) h1
  · obtain ⟨h7, h8⟩ := h3 B G (by omega)
    refine ⟨ks'.length, s'.out.h, s'.out.s, m', by omega, ?_, ⟨_, _, _, N, B + 1, M', L', hX.cap C, h7, hN, by omega, by omega, rfl, ?_⟩⟩
    · rw [ask_of hck H (by omega)]
      generalize s'.out = d at *
      obtain ⟨x1, x2, x3, x4⟩ := d
      simp only at he h2
      subst he h2
      rfl
    · have := K.set (ks' := ks') (k := key) (by omega) (by omega) false fun x => ?_
      · rwa [Int.toNat_natCast] at this
      · rw [h5]
        by_cases hx : x = key
        · simp [hx]
        · rw [if_neg hx]; simp [hx]
/-- The first key that is there. -/
theorem LX.first {hd : Nat × Int} {inn : List Bool} {cnt a : Nat} {b : Int} (A : LX c q hd m inn cnt a b) (h : 0 < cnt) : ∃ j : Nat, j < inn.length ∧ inn[j]?.getD false = true ∧ ∀ i, i < j → inn[i]?.getD false = false := by
  obtain ⟨f, F, ks, N, B, M, L, C, G, hN, hB, hF, hn, K⟩ := A.ex
  rcases least (fun j => inn[j]?.getD false = true) inn.length with hl | ⟨j, h1, h2, h3⟩
  · exfalso
    cases ks with
    | nil => simp at hn; omega
    | cons x ks =>
      obtain ⟨k0, k1, k2⟩ := (K x.2).1 (by simp [keysOf])
      exact hl x.2.toNat (by omega) k2
  · exact ⟨j, h1, h2, fun i hi => by rw [← Bool.not_eq_true]; exact h3 i hi⟩
theorem LX.seen (hc : CfgOk c) (hq : q < 6 + c.threads) {hd : Nat × Int} {inn : List Bool} {cnt a : Nat} {b : Int} (A : LX c q hd m inn cnt a b) : ∃ ks, ks.length = cnt ∧ Seen m c hd.1 ks inn := by
  obtain ⟨f, F, ks, N, B, M, L, C, G, hN, hB, hF, hn, K⟩ := A.ex
  exact ⟨ks, hn, seen_of hc hq L M K⟩
theorem LX.le {hd : Nat × Int} {inn : List Bool} {cnt a : Nat} {b : Int} (A : LX c q hd m inn cnt a b) : cnt ≤ inn.length := by
  obtain ⟨f, F, ks, N, B, M, L, C, G, hN, hB, hF, hn, K⟩ := A.ex
  have := LA.keys L K
  omega
theorem LX.slots {hd : Nat × Int} {inn : List Bool} {cnt a : Nat} {b : Int} (A : LX c q hd m inn cnt a b) : (cnt : Int) + 1 ≤ c.slots := by
  obtain ⟨f, F, ks, N, B, M, L, C, G, hN, hB, hF, hn, K⟩ := A.ex
  omega
end
end Go.FL

/- Each step is one step of the memory at most. A list's steps, one by one. No program in sight. -/
namespace Go.FL
open Go Go.SL

def Tk (m m' : MemS) : Prop := m'.steps = m.steps ∨ m'.steps = IntKind.i64.wrap (m.steps + 1)
section
variable {e : EnvS} {m : MemS}
theorem Tk.refl (m : MemS) : Tk m m := .inl rfl
theorem eld_tk (e : EnvS) (m : MemS) (a : Int) : Tk m (eld e m a).2 := by
  simp only [eld, MemS.ld]
  split
  · exact .inr rfl
  · exact .inl rfl
theorem est_tk (e : EnvS) (m : MemS) (a : Int) (w : Nat) : Tk m (est e m a w) := by
  simp only [est, MemS.st]
  split
  · exact .inr rfl
  · exact .inl rfl
theorem ecas_tk (e : EnvS) (m : MemS) (a : Int) (o w : Nat) : Tk m (ecas e m a o w).2 := by
  simp only [ecas, MemS.cas]
  split
  · split
    · exact .inr rfl
    · exact .inr rfl
  · exact .inl rfl
theorem eadd_tk (e : EnvS) (m : MemS) (a d : Int) : Tk m (eadd e m a d) := by
  simp only [eadd, MemS.add]
  split
  · exact .inr rfl
  · exact .inl rfl
theorem InS.tk (s : InS) : Tk m (s.step e m).2.2 := by
  unfold InS.step
  split
  · exact eld_tk ..
  · exact est_tk ..
  · simp only; split <;> exact eld_tk ..
theorem TakeS.tk (s : TakeS) : Tk m (s.step e m).2.2 := by
  unfold TakeS.step
  split
  · exact eld_tk ..
  · exact eld_tk ..
  · exact ecas_tk ..
theorem GiveS.tk (s : GiveS) : Tk m (s.step e m).2.2 := by
  unfold GiveS.step
  split
  · exact eld_tk ..
  · exact est_tk ..
  · exact ecas_tk ..
theorem PlaceS.tk (s : PlaceS) : Tk m (s.step e m).2.2 := by
  unfold PlaceS.step
  split
  · exact eld_tk ..
  · exact eld_tk ..
  · unfold PlaceS.get; simp only; split <;> exact ecas_tk ..
  · simp only; split <;> exact eld_tk ..
  · simp only; split <;> exact ecas_tk ..
  · exact ecas_tk ..
  · exact ecas_tk ..
theorem HelpS.tk (s : HelpS) : Tk m (s.step e m).2.2 := by
  unfold HelpS.step
  simp only
  split
  · exact ecas_tk ..
  · split
    · exact ecas_tk ..
    · exact eld_tk ..
theorem AllocS.tk (s : AllocS) : Tk m (s.step e m).2.2 := by
  unfold AllocS.step
  split
  · split
    · exact Tk.refl _
    · simp only; split
      · split <;> exact TakeS.tk ..
      · exact TakeS.tk ..
  · exact eld_tk ..
  · simp only; split
    · split <;> exact PlaceS.tk ..
    · exact PlaceS.tk ..
  · exact eadd_tk ..
  · exact est_tk ..
  · exact est_tk ..
  · exact est_tk ..
  · exact GiveS.tk ..
theorem DropS.tk (s : DropS) : Tk m (s.step e m).2.2 := by
  unfold DropS.step
  split
  · simp only; split
    · exact Tk.refl _
    · split <;> exact eld_tk ..
  · simp only; split
    · exact eld_tk ..
    · split <;> exact eld_tk ..
  · exact ecas_tk ..
  · simp only; split <;> exact HelpS.tk ..
  · exact HelpS.tk ..
  · exact eadd_tk ..
  · exact GiveS.tk ..
theorem AccessS.tk (s : AccessS) : Tk m (s.step e m).2.2 := by
  unfold AccessS.step
  split
  · simp only; split
    · exact Tk.refl _
    · split <;> exact eld_tk ..
  · simp only; split
    · exact eld_tk ..
    · split <;> exact eld_tk ..
  · exact eld_tk ..
  · exact ecas_tk ..
  · exact HelpS.tk ..
  · simp only; split <;> exact ecas_tk ..
  · simp only; split
    · exact eld_tk ..
    · split
      · exact eld_tk ..
      · split <;> exact eld_tk ..
theorem DoerS.tk (d : DoerS) : Tk m (d.step e m).2.2 := by
  cases d with
  | alloc s => exact s.tk
  | drop s => exact s.tk
  | access s => exact s.tk
theorem ActS.tk (s : ActS) : Tk m (s.step e m).2.2 := by
  unfold ActS.step
  split
  · exact InS.tk _
  · exact DoerS.tk _
  · exact est_tk ..
theorem ListS.tk (s : ListS) : Tk m (s.step e m).2.2 := by
  unfold ListS.step
  split
  · simp only; split <;> exact ActS.tk _
  · exact Tk.refl _
/-- Steps, bounded. -/
def Sb (m : MemS) (B : Nat) : Prop := 0 ≤ m.steps ∧ m.steps ≤ B
theorem Sb.tk {m' : MemS} {B : Nat} (h : Sb m B) (hb : B < 4611686018427387904) (t : Tk m m') : Sb m' (B + 1) ∧ m.steps ≤ m'.steps ∧ m'.steps ≤ m.steps + 1 := by
  obtain ⟨h0, h1⟩ := h
  rcases t with t | t
  · exact ⟨⟨by omega, by omega⟩, by omega, by omega⟩
  · rw [w64_id (by omega) (by omega)] at t
    exact ⟨⟨by omega, by omega⟩, by omega, by omega⟩
theorem Fl.sb {S : Type} {wf : S → Bool} {step : S → MemS → Bool × S × MemS} {Φ : MemS → Prop} (hs : ∀ s m, Tk m (step s m).2.2) {n : Nat} {s s' : S} {m m' : MemS} (h : Fl wf step Φ n s m s' m') : ∀ {B : Nat}, Sb m B → B + n < 4611686018427387904 → Sb m' (B + n) ∧ m.steps ≤ m'.steps := by
  induction h with
  | nil => intro B h _; exact ⟨h, Int.le_refl _⟩
  | cons h1 h2 h3 h4 ih =>
    intro B h hb
    have t := hs _ _ |> fun t => (h2 ▸ t)
    obtain ⟨g1, g2, g3⟩ := h.tk (by omega) t
    obtain ⟨k1, k2⟩ := ih g1 (by omega)
    have e1 : ∀ n, B + (n + 1) = B + 1 + n := fun n => by omega
    exact ⟨by rw [e1]; exact k1, Int.le_trans g2 k2⟩
theorem Rn.sb {S : Type} {wf : S → Bool} {step : S → MemS → Bool × S × MemS} {Φ : MemS → Prop} (hs : ∀ s m, Tk m (step s m).2.2) {n : Nat} {s s' : S} {m m' : MemS} (h : Rn wf step Φ n s m s' m') {B : Nat} (hb : Sb m B) (hn : B + n < 4611686018427387904) : Sb m' (B + n) ∧ m.steps ≤ m'.steps := by
  obtain ⟨k, s1, m1, rfl, h1, h2, h3, h4⟩ := h.ex
  obtain ⟨g1, g2⟩ := h1.sb hs hb (by omega)
  have t := hs s1 m1
  rw [h3] at t
  obtain ⟨k1, k2, k3⟩ := g1.tk (by omega) t
  exact ⟨k1, Int.le_trans g2 k2⟩
/-- The first of some steps. -/
theorem Rn.step1 {S : Type} {wf : S → Bool} {step : S → MemS → Bool × S × MemS} {Φ : MemS → Prop} {n : Nat} {s s' : S} {m m' : MemS} (h : Rn wf step Φ n s m s' m') : wf s = true ∧ Φ (step s m).2.2 ∧
    (((step s m).1 = true ∧ (step s m).2.1 = s' ∧ (step s m).2.2 = m') ∨ ((step s m).1 = false ∧ ∃ k, n = k + 1 ∧ Rn wf step Φ k (step s m).2.1 (step s m).2.2 s' m')) := by
  obtain ⟨k, s1, m1, rfl, h1, h2, h3, h4⟩ := h.ex
  cases h1 with
  | nil => rw [h3]; exact ⟨h2, h4, .inl ⟨rfl, rfl, rfl⟩⟩
  | cons g1 g2 g3 g4 =>
    rename_i k s2 m2
    rw [g2]
    exact ⟨g1, g3, .inr ⟨rfl, k + 1, rfl, ⟨k, s1, m1, rfl, g4, h2, h3, h4⟩⟩⟩
end
section
variable {c : Cfg} {f g : Int → Nat} {F : List Int} {m : MemS} {q : Int} {e : EnvS}
theorem LX.any (hc : CfgOk c) (hw : Who c e q) (w40 : c.words = 40) {hd : Nat × Int} {inn : List Bool} {cnt a : Nat} {b : Int} (A : LX c q hd m inn cnt a b) {kind : Int} (kd : kind = 1 ∨ kind = 2 ∨ kind = 3) {key : Nat} (k1 : key < inn.length) (kb : inn.length ≤ 16) (ha : (a : Int) < 13 * c.chunks) (hb : b < c.gens) :
    ∃ n s' m' inn' cnt', n ≤ 500 ∧ LRn e q n (newList kind key hd.1) m s' m' ∧ inn'.length = inn.length ∧ LX c q hd m' inn' cnt' (a + 1) (b + 1) ∧ (m'.at q).1 = 0 := by
  obtain ⟨f, F, ks, N, B, M, L, C, G, hN, hB, hF, hn, K⟩ := A.ex
  have hlen := LA.keys L K
  rcases kd with rfl | rfl | rfl
  · obtain ⟨n, s', m', hn', H, M', -⟩ := has_run hc hw L M key
    exact ⟨n, s', m', inn, cnt, by omega, H, rfl, ⟨f, F, ks, N, B, M', L, C, G, by omega, by omega, hF, hn, K⟩, M'.pin⟩
  · obtain ⟨n, s', m', g, hn', H, M', ⟨⟨F', ks', L', -, hG, hr⟩⟩⟩ := add_run hc hw L M (key := key) (by omega) (by omega)
    rcases hr with ⟨h1, h2, h3, rfl, rfl, rfl⟩ | ⟨h1, rfl, h2, h3, rfl, rfl, rfl⟩ | ⟨h1, hf, _⟩ | ⟨h1, h2, h3, ⟨i', rfl, -⟩, h5, h6, h7⟩
    · exact ⟨n, s', m', inn, cnt, by omega, H, rfl, ⟨_, _, _, N, B, M', L', C, G, by omega, by omega, hF, hn, K⟩, M'.pin⟩
    · exact ⟨n, s', m', inn, cnt, by omega, H, rfl, ⟨_, _, _, N, B, M', L', C, G, by omega, by omega, hF, hn, K⟩, M'.pin⟩
    · exact absurd hf (C.notfull w40 (by omega))
    · simp only [List.length_cons] at hF
      refine ⟨n, s', m', inn.set key true, cnt + 1, by omega, H, by simp, ⟨_, _, _, N + 1, B, M', L', h7 N w40 (by omega) C, hG B G, by omega, by omega, by omega, by omega, ?_⟩, M'.pin⟩
      have := K.set (ks' := ks') (k := key) (by omega) (by omega) true fun x => ?_
      · rwa [Int.toNat_natCast] at this
      · rw [h5]
        by_cases hx : x = key
        · simp [hx]
        · rw [if_neg hx]; simp [hx]
  · obtain ⟨n, s', m', g, hn', H, M', ⟨⟨F', ks', L', -, hX, he, hr⟩⟩⟩ := remove_run hc hw L M (key := key)
    rcases hr with ⟨h1, h2, rfl, rfl, rfl⟩ | ⟨h1, h2, h3, -, -, h5, h6⟩
    · exact ⟨n, s', m', inn, cnt, by omega, H, rfl, ⟨_, _, _, N, B, M', L', C, G, by omega, by omega, hF, hn, K⟩, M'.pin⟩
    · obtain ⟨h7, h8⟩ := h3 B G (by omega)
      refine ⟨n, s', m', inn.set key false, ks'.length, by omega, H, by simp, ⟨_, _, _, N, B + 1, M', L', hX.cap C, h7, by omega, by omega, by omega, rfl, ?_⟩, M'.pin⟩
      have := K.set (ks' := ks') (k := key) (by omega) (by omega) false fun x => ?_
      · rwa [Int.toNat_natCast] at this
      · rw [h5]
        by_cases hx : x = key
        · simp [hx]
        · rw [if_neg hx]; simp [hx]
theorem LX.pin {hd : Nat × Int} {inn : List Bool} {cnt a : Nat} {b : Int} (A : LX c q hd m inn cnt a b) : m.peek q = 0 := by
  obtain ⟨f, F, ks, N, B, M, -⟩ := A.ex
  have hl := M.len
  have hr : m.inR q = true := Bool.and_eq_true_iff.2 ⟨decide_eq_true M.qr.1, decide_eq_true (by have := M.qr.2; omega)⟩
  simp only [MemS.peek, hr, if_true]
  exact M.pin
theorem st_tk (m : MemS) (a : Int) (w : Nat) : Tk m (m.st a w) := by
  simp only [MemS.st]
  split
  · exact .inr rfl
  · exact .inl rfl
theorem fresh_sb (c : Cfg) (h : c.slots ≤ 65536) : Sb (freshM c) 131074 := by
  have h1 : ∀ n : Nat, n ≤ 65536 → Sb (frTo c (newMem (lenA c).toNat) n) (2 * n) := by
    intro n
    induction n with
    | zero => intro _; exact ⟨Int.le_refl _, Int.le_refl _⟩
    | succ n ih =>
      intro hn
      rw [frTo_succ]
      exact (((ih (by omega)).tk (by omega) (st_tk _ _ _)).1.tk (by omega) (st_tk _ _ _)).1
  have h2 := (((h1 c.slots.toNat (by omega)).tk (by omega) (st_tk _ (w64 (slotA c (w64 (c.slots - 1)) + 1)) (putTop (-1) 0))).1.tk (by omega) (st_tk _ 1 (putTop 0 0))).1
  exact ⟨h2.1, Int.le_trans h2.2 (by omega)⟩
theorem begun_sb (n : Nat) (n0 : 1 ≤ n) (n1 : n ≤ 65536) : ∀ d m, FL.begun n = some (d, m) → Sb m 200000 := by
  intro d m h
  have h0 := fresh_sb (arena 4 n 12 40).c (by simp only [arena]; omega)
  unfold FL.begun doAct at h
  rw [if_pos (by decide)] at h
  have run : ∀ (k : Nat) (a : ActS) (m : MemS) (B : Nat) (r : ActS × MemS), Sb m B → B + k < 200000 → actRun (arena 4 n 12 40) k a m = some r → Sb r.2 (B + k) := by
    intro k
    induction k with
    | zero => intro a m B r hb _ hr; simp only [actRun, Option.some.injEq] at hr; rw [← hr]; exact hb
    | succ k ih =>
      intro a m B r hb hk hr
      simp only [actRun] at hr
      split at hr
      · have t := (hb.tk (by omega) (ActS.tk (e := arena 4 n 12 40) (m := m) a)).1
        split at hr
        · simp only [Option.some.injEq] at hr
          rw [← hr]; exact ⟨t.1, Int.le_trans t.2 (by omega)⟩
        · have := ih _ _ _ _ t (by omega) hr
          rw [show B + (k + 1) = B + 1 + k by omega]; exact this
      · cases hr
  cases hr : actRun (arena 4 n 12 40) 500 (newAct ⟨1, 2, 0, 0, 0, 0, true⟩) (freshM (arena 4 n 12 40).c) with
  | none => rw [hr] at h; cases h
  | some r =>
    rw [hr] at h
    simp only [Option.map_some, Option.some.injEq, Prod.mk.injEq] at h
    have := run 500 _ _ _ r h0 (by omega) hr
    rw [← h.2]
    exact ⟨this.1, Int.le_trans this.2 (by omega)⟩
end
end Go.FL

