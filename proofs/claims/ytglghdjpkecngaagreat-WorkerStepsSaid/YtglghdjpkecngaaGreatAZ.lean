/- layout: a fresh arena; an act, alone; a list, begun. -/
import Derived.Test.YtglghdjpkecngaaGreatAY
namespace Go.Proofs.YtglghdjpkecngaaGreat
set_option linter.unusedVariables false
set_option linter.unusedSimpArgs false
open Go Go.SL Go.FL
set_option maxRecDepth 100000
theorem Fresh_ev {W0 : World} (c : Cfg) (hc : CfgOk c) : Ev Tryz.prog W0 75 [cfgV c] [] (fun v V' => v = .tup [.ptr 0 0, .int .i64 0] ∧ V' = [bx W0 (memU (freshM c))]) := by
  refine Ev.out fun Q' hQ => ev75 rfl fun o => ?_
  have hlen : lenA c = ((lenA c).toNat : Int) ∧ 1 ≤ (lenA c).toNat ∧ (lenA c).toNat ≤ 1048576 := by
    have hp : 17 * c.chunks ≤ c.words * c.chunks := Int.mul_le_mul_of_nonneg_right hc.w0 (by have := hc.c0; omega)
    have hp2 : c.words * c.chunks ≤ 256 * c.chunks := Int.mul_le_mul_of_nonneg_right hc.w1 (by have := hc.c0; omega)
    have e : lenA c = 6 + c.threads + 2 * c.slots + 3 * c.chunks + c.words * c.chunks := by
      unfold lenA baseA
      obtain ⟨a1, a2, a3, a4, a5, a6, a7, a8, a9, b1, b2, b3, b4, b5⟩ := hc
      exact w64_id (by omega) (by omega)
    obtain ⟨a1, a2, a3, a4, a5, a6, a7, a8, a9, b1, b2, b3, b4, b5⟩ := hc
    omega
  have hs0 : (c.slots.toNat : Int) = c.slots := by have := hc.s0; omega
  have hs1 : c.slots.toNat ≤ 65536 := by have := hc.s1; omega
  cbv
  refine Ops.call0 _ (lCheck_ev c hc) rfl ?_; rintro v V' ⟨rfl, rfl⟩; simp only [lapp, List.map_nil, rn, rnL]
  (cbv; repeat' (first | (refine mt (fun h => ?_) (fun h => ?_) <;> first | (exfalso; simp [Ops.cmp_eq, Ops.not_eq, icmp] at h; done) | (try cbv)) | fail))
  refine Ops.call0 _ (lLen_ev c) rfl ?_; rintro v V' ⟨rfl, rfl⟩; simp only [lapp, List.map_nil, rn, rnL]
  generalize hn : (lenA c).toNat = n at *
  obtain ⟨hl1, hl2, hl3⟩ := hlen
  rw [hl1]
  cbv
  refine Ops.call0 _ (memNew_ev n hl2 hl3) rfl ?_; rintro v V' ⟨rfl, rfl⟩; simp only [lapp, List.map_nil, rn, rnL]
  simp only [List.map_cons, rnB_bx]
  have hfm : freshM c = ((frTo c (newMem n) c.slots.toNat).st (w64 (slotA c (w64 (c.slots - 1)) + 1)) (putTop (-1) 0)).st 1 (putTop 0 0) := by rw [freshM, hn]
  generalize hm0 : newMem n = m0 at *
  generalize hM : bx W0 (memU m0) = M
  (cbv; repeat' (first | (refine mt (fun h => ?_) (fun h => ?_) <;> first | (exfalso; simp [Ops.cmp_eq, Ops.not_eq, icmp] at h; done) | (try cbv)) | fail))
  subst hM
  refine ⟨fun k env V => ∃ (i : Nat) (r : Nat → Value), i ≤ c.slots.toNat ∧ k = c.slots.toNat - i ∧
    env = mix [(1, .ptr 0 0), (4, .ptr 1 0), (20, .int .i64 c.slots), (21, .int .i64 i)] r ∧ V = [.cells [.int .i64 c.threads, .int .i64 c.slots, .int .i64 c.chunks, .int .i64 c.words, .int .i64 c.gens, .int .i64 c.sparse, .int .i64 c.tries], bx W0 (memU (frTo c m0 i))],
    ⟨c.slots.toNat, o.reI (Re.ren [0, 1] _ _ rfl rfl ?_ ?_ fun r => ⟨0, r, Nat.zero_le _, rfl, rfl, rfl⟩)⟩, ?_⟩
  · exact ⟨rfl, rfl, rfl, rfl, trivial⟩
  · exact ⟨.inr rfl, .inr rfl, trivial⟩
  rintro k env V ⟨i, r, hi, rfl, rfl, rfl⟩
  have hnext := frTo_succ c m0 i
  generalize hmi : frTo c m0 i = mi at *
  generalize hM : bx W0 (memU mi) = M
  (cbv; repeat' (first | (refine mt (fun _ => ?_) (fun _ => ?_) <;> (try cbv)) | fail))
  · rename_i h
    have h1 : i < c.slots.toNat := by
      have : (i : Int) < c.slots := by simpa [Ops.cmp_eq, icmp] using h
      omega
    refine Ops.call0 _ (lSlot_ev c i) rfl ?_; rintro v V' ⟨rfl, rfl⟩; simp only [lapp, List.map_nil, rn, rnL]
    generalize ha : slotA c i = a at *
    cbv
    refine Ops.call0 _ (PutSlot_ev ⟨0, 0, 1, 0⟩) rfl ?_; rintro v V' ⟨rfl, rfl⟩; simp only [lapp, List.map_nil, rn, rnL]
    generalize hp : putSlot ⟨0, 0, 1, 0⟩ = q at *
    cbv
    refine Ops.call _ [1] (Ev.boxM (Store_ev mi a q) rfl) rfl rfl rfl ⟨.inr (by rw [← hM]; rfl), trivial⟩ ?_; rintro v V' ⟨rfl, rfl⟩; simp only [layB, lset, lapp, List.map_nil, List.map_cons, rnB_bx, rn, rnL]; clear hM; generalize hM : bx W0 (memU _) = M
    generalize hm1 : mi.st a q = m1 at *
    generalize (if mi.inR a then (0 : Int) else 2) = x0
    cbv
    refine Ops.call0 _ (lSlot_ev c i) rfl ?_; rintro v V' ⟨rfl, rfl⟩; simp only [lapp, List.map_nil, rn, rnL]
    rw [ha]
    cbv
    simp only [Ops.ar_eq, arith]
    generalize hb : IntKind.i64.wrap (a + 1) = b at *
    rw [show IntKind.i64.wrap (Int.ofNat i + 1) = ((i + 1 : Nat) : Int) from w64_id (by simp; omega) (by simp; omega)]
    have hi1 : w64 ((i : Int) + 1) = ((i + 1 : Nat) : Int) := w64_id (by omega) (by omega)
    refine Ops.call0 _ (PutTop_ev ((i + 1 : Nat) : Int) 0) rfl ?_; rintro v V' ⟨rfl, rfl⟩; simp only [lapp, List.map_nil, rn, rnL]
    generalize hpt : putTop ((i + 1 : Nat) : Int) 0 = q2 at *
    cbv
    refine Ops.call _ [1] (Ev.boxM (Store_ev m1 b q2) rfl) rfl rfl rfl ⟨.inr (by rw [← hM]; rfl), trivial⟩ ?_; rintro v V' ⟨rfl, rfl⟩; simp only [layB, lset, lapp, List.map_nil, List.map_cons, rnB_bx, rn, rnL]; clear hM; generalize hM : bx W0 (memU _) = M
    generalize hm2 : m1.st b q2 = m2 at *
    generalize (if m1.inR b then (0 : Int) else 2) = x1
    cbv
    have hm2' : frTo c m0 (i + 1) = m2 := by rw [hnext]; simp only [frStep, ha, hp, hm1, hb, hi1, hpt, hm2]
    refine ⟨c.slots.toNat - (i + 1), by omega, o.reI (Re.ren [0, 1] _ _ rfl rfl ?_ ?_ fun r => ⟨i + 1, r, by omega, rfl, rfl, rfl⟩)⟩
    · refine ⟨rfl, rfl, rfl, ?_, trivial⟩
      exact congrArg (VV.int .i64) (by simp only [Ops.ar_eq]; exact hi1)
    · rw [hm2']
      exact ⟨.inr rfl, .inr (by rw [hM]; rw [← hM]; rfl), trivial⟩
  · rename_i h
    have h1 : i = c.slots.toNat := by
      have : c.slots ≤ (i : Int) := by simpa [Ops.cmp_eq, icmp] using h
      omega
    subst h1
    rw [hmi] at hfm
    simp only [Ops.ar_eq, arith]
    generalize hs : IntKind.i64.wrap (c.slots - 1) = s1 at *
    refine Ops.call0 _ (lSlot_ev c s1) rfl ?_; rintro v V' ⟨rfl, rfl⟩; simp only [lapp, List.map_nil, rn, rnL]
    generalize ha : slotA c s1 = a at *
    cbv
    simp only [Ops.ar_eq, arith]
    generalize hb : IntKind.i64.wrap (a + 1) = b at *
    refine Ops.call0 _ (PutTop_ev (-1) 0) rfl ?_; rintro v V' ⟨rfl, rfl⟩; simp only [lapp, List.map_nil, rn, rnL]
    generalize hpt : putTop (-1) 0 = q2 at *
    cbv
    refine Ops.call _ [1] (Ev.boxM (Store_ev mi b q2) rfl) rfl rfl rfl ⟨.inr (by rw [← hM]; rfl), trivial⟩ ?_; rintro v V' ⟨rfl, rfl⟩; simp only [layB, lset, lapp, List.map_nil, List.map_cons, rnB_bx, rn, rnL]; clear hM; generalize hM : bx W0 (memU _) = M
    generalize hm1 : mi.st b q2 = m1 at *
    generalize (if mi.inR b then (0 : Int) else 2) = x1
    cbv
    refine Ops.call0 _ (lTop_ev) rfl ?_; rintro v V' ⟨rfl, rfl⟩; simp only [lapp, List.map_nil, rn, rnL]
    cbv
    refine Ops.call0 _ (PutTop_ev 0 0) rfl ?_; rintro v V' ⟨rfl, rfl⟩; simp only [lapp, List.map_nil, rn, rnL]
    generalize hp0 : putTop 0 0 = q3 at *
    cbv
    refine Ops.call _ [1] (Ev.boxM (Store_ev m1 1 q3) rfl) rfl rfl rfl ⟨.inr (by rw [← hM]; rfl), trivial⟩ ?_; rintro v V' ⟨rfl, rfl⟩; simp only [layB, lset, lapp, List.map_nil, List.map_cons, rnB_bx, rn, rnL]; clear hM; generalize hM : bx W0 (memU _) = M
    generalize hm2 : m1.st 1 q3 = m2 at *
    generalize (if m1.inR 1 then (0 : Int) else 2) = x2
    cbv
    refine hQ _ _ (ReV.ren [1] (.tup [.ptr 0 0, .int .i64 0]) [bx W0 (memU m2)] rfl rfl rfl ⟨.inr (by rw [← hM]; rfl), trivial⟩ ⟨rfl, ?_⟩)
    rw [hfm]
end Go.Proofs.YtglghdjpkecngaaGreat
