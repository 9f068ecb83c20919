/- layout: where things stand. -/
import Derived.Test.YtglghdjpkecngaaGreatAM
namespace Go.Proofs.YtglghdjpkecngaaGreat
set_option linter.unusedVariables false
set_option linter.unusedSimpArgs false
open Go Go.SL Go.FL
set_option maxRecDepth 100000
def cfgV (c : Cfg) : VV := .agg [.int .i64 c.threads, .int .i64 c.slots, .int .i64 c.chunks, .int .i64 c.words, .int .i64 c.gens, .int .i64 c.sparse, .int .i64 c.tries]
theorem lSlot_ev {W0 : World} (c : Cfg) (i : Int) : Ev Tryz.prog W0 71 [cfgV c, .int .i64 i] [] (fun v V' => v = .int .i64 (slotA c i) ∧ V' = []) := by
  refine Ev.out fun Q' hQ => ev71 rfl fun o => ?_
  generalize hR : slotA c i = R at hQ
  cbv
  refine hQ _ _ (ReV.none rfl ⟨?_, rfl⟩)
  rw [← hR]; simp only [slotA, o.ar_eq, arith, w64_addl, w64_addr]
theorem lChunk_ev {W0 : World} (c : Cfg) (i : Int) : Ev Tryz.prog W0 147 [cfgV c, .int .i64 i] [] (fun v V' => v = .int .i64 (chunkA c i) ∧ V' = []) := by
  refine Ev.out fun Q' hQ => ev147 rfl fun o => ?_
  generalize hR : chunkA c i = R at hQ
  cbv
  refine hQ _ _ (ReV.none rfl ⟨?_, rfl⟩)
  rw [← hR]; simp only [chunkA, o.ar_eq, arith, w64_addl, w64_addr]
theorem lBase_ev {W0 : World} (c : Cfg) (i : Int) : Ev Tryz.prog W0 73 [cfgV c, .int .i64 i] [] (fun v V' => v = .int .i64 (baseA c i) ∧ V' = []) := by
  refine Ev.out fun Q' hQ => ev73 rfl fun o => ?_
  generalize hR : baseA c i = R at hQ
  cbv
  refine hQ _ _ (ReV.none rfl ⟨?_, rfl⟩)
  rw [← hR]; simp only [baseA, o.ar_eq, arith, w64_addl, w64_addr]
theorem lLen_ev {W0 : World} (c : Cfg) : Ev Tryz.prog W0 74 [cfgV c] [] (fun v V' => v = .int .i64 (lenA c) ∧ V' = []) := by
  refine Ev.out fun Q' hQ => ev74 rfl fun o => ?_
  generalize hR : lenA c = R at hQ
  cbv
  refine Ops.call0 _ (lBase_ev c c.chunks) rfl ?_; rintro v V' ⟨rfl, rfl⟩; simp only [lapp, List.map_nil, rn, rnL]
  rw [show baseA c c.chunks = R from hR]
  cbv
  exact hQ _ _ (ReV.none rfl ⟨rfl, rfl⟩)
theorem lPin_ev {W0 : World} (t : Int) : Ev Tryz.prog W0 35 [.int .i64 t] [] (fun v V' => v = .int .i64 (pinA t) ∧ V' = []) := by
  refine Ev.out fun Q' hQ => ev35 rfl fun o => ?_
  generalize hR : pinA t = R at hQ
  cbv
  refine hQ _ _ (ReV.none rfl ⟨?_, rfl⟩)
  rw [← hR]; simp only [pinA, o.ar_eq, arith]
theorem lOpen_ev {W0 : World} (t : Int) : Ev Tryz.prog W0 154 [.int .i64 t] [] (fun v V' => v = .int .i64 (openA t) ∧ V' = []) := by
  refine Ev.out fun Q' hQ => ev154 rfl fun o => ?_
  generalize hR : openA t = R at hQ
  cbv
  refine hQ _ _ (ReV.none rfl ⟨?_, rfl⟩)
  rw [← hR]; simp only [openA, o.ar_eq, arith]
theorem lEpoch_ev {W0 : World} : Ev Tryz.prog W0 113 [] [] (fun v V' => v = .int .i64 0 ∧ V' = []) := by
  refine Ev.out fun Q' hQ => ev113 rfl fun o => ?_
  cbv
  exact hQ _ _ (ReV.none rfl ⟨rfl, rfl⟩)
theorem lTop_ev {W0 : World} : Ev Tryz.prog W0 106 [] [] (fun v V' => v = .int .i64 1 ∧ V' = []) := by
  refine Ev.out fun Q' hQ => ev106 rfl fun o => ?_
  cbv
  exact hQ _ _ (ReV.none rfl ⟨rfl, rfl⟩)
theorem lRoom_ev {W0 : World} (k : Int) (h : 0 ≤ k) : Ev Tryz.prog W0 148 [.int .i64 k] [] (fun v V' => v = .int .i64 (roomA k) ∧ V' = []) := by
  refine Ev.out fun Q' hQ => ev148 rfl fun o => ?_
  generalize hR : roomA k = R at hQ
  cbv
  refine ⟨by simp only [o.need_eq, needs]; exact decide_eq_true h, ?_⟩
  cbv
  refine hQ _ _ (ReV.none rfl ⟨?_, rfl⟩)
  rw [← hR]; simp only [roomA, o.ar_eq, arith, IntKind.bits]
theorem lClass_ev {W0 : World} (z : Int) : Ev Tryz.prog W0 138 [.int .i64 z] [] (fun v V' => v = .int .i64 (classA z) ∧ V' = []) := by
  refine Ev.out fun Q' hQ => ev138 rfl fun o => ?_
  generalize hR : classA z = R at hQ
  cbv
  refine ⟨fun m env V => ∃ (i : Nat) (r : Nat → Value), i ≤ 4 ∧ m = 4 - i ∧ (z < 1 ∨ i = 0 ∨ 2 * 2 ^ (i - 1) < z) ∧ env = mix [(0, .int .i64 z), (4, .int .i64 i)] r ∧ V = [], ⟨4, o.reI (Re.ren [] _ _ rfl rfl ?_ (show fitB _ _ [] [] from trivial) fun r => ⟨0, r, by omega, rfl, .inr (.inl rfl), rfl, rfl⟩)⟩, ?_⟩
  · simp_all [Cap.rn, fitB, mixOk, rnB, lget, rnL, rn, rho, llen, Plain, assoc, mix, envOf]
  rintro m env V ⟨i, r, hi, rfl, hz, rfl, rfl⟩
  have h5 : i = 0 ∨ i = 1 ∨ i = 2 ∨ i = 3 ∨ i = 4 := by omega
  rcases h5 with rfl | rfl | rfl | rfl | rfl
  · replace hz : z < 1 ∨ True := by exact .inr trivial
    have e0 : arith .shl .i64 2 (Int.ofNat 0) = 2 := by decide +kernel
    have e1 : arith .add .i64 (Int.ofNat 0) 1 = 1 := by decide +kernel
    have e2 : Int.ofNat 0 < 4 := by decide
    (cbv; repeat' (first | (refine ⟨by simp only [Ops.need_eq, needs]; first | rfl | decide, ?_⟩; try cbv) | (refine mt (fun _ => ?_) (fun _ => ?_) <;> (try cbv))))
    all_goals simp only [o.cmp_eq, o.ar_eq, icmp, decide_eq_true_eq, decide_eq_false_iff_not, e0] at *
    · refine hQ _ _ (ReV.none rfl ⟨?_, rfl⟩)
      have : classA z = 0 := by unfold classA; (repeat' split) <;> omega
      rw [← hR, this]; rfl
    · refine ⟨3, by decide, o.reI (Re.ren [] _ _ rfl rfl ?_ (show fitB _ _ [] [] from trivial) fun r => ⟨1, r, by decide, rfl, ?_, rfl, rfl⟩)⟩
      · exact ⟨rfl, congrArg (VV.int .i64) e1, trivial⟩
      · rename_i h; right; right; simpa using h
    · refine ⟨3, by decide, o.reI (Re.ren [] _ _ rfl rfl ?_ (show fitB _ _ [] [] from trivial) fun r => ⟨1, r, by decide, rfl, ?_, rfl, rfl⟩)⟩
      · exact ⟨rfl, congrArg (VV.int .i64) e1, trivial⟩
      · rename_i h; left; omega
    · exfalso; rename_i h; omega
  · replace hz : z < 1 ∨ 2 < z := by revert hz; simp
    have e0 : arith .shl .i64 2 (Int.ofNat 1) = 4 := by decide +kernel
    have e1 : arith .add .i64 (Int.ofNat 1) 1 = 2 := by decide +kernel
    have e2 : Int.ofNat 1 < 4 := by decide
    (cbv; repeat' (first | (refine ⟨by simp only [Ops.need_eq, needs]; first | rfl | decide, ?_⟩; try cbv) | (refine mt (fun _ => ?_) (fun _ => ?_) <;> (try cbv))))
    all_goals simp only [o.cmp_eq, o.ar_eq, icmp, decide_eq_true_eq, decide_eq_false_iff_not, e0] at *
    · refine hQ _ _ (ReV.none rfl ⟨?_, rfl⟩)
      have : classA z = 1 := by unfold classA; (repeat' split) <;> omega
      rw [← hR, this]; rfl
    · refine ⟨2, by decide, o.reI (Re.ren [] _ _ rfl rfl ?_ (show fitB _ _ [] [] from trivial) fun r => ⟨2, r, by decide, rfl, ?_, rfl, rfl⟩)⟩
      · exact ⟨rfl, congrArg (VV.int .i64) e1, trivial⟩
      · rename_i h; right; right; simpa using h
    · refine ⟨2, by decide, o.reI (Re.ren [] _ _ rfl rfl ?_ (show fitB _ _ [] [] from trivial) fun r => ⟨2, r, by decide, rfl, ?_, rfl, rfl⟩)⟩
      · exact ⟨rfl, congrArg (VV.int .i64) e1, trivial⟩
      · rename_i h; left; omega
    · exfalso; rename_i h; omega
  · replace hz : z < 1 ∨ 4 < z := by revert hz; simp
    have e0 : arith .shl .i64 2 (Int.ofNat 2) = 8 := by decide +kernel
    have e1 : arith .add .i64 (Int.ofNat 2) 1 = 3 := by decide +kernel
    have e2 : Int.ofNat 2 < 4 := by decide
    (cbv; repeat' (first | (refine ⟨by simp only [Ops.need_eq, needs]; first | rfl | decide, ?_⟩; try cbv) | (refine mt (fun _ => ?_) (fun _ => ?_) <;> (try cbv))))
    all_goals simp only [o.cmp_eq, o.ar_eq, icmp, decide_eq_true_eq, decide_eq_false_iff_not, e0] at *
    · refine hQ _ _ (ReV.none rfl ⟨?_, rfl⟩)
      have : classA z = 2 := by unfold classA; (repeat' split) <;> omega
      rw [← hR, this]; rfl
    · refine ⟨1, by decide, o.reI (Re.ren [] _ _ rfl rfl ?_ (show fitB _ _ [] [] from trivial) fun r => ⟨3, r, by decide, rfl, ?_, rfl, rfl⟩)⟩
      · exact ⟨rfl, congrArg (VV.int .i64) e1, trivial⟩
      · rename_i h; right; right; simpa using h
    · refine ⟨1, by decide, o.reI (Re.ren [] _ _ rfl rfl ?_ (show fitB _ _ [] [] from trivial) fun r => ⟨3, r, by decide, rfl, ?_, rfl, rfl⟩)⟩
      · exact ⟨rfl, congrArg (VV.int .i64) e1, trivial⟩
      · rename_i h; left; omega
    · exfalso; rename_i h; omega
  · replace hz : z < 1 ∨ 8 < z := by revert hz; simp
    have e0 : arith .shl .i64 2 (Int.ofNat 3) = 16 := by decide +kernel
    have e1 : arith .add .i64 (Int.ofNat 3) 1 = 4 := by decide +kernel
    have e2 : Int.ofNat 3 < 4 := by decide
    (cbv; repeat' (first | (refine ⟨by simp only [Ops.need_eq, needs]; first | rfl | decide, ?_⟩; try cbv) | (refine mt (fun _ => ?_) (fun _ => ?_) <;> (try cbv))))
    all_goals simp only [o.cmp_eq, o.ar_eq, icmp, decide_eq_true_eq, decide_eq_false_iff_not, e0] at *
    · refine hQ _ _ (ReV.none rfl ⟨?_, rfl⟩)
      have : classA z = 3 := by unfold classA; (repeat' split) <;> omega
      rw [← hR, this]; rfl
    · refine ⟨0, by decide, o.reI (Re.ren [] _ _ rfl rfl ?_ (show fitB _ _ [] [] from trivial) fun r => ⟨4, r, by decide, rfl, ?_, rfl, rfl⟩)⟩
      · exact ⟨rfl, congrArg (VV.int .i64) e1, trivial⟩
      · rename_i h; right; right; simpa using h
    · refine ⟨0, by decide, o.reI (Re.ren [] _ _ rfl rfl ?_ (show fitB _ _ [] [] from trivial) fun r => ⟨4, r, by decide, rfl, ?_, rfl, rfl⟩)⟩
      · exact ⟨rfl, congrArg (VV.int .i64) e1, trivial⟩
      · rename_i h; left; omega
    · exfalso; rename_i h; omega
  · replace hz : z < 1 ∨ 16 < z := by revert hz; simp
    have e2 : ¬ Int.ofNat 4 < 4 := by decide
    (cbv; repeat' (first | (refine ⟨by simp only [Ops.need_eq, needs]; first | rfl | decide, ?_⟩; try cbv) | (refine mt (fun _ => ?_) (fun _ => ?_) <;> (try cbv))))
    all_goals simp only [o.cmp_eq, o.ar_eq, icmp, decide_eq_true_eq, decide_eq_false_iff_not] at *
    any_goals (exfalso; rename_i h h2; omega)
    refine hQ _ _ (ReV.none rfl ⟨?_, rfl⟩)
    have : classA z = -1 := by unfold classA; (repeat' split) <;> omega
    rw [← hR, this]
theorem lOf_ev {W0 : World} (c : Cfg) (a : Int) (hw : c.words ≠ 0) : Ev Tryz.prog W0 32 [cfgV c, .int .i64 a] [] (fun v V' => v = .int .i64 (ofA c a) ∧ V' = []) := by
  refine Ev.out fun Q' hQ => ev32 rfl fun o => ?_
  generalize hR : ofA c a = R at hQ
  unfold ofA at hR
  cbv
  refine Ops.call0 _ (lBase_ev c 0) rfl ?_; rintro v V' ⟨rfl, rfl⟩; simp only [lapp, List.map_nil, rn, rnL]
  generalize baseA c 0 = b at *
  (cbv; repeat' (first | (refine mt (fun _ => ?_) (fun _ => ?_) <;> (try cbv)) | fail))
  · rename_i h
    have h1 : a < b := by simpa [o.cmp_eq, icmp] using h
    refine hQ _ _ (ReV.none rfl ⟨?_, rfl⟩)
    rw [← hR, if_pos (.inl h1)]
  · rename_i h
    have h1 : ¬ a < b := by simpa [o.cmp_eq, icmp] using h
    refine Ops.call0 _ (lLen_ev c) rfl ?_; rintro v V' ⟨rfl, rfl⟩; simp only [lapp, List.map_nil, rn, rnL]
    generalize lenA c = l at *
    (cbv; repeat' (first | (refine mt (fun _ => ?_) (fun _ => ?_) <;> (try cbv)) | fail))
    · rename_i h
      have h2 : a ≥ l := by simpa [o.cmp_eq, icmp] using h
      refine hQ _ _ (ReV.none rfl ⟨?_, rfl⟩)
      rw [← hR, if_pos (.inr h2)]
    · rename_i h
      have h2 : ¬ a ≥ l := by simpa [o.cmp_eq, icmp] using h
      refine ⟨by simpa [o.need_eq, needs] using hw, ?_⟩
      refine hQ _ _ (ReV.none rfl ⟨?_, rfl⟩)
      rw [← hR, if_neg (by omega)]; simp only [o.ar_eq, arith]
end Go.Proofs.YtglghdjpkecngaaGreat
