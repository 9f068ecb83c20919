/- list: what may not be asked is not; a list that begins nowhere. -/
import Derived.Test.YtglghdjpkecngaaGreatBC
import Derived.Test.YtglghdjpkecngaaGreatBF
namespace Go.Proofs.YtglghdjpkecngaaGreat
set_option linter.unusedVariables false
set_option linter.unusedSimpArgs false
open Go Go.SL Go.FL
set_option maxRecDepth 100000
theorem nb : ∃ v s, FL.begun 4 = some (⟨0, 65536, v, s⟩, nM0) := by
  have h := n_begun
  unfold nM0
  cases hb : FL.begun 4 with
  | none => rw [hb] at h; cases h
  | some r =>
    obtain ⟨⟨d1, d2, d3, d4⟩, m⟩ := r
    rw [hb] at h
    simp only [Option.map_some, Option.some.injEq, Prod.mk.injEq] at h
    obtain ⟨rfl, rfl⟩ := h
    exact ⟨d3, d4, rfl⟩
theorem ListNone_ev {W0 : World} (kind key : Int) (head : Nat) : Ev Tryz.prog W0 4 [.int .i64 kind, .int .i64 key, .int .u64 head] [] (fun v V' => v = .bool true ∧ V' = []) := by
  refine Ev.out fun Q' hQ => ev4 rfl fun o => ?_
  obtain ⟨b3, b4, hb⟩ := nb
  have hE : (arena 4 4 12 40).v 0 = .agg [.int .i64 4, .int .i64 4, .int .i64 12, .int .i64 40, .int .i64 100, .int .i64 600, .int .i64 3, .ptr 0 0, .int .i64 0] := rfl
  cases hc : checkList kind key with
  | false =>
    have hd : kind < 1 ∨ (1 ≤ kind ∧ 3 < kind) ∨ (1 ≤ kind ∧ kind ≤ 3 ∧ key < 0) ∨ (1 ≤ kind ∧ kind ≤ 3 ∧ 0 ≤ key ∧ 1073741824 ≤ key) := by
      simp only [checkList, Bool.and_eq_false_iff, decide_eq_false_iff_not] at hc
      omega
    generalize hm : nM0 = m0 at *
    rcases hd with hd | hd | hd | hd
    all_goals
      (cbv; repeat' (first | (refine ⟨by simp only [Ops.need_eq, needs]; first | rfl | decide, ?_⟩; try cbv) | (refine mt (fun h => ?_) (fun h => ?_) <;> first | (exfalso; simp [Ops.cmp_eq, Ops.not_eq, icmp] at h; done) | (exfalso; simp [Ops.cmp_eq, icmp] at h; omega) | (try cbv))))
      simp only [Ops.cmp_eq, icmp]
      try (rw [decide_eq_false (show ¬ kind ≤ 3 by omega)])
      try (rw [decide_eq_false (show ¬ 0 ≤ key by omega)])
      try (rw [decide_eq_false (show ¬ key < 1073741824 by omega)])
      refine Ops.call _ [] (listNew_ev kind key head) rfl rfl rfl trivial ?_
      intro v V' hr
      rw [hc] at hr
      simp only [Bool.false_eq_true, if_false] at hr
      obtain ⟨rfl, rfl⟩ := hr
      simp only [layB, lapp, List.map_cons, List.map_nil, rnB_bx, rn, rnL]
      (cbv; repeat' (first | (refine ⟨by simp only [Ops.need_eq, needs]; first | rfl | decide, ?_⟩; try cbv) | (refine mt (fun h => ?_) (fun h => ?_) <;> first | (exfalso; simp [Ops.cmp_eq, Ops.not_eq, icmp] at h; done) | (exfalso; simp [Ops.cmp_eq, icmp] at h; omega) | (try cbv))))
      refine Ops.call _ [] (begun_ev 4 (by decide) (by decide) hb) rfl rfl rfl trivial ?_
      rintro v V' ⟨rfl, rfl⟩
      rw [hE]
      simp only [layB, lapp, List.map_cons, List.map_nil, rnB_bx, rn, rnL]
      generalize hM : bx W0 (memU m0) = M
      (cbv; repeat' (first | (refine ⟨by simp only [Ops.need_eq, needs]; first | rfl | decide, ?_⟩; try cbv) | (refine mt (fun h => ?_) (fun h => ?_) <;> first | (exfalso; simp [Ops.cmp_eq, Ops.not_eq, icmp] at h; done) | (exfalso; simp [Ops.cmp_eq, icmp] at h; omega) | (try cbv))))
      refine Ops.call0 _ (awake16_ev) rfl ?_; rintro v V' ⟨rfl, rfl⟩; simp only [lapp, List.map_nil, rn, rnL]
      (cbv; repeat' (first | (refine ⟨by simp only [Ops.need_eq, needs]; first | rfl | decide, ?_⟩; try cbv) | (refine mt (fun h => ?_) (fun h => ?_) <;> first | (exfalso; simp [Ops.cmp_eq, Ops.not_eq, icmp] at h; done) | (exfalso; simp [Ops.cmp_eq, icmp] at h; omega) | (try cbv))))
      refine Ops.call0 _ (listCheck_ev kind key) rfl ?_; rintro v V' ⟨rfl, rfl⟩; simp only [lapp, List.map_nil, rn, rnL]
      rw [hc]
      (cbv; repeat' (first | (refine ⟨by simp only [Ops.need_eq, needs]; first | rfl | decide, ?_⟩; try cbv) | (refine mt (fun h => ?_) (fun h => ?_) <;> first | (exfalso; simp [Ops.cmp_eq, Ops.not_eq, icmp] at h; done) | (exfalso; simp [Ops.cmp_eq, icmp] at h; omega) | (try cbv))))
      all_goals try (exfalso; simp [Ops.cmp_eq, Ops.not_eq, Ops.beq_eq, icmp] at h; done)
      refine Ops.call _ [0] (ListStep0_ev m0 (arena 4 4 12 40)) rfl rfl rfl ⟨.inr (by rw [← hM]; rfl), trivial⟩ ?_
      rintro v V' ⟨rfl, rfl⟩
      simp only [layB, lset, lapp, List.map_nil, List.map_cons, rnB_bx, rn, rnL]
      rw [hM]
      (cbv; repeat' (first | (refine ⟨by simp only [Ops.need_eq, needs]; first | rfl | decide, ?_⟩; try cbv) | (refine mt (fun h => ?_) (fun h => ?_) <;> first | (exfalso; simp [Ops.cmp_eq, Ops.not_eq, icmp] at h; done) | (exfalso; simp [Ops.cmp_eq, icmp] at h; omega) | (try cbv))))
      refine Ops.call0 _ (listDone0_ev) rfl ?_; rintro v V' ⟨rfl, rfl⟩; simp only [lapp, List.map_nil, rn, rnL]
      simp only [doneV, rn, rnL]
      (cbv; repeat' (first | (refine ⟨by simp only [Ops.need_eq, needs]; first | rfl | decide, ?_⟩; try cbv) | (refine mt (fun h => ?_) (fun h => ?_) <;> first | (exfalso; simp [Ops.cmp_eq, Ops.not_eq, icmp] at h; done) | (exfalso; simp [Ops.cmp_eq, icmp] at h; omega) | (try cbv))))
      all_goals try (exfalso; simp [Ops.cmp_eq, Ops.not_eq, Ops.beq_eq, icmp] at h; done)
      exact hQ _ _ (ReV.none rfl ⟨rfl, rfl⟩)
  | true =>
    obtain ⟨k1, k2, y1, y2⟩ : 1 ≤ kind ∧ kind ≤ 3 ∧ 0 ≤ key ∧ key < 1073741824 := by
      simp only [checkList, Bool.and_eq_true, decide_eq_true_eq] at hc
      omega
    have hask := n_ask head kind key hc
    have hnE : nE = arena 4 4 12 40 := rfl
    rw [hnE] at hask
    generalize hm : nM0 = m0 at *
    (cbv; repeat' (first | (refine ⟨by simp only [Ops.need_eq, needs]; first | rfl | decide, ?_⟩; try cbv) | (refine mt (fun h => ?_) (fun h => ?_) <;> first | (exfalso; simp [Ops.cmp_eq, Ops.not_eq, icmp] at h; done) | (exfalso; simp [Ops.cmp_eq, icmp] at h; omega) | (try cbv))))
    simp only [Ops.cmp_eq, icmp]
    rw [decide_eq_true (show key < 1073741824 by omega)]
    refine Ops.call _ [] (listNew_ev kind key head) rfl rfl rfl trivial ?_
    intro v V' hr
    rw [hc] at hr
    simp only [if_true] at hr
    obtain ⟨rfl, rfl⟩ := hr
    simp only [layB, lapp, List.map_cons, List.map_nil, rnB_bx, rn, rnL]
    generalize hL : bx W0 (listU W0 (newList kind key head)) = L
    (cbv; repeat' (first | (refine ⟨by simp only [Ops.need_eq, needs]; first | rfl | decide, ?_⟩; try cbv) | (refine mt (fun h => ?_) (fun h => ?_) <;> first | (exfalso; simp [Ops.cmp_eq, Ops.not_eq, icmp] at h; done) | (exfalso; simp [Ops.cmp_eq, icmp] at h; omega) | (try cbv))))
    refine Ops.call _ [] (begun_ev 4 (by decide) (by decide) hb) rfl rfl rfl trivial ?_
    rintro v V' ⟨rfl, rfl⟩
    rw [hE]
    simp only [layB, lapp, List.map_cons, List.map_nil, rnB_bx, rn, rnL]
    generalize hM : bx W0 (memU m0) = M
    (cbv; repeat' (first | (refine ⟨by simp only [Ops.need_eq, needs]; first | rfl | decide, ?_⟩; try cbv) | (refine mt (fun h => ?_) (fun h => ?_) <;> first | (exfalso; simp [Ops.cmp_eq, Ops.not_eq, icmp] at h; done) | (exfalso; simp [Ops.cmp_eq, icmp] at h; omega) | (try cbv))))
    refine Ops.call0 _ (awake16_ev) rfl ?_; rintro v V' ⟨rfl, rfl⟩; simp only [lapp, List.map_nil, rn, rnL]
    (cbv; repeat' (first | (refine ⟨by simp only [Ops.need_eq, needs]; first | rfl | decide, ?_⟩; try cbv) | (refine mt (fun h => ?_) (fun h => ?_) <;> first | (exfalso; simp [Ops.cmp_eq, Ops.not_eq, icmp] at h; done) | (exfalso; simp [Ops.cmp_eq, icmp] at h; omega) | (try cbv))))
    refine Ops.call0 _ (listCheck_ev kind key) rfl ?_; rintro v V' ⟨rfl, rfl⟩; simp only [lapp, List.map_nil, rn, rnL]
    rw [hc]
    (cbv; repeat' (first | (refine ⟨by simp only [Ops.need_eq, needs]; first | rfl | decide, ?_⟩; try cbv) | (refine mt (fun h => ?_) (fun h => ?_) <;> first | (exfalso; simp [Ops.cmp_eq, Ops.not_eq, icmp] at h; done) | (exfalso; simp [Ops.cmp_eq, icmp] at h; omega) | (try cbv))))
    all_goals try (exfalso; simp [Ops.cmp_eq, Ops.not_eq, Ops.beq_eq, icmp] at h; done)
    refine Ops.call _ [1] (ListStep0_ev m0 (arena 4 4 12 40)) rfl rfl rfl ⟨.inr (by rw [← hM]; rfl), trivial⟩ ?_
    rintro v V' ⟨rfl, rfl⟩
    simp only [layB, lset, lapp, List.map_nil, List.map_cons, rnB_bx, rn, rnL]
    rw [hM]
    (cbv; repeat' (first | (refine ⟨by simp only [Ops.need_eq, needs]; first | rfl | decide, ?_⟩; try cbv) | (refine mt (fun h => ?_) (fun h => ?_) <;> first | (exfalso; simp [Ops.cmp_eq, Ops.not_eq, icmp] at h; done) | (exfalso; simp [Ops.cmp_eq, icmp] at h; omega) | (try cbv))))
    refine Ops.call0 _ (listDone0_ev) rfl ?_; rintro v V' ⟨rfl, rfl⟩; simp only [lapp, List.map_nil, rn, rnL]
    simp only [doneV, rn, rnL]
    (cbv; repeat' (first | (refine ⟨by simp only [Ops.need_eq, needs]; first | rfl | decide, ?_⟩; try cbv) | (refine mt (fun h => ?_) (fun h => ?_) <;> first | (exfalso; simp [Ops.cmp_eq, Ops.not_eq, icmp] at h; done) | (exfalso; simp [Ops.cmp_eq, icmp] at h; omega) | (try cbv))))
    all_goals try (exfalso; simp [Ops.cmp_eq, Ops.not_eq, Ops.beq_eq, icmp] at h; done)
    · exact hQ _ _ (ReV.none rfl ⟨rfl, rfl⟩)
    · have hh' : head ≠ 65536 := by
        intro he
        rw [he] at h
        simp [Ops.cmp_eq, icmp] at h
      obtain ⟨st, m', ha⟩ := hask hh'
      refine Ops.call _ [1] (Ask_ev (arena 4 4 12 40) head kind key m0 ha) rfl rfl rfl ⟨.inr (by rw [← hM]; rfl), trivial⟩ ?_
      rintro v V' ⟨rfl, rfl⟩
      simp only [layB, lset, lapp, List.map_nil, List.map_cons, rnB_bx, doneV, rn, rnL]
      (cbv; repeat' (first | (refine ⟨by simp only [Ops.need_eq, needs]; first | rfl | decide, ?_⟩; try cbv) | (refine mt (fun h => ?_) (fun h => ?_) <;> first | (exfalso; simp [Ops.cmp_eq, Ops.not_eq, icmp] at h; done) | (exfalso; simp [Ops.cmp_eq, icmp] at h; omega) | (try cbv))))
      refine hQ _ _ (ReV.none rfl ⟨?_, rfl⟩)
      simp [Ops.cmp_eq, icmp]
theorem ListNone_law {W0 : World} (kind key : Int) (head : Nat) : Ev Tryz.prog W0 4 [.int .i64 kind, .int .i64 key, .int .u64 head] [] (fun v V' => v = .bool true ∧ V' = []) := ListNone_ev kind key head
end Go.Proofs.YtglghdjpkecngaaGreat
