/- worker: none, and one with nothing to do. -/
import Derived.Test.YtglghdjpkecngaaGreatEL
import Derived.Test.YtglghdjpkecngaaGreatIRX
namespace Go.Proofs.YtglghdjpkecngaaGreat
set_option linter.unusedVariables false
set_option linter.unusedSimpArgs false
open Go Go.SL Go.FL
set_option maxRecDepth 100000
theorem WorkerNone_ev {W0 : World} (at_ : Int) : Ev Tryz.prog W0 17 [.int .i64 at_] [] (fun v V' => v = .bool true) := by
  have hok := awake18_ok
  unfold awake18 at hok
  cases hb : begun18 with
  | none => rw [hb] at hok; cases hok
  | some r =>
  clear hok
  obtain ⟨hs, m⟩ := r
  have hB := begun18_ev (W0 := W0) hb
  have hE : arena18.v 0 = .agg [.int .i64 1, .int .i64 30, .int .i64 16, .int .i64 40, .int .i64 100, .int .i64 600, .int .i64 3, .ptr 0 0, .int .i64 0] := rfl
  rw [hE] at hB
  have hNew := New0_ev (W0 := W0) (hs := hs) 0 (by decide) (by decide)
  have hAw := awake18_ev (W0 := W0)
  have hSN := stepNil_ev (W0 := W0) arena18 m (.fn 54 [] [])
  have hEN := ended0_ev (W0 := W0)
  have hIN := idle0_ev (W0 := W0)
  have hTN := told0_ev (W0 := W0)
  have hMN := made0_ev (W0 := W0) at_
  generalize hw : newWorker 0 [] = w at *
  have hMa := made_ev (W0 := W0) w (some hs) at_
  have hEn := ended_ev (W0 := W0) w (some hs)
  have hSt := stepE_ev (W0 := W0) w (some hs) arena18 m 54 [] [] (.inl ⟨rfl, rfl⟩) .emp (fun _ _ => rfl) (by rw [← hw]; rfl) (by rw [← hw]; rfl)
  rw [show madeAt at_ w.told = 0 from by rw [← hw]; unfold madeAt newWorker; split <;> simp] at hMa
  rw [show w.ended = true from by rw [← hw]; rfl] at hEn
  refine Ev.out fun Q' hQ => ?_
  generalize hM : bx W0 (memU m) = M at *
  generalize hS : bx W0 (shelfU hs) = S at *
  generalize hK : bx W0 (workU W0 w (some hs)) = K at *
  rw [hE] at hSN
  refine ev17 rfl fun o => ?_
  (cbv; repeat' (first | (refine ⟨by simp only [Ops.need_eq, needs]; first | rfl | decide, ?_⟩; try cbv) | (refine mt (fun h => ?_) (fun h => ?_) <;> first | (exfalso; simp [Ops.cmp_eq, Ops.not_eq, icmp] at h; done) | (exfalso; simp [Ops.cmp_eq, icmp] at h; omega) | (try cbv))))
  refine Ops.call _ [] hB rfl rfl rfl trivial ?_
  rintro v V' ⟨rfl, rfl⟩
  simp only [layB, lset, lapp, List.map_cons, List.map_nil, ← hM, ← hS, rnB_bx, rn, rnL]
  rw [hM, hS]
  (cbv; repeat' (first | (refine ⟨by simp only [Ops.need_eq, needs]; first | rfl | decide, ?_⟩; try cbv) | (refine mt (fun h => ?_) (fun h => ?_) <;> first | (exfalso; simp [Ops.cmp_eq, Ops.not_eq, icmp] at h; done) | (exfalso; simp [Ops.cmp_eq, icmp] at h; omega) | (try cbv))))
  refine Ops.call _ [1] hNew rfl rfl rfl ⟨.inr (by rw [← hS]; rfl), trivial⟩ ?_
  rintro v V' ⟨rfl, rfl⟩
  simp only [layB, lset, lapp, List.map_cons, List.map_nil, ← hK, rnB_bx, rnB_emp, rn, rnL]
  rw [hK]
  (cbv; repeat' (first | (refine ⟨by simp only [Ops.need_eq, needs]; first | rfl | decide, ?_⟩; try cbv) | (refine mt (fun h => ?_) (fun h => ?_) <;> first | (exfalso; simp [Ops.cmp_eq, Ops.not_eq, icmp] at h; done) | (exfalso; simp [Ops.cmp_eq, icmp] at h; omega) | (try cbv))))
  refine Ops.call0 _ (hAw) rfl ?_; rintro v V' ⟨rfl, rfl⟩; simp only [lapp, List.map_nil, rn, rnL]
  (cbv; repeat' (first | (refine ⟨by simp only [Ops.need_eq, needs]; first | rfl | decide, ?_⟩; try cbv) | (refine mt (fun h => ?_) (fun h => ?_) <;> first | (exfalso; simp [Ops.cmp_eq, Ops.not_eq, icmp] at h; done) | (exfalso; simp [Ops.cmp_eq, icmp] at h; omega) | (try cbv))))
  refine Ops.call _ [0] hSN rfl rfl rfl ⟨.inr (by rw [← hM]; rfl), trivial⟩ ?_
  rintro v V' ⟨rfl, rfl⟩
  simp only [layB, lset, lapp, List.map_cons, List.map_nil, ← hM, rnB_bx, rn, rnL]
  rw [hM]
  (cbv; repeat' (first | (refine ⟨by simp only [Ops.need_eq, needs]; first | rfl | decide, ?_⟩; try cbv) | (refine mt (fun h => ?_) (fun h => ?_) <;> first | (exfalso; simp [Ops.cmp_eq, Ops.not_eq, icmp] at h; done) | (exfalso; simp [Ops.cmp_eq, icmp] at h; omega) | (try cbv))))
  refine Ops.call0 _ (hEN) rfl ?_; rintro v V' ⟨rfl, rfl⟩; simp only [lapp, List.map_nil, rn, rnL]
  (cbv; repeat' (first | (refine ⟨by simp only [Ops.need_eq, needs]; first | rfl | decide, ?_⟩; try cbv) | (refine mt (fun h => ?_) (fun h => ?_) <;> first | (exfalso; simp [Ops.cmp_eq, Ops.not_eq, icmp] at h; done) | (exfalso; simp [Ops.cmp_eq, icmp] at h; omega) | (try cbv))))
  refine Ops.call0 _ (hIN) rfl ?_; rintro v V' ⟨rfl, rfl⟩; simp only [lapp, List.map_nil, rn, rnL]
  (cbv; repeat' (first | (refine ⟨by simp only [Ops.need_eq, needs]; first | rfl | decide, ?_⟩; try cbv) | (refine mt (fun h => ?_) (fun h => ?_) <;> first | (exfalso; simp [Ops.cmp_eq, Ops.not_eq, icmp] at h; done) | (exfalso; simp [Ops.cmp_eq, icmp] at h; omega) | (try cbv))))
  refine Ops.call0 _ (hTN) rfl ?_; rintro v V' ⟨rfl, rfl⟩; simp only [lapp, List.map_nil, rn, rnL]
  (cbv; repeat' (first | (refine ⟨by simp only [Ops.need_eq, needs]; first | rfl | decide, ?_⟩; try cbv) | (refine mt (fun h => ?_) (fun h => ?_) <;> first | (exfalso; simp [Ops.cmp_eq, Ops.not_eq, icmp] at h; done) | (exfalso; simp [Ops.cmp_eq, icmp] at h; omega) | (try cbv))))
  refine Ops.call0 _ (hMN) rfl ?_; rintro v V' ⟨rfl, rfl⟩; simp only [lapp, List.map_nil, rn, rnL]
  (cbv; repeat' (first | (refine ⟨by simp only [Ops.need_eq, needs]; first | rfl | decide, ?_⟩; try cbv) | (refine mt (fun h => ?_) (fun h => ?_) <;> first | (exfalso; simp [Ops.cmp_eq, Ops.not_eq, icmp] at h; done) | (exfalso; simp [Ops.cmp_eq, icmp] at h; omega) | (try cbv))))
  refine Ops.call _ [3] hMa rfl rfl rfl ⟨.inr (by rw [← hK]; rfl), trivial⟩ ?_
  rintro v V' ⟨rfl, rfl⟩
  simp only [layB, lset, lapp, List.map_cons, List.map_nil, ← hK, rnB_bx, rn, rnL]
  rw [hK]
  (cbv; repeat' (first | (refine ⟨by simp only [Ops.need_eq, needs]; first | rfl | decide, ?_⟩; try cbv) | (refine mt (fun h => ?_) (fun h => ?_) <;> first | (exfalso; simp [Ops.cmp_eq, Ops.not_eq, icmp] at h; done) | (exfalso; simp [Ops.cmp_eq, icmp] at h; omega) | (try cbv))))
  refine Ops.call _ [3] hEn rfl rfl rfl ⟨.inr (by rw [← hK]; rfl), trivial⟩ ?_
  rintro v V' ⟨rfl, rfl⟩
  simp only [layB, lset, lapp, List.map_cons, List.map_nil, ← hK, rnB_bx, rn, rnL]
  rw [hK]
  (cbv; repeat' (first | (refine ⟨by simp only [Ops.need_eq, needs]; first | rfl | decide, ?_⟩; try cbv) | (refine mt (fun h => ?_) (fun h => ?_) <;> first | (exfalso; simp [Ops.cmp_eq, Ops.not_eq, icmp] at h; done) | (exfalso; simp [Ops.cmp_eq, icmp] at h; omega) | (try cbv))))
  refine Ops.call _ [3, 0, 1] hSt rfl rfl rfl ⟨.inr (by rw [← hK]; rfl), .inr (by rw [← hM]; rfl), .inl rfl, trivial⟩ ?_
  rintro v V' ⟨rfl, rfl⟩
  simp only [layB, lset, lapp, List.map_cons, List.map_nil, ← hK, ← hM, rnB_bx, rnB_emp, rn, rnL]
  rw [hK, hM]
  (cbv; repeat' (first | (refine ⟨by simp only [Ops.need_eq, needs]; first | rfl | decide, ?_⟩; try cbv) | (refine mt (fun h => ?_) (fun h => ?_) <;> first | (exfalso; simp [Ops.cmp_eq, Ops.not_eq, icmp] at h; done) | (exfalso; simp [Ops.cmp_eq, icmp] at h; omega) | (try cbv))))
  exact hQ _ _ (ReV.none rfl (by simp [Ops.not_eq]))
end Go.Proofs.YtglghdjpkecngaaGreat
