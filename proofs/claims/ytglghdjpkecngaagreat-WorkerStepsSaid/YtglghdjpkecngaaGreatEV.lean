/- worker: each pick is a step: the law. -/
import Derived.Test.YtglghdjpkecngaaGreatEU
import Derived.Test.YtglghdjpkecngaaGreatEL
import Derived.Test.YtglghdjpkecngaaGreatIRS
namespace Go.Proofs.YtglghdjpkecngaaGreat
set_option linter.unusedVariables false
set_option linter.unusedSimpArgs false
open Go Go.SL Go.FL
set_option maxRecDepth 100000
set_option maxHeartbeats 2000000 in
theorem WorkerSteps_ev {W0 : World} (l : List CallS) (oid : Option Nat) (cap : Nat) (ho : oid = some 0 ∨ (oid = none ∧ l = [])) : Ev Tryz.prog W0 15 [.osl oid 9 0 l.length cap] [.ro 9 (l.map CallS.cs)] (fun v V' => v = .bool true) := by
  have hok := awake18_ok
  unfold awake18 at hok
  cases hb : begun18 with
  | none => rw [hb] at hok; cases hok
  | some r =>
  clear hok
  obtain ⟨hs, m⟩ := r
  have hB := begun18_ev (W0 := W0) hb
  have hE : arena18.v 0 = .agg [.int .i64 1, .int .i64 30, .int .i64 16, .int .i64 40, .int .i64 100, .int .i64 600, .int .i64 3, .ptr 0 0, .int .i64 0] := rfl
  rw [hE] at hB
  have hAw := awake18_ev (W0 := W0)
  obtain ⟨-, -, h3⟩ := begun18_now hb
  have hSI := SI.new hb 0 (cutL l)
  have hCut := Cut_ev (W0 := W0) l oid cap ho
  have hmw := cutL_may l
  rw [← h3] at hmw
  have hWO := WOk.new hmw
  have hlen : (cutL l).length ≤ 1000 := by unfold cutL; rw [List.length_map, List.length_take]; omega
  have hN0 := New0_ev (W0 := W0) (hs := hs) 0 (by decide) (by decide)
  have hN := New_ev2 (W0 := W0) (hs := hs) (N := hs.length) ⟨fun ρ h => by show VV.ptr (ρ 0) 0 = _; rw [h], fun ρ => rnB_bx W0 _ ρ, shelfLists_ev hs⟩ 0 (cutL l) (fun j => .v j) (fun j => .v j) .num (fun _ => rfl) (fun _ _ => rfl) (fun _ _ => rfl) hlen
  rw [hmw] at hN
  simp only [if_true] at hN
  have hNo := fun m : MemS => eNow_ev (W0 := W0) m arena18
  rw [hE] at hNo
  have hpl := CallS.plain l
  have hXr : ∀ ρ, rnB ρ (.ro 9 (l.map CallS.cs)) = .ro 9 (l.map CallS.cs) := fun ρ => by simp only [rnB, hpl _]
  have ho2 : oid = some 0 ∨ (oid = none ∧ l.length = 0) := by
    rcases ho with h | ⟨h, rfl⟩
    · exact .inl h
    · exact .inr ⟨h, rfl⟩
  clear hmw hpl ho
  generalize l.length = nx at *
  generalize cutL l = cl at *
  generalize l.map CallS.cs = xs at *
  refine Ev.out fun Q' hQ => ?_
  refine ev15 rfl fun o => ?_
  (cbv; repeat' (first | (refine ⟨by simp only [Ops.need_eq, needs]; first | rfl | decide, ?_⟩; try cbv) | (refine mt (fun h => ?_) (fun h => ?_) <;> first | (exfalso; simp [Ops.cmp_eq, Ops.not_eq, icmp] at h; done) | (exfalso; simp [Ops.cmp_eq, icmp] at h; omega) | (try cbv))))
  refine Ops.call _ [] hB rfl rfl rfl trivial ?_
  rintro v V' ⟨rfl, rfl⟩
  simp only [layB, lset, lapp, List.map_cons, List.map_nil, rnB_bx, rn, rnL]
  generalize hM : bx W0 (memU m) = M
  generalize hS : bx W0 (shelfU hs) = S
  (cbv; repeat' (first | (refine ⟨by simp only [Ops.need_eq, needs]; first | rfl | decide, ?_⟩; try cbv) | (refine mt (fun h => ?_) (fun h => ?_) <;> first | (exfalso; simp [Ops.cmp_eq, Ops.not_eq, icmp] at h; done) | (exfalso; simp [Ops.cmp_eq, icmp] at h; omega) | (try cbv))))
  refine Ops.call _ [0] hCut (by rcases ho2 with rfl | ⟨rfl, _⟩ <;> rfl) rfl rfl ⟨.inr (by rw [hXr]; rfl), trivial⟩ ?_
  rintro v V' ⟨rfl, rfl⟩
  have hEp : arena18.v 1 = .agg [.int .i64 1, .int .i64 30, .int .i64 16, .int .i64 40, .int .i64 100, .int .i64 600, .int .i64 3, .ptr 1 0, .int .i64 0] := rfl
  have hNs : cl = [] ∨ cl ≠ [] := by cases cl <;> simp
  rcases hNs with hnil | hnil
  focus
    subst hnil
    simp only [slV, cutB, layB, lset, lapp, List.map_cons, List.map_nil, hXr, rn, rnL]
    clear hN
    generalize newWorker 0 [] = s0 at *
    generalize hK : bx W0 (workU W0 s0 (some hs)) = KK at *
    (cbv; repeat' (first | (refine ⟨by simp only [Ops.need_eq, needs]; first | rfl | decide, ?_⟩; try cbv) | (refine mt (fun h => ?_) (fun h => ?_) <;> first | (exfalso; simp [Ops.cmp_eq, Ops.not_eq, icmp] at h; done) | (exfalso; simp [Ops.cmp_eq, icmp] at h; omega) | (try cbv))))
    refine Ops.call _ [2] hN0 rfl rfl rfl ⟨.inr (by rw [← hS]; simp only [rnB_bx]; rfl), trivial⟩ ?_
    rintro v V' ⟨rfl, rfl⟩
    simp only [layB, lset, lapp, List.map_cons, List.map_nil, ← hK, rnB_bx, rnB_emp, rn, rnL]
    rw [hK]
    (cbv; repeat' (first | (refine ⟨by simp only [Ops.need_eq, needs]; first | rfl | decide, ?_⟩; try cbv) | (refine mt (fun h => ?_) (fun h => ?_) <;> first | (exfalso; simp [Ops.cmp_eq, Ops.not_eq, icmp] at h; done) | (exfalso; simp [Ops.cmp_eq, icmp] at h; omega) | (try cbv))))
    refine Ops.call0 _ (hAw) rfl ?_; rintro v V' ⟨rfl, rfl⟩; simp only [lapp, List.map_nil, rn, rnL]
    (cbv; repeat' (first | (refine ⟨by simp only [Ops.need_eq, needs]; first | rfl | decide, ?_⟩; try cbv) | (refine mt (fun h => ?_) (fun h => ?_) <;> first | (exfalso; simp [Ops.cmp_eq, Ops.not_eq, icmp] at h; done) | (exfalso; simp [Ops.cmp_eq, icmp] at h; omega) | (try cbv))))
    refine ⟨fun k env V => ∃ (i : Nat) (s : WorkerS) (mi : MemS) (r : Nat → Value), i + k = 4000 ∧ SI i s mi ∧ WOk hs s ∧ env = mix [(3, .ptr 3 0), (6, .ptr 4 0), (8, .int .i64 i)] r ∧
        V = [.ro 9 xs, bx W0 (memU mi), .emp, .cells [.int .i64 1, .int .i64 30, .int .i64 16, .int .i64 40, .int .i64 100, .int .i64 600, .int .i64 3, .ptr 1 0, .int .i64 0], bx W0 (workU W0 s (some hs))],
      ⟨4000, o.reI (Re.ren [0, 1, 2, 3, 4] _ _ rfl rfl ?_ ?_ fun r => ⟨0, s0, m, r, rfl, hSI, hWO, rfl, rfl⟩)⟩, ?_⟩
    · exact ⟨rfl, rfl, rfl, trivial⟩
    · exact ⟨.inr (by rw [hXr]; rfl), .inr (by rw [← hM]; rfl), .inl rfl, .inr rfl, .inr (by rw [← hK]; rfl), trivial⟩
    clear hSI hWO hM hK M KK hN0
  rotate_left
  focus
    obtain ⟨q1, q2⟩ : slV 9 cl 2 1 = .sl 2 9 0 cl.length (.v 1) ∧ cutB cl = [.num, .arr 9 (cl.map CallS.cs) (.v 1)] := by
      cases cl with
      | nil => exact absurd rfl hnil
      | cons a t => exact ⟨rfl, rfl⟩
    rw [workE_eq hnil] at hN
    rw [q1, q2]
    clear q1 q2 hN0
    have hy : ∀ ρ : Nat → Nat, (cl.map CallS.cs).map (rnL ρ) = cl.map CallS.cs := fun ρ => by rw [List.map_map]; exact List.map_congr_left fun _ _ => rfl
    generalize cl.length = n at *
    generalize cl.map CallS.cs = ys at *
    generalize newWorker 0 cl = s0 at *
    generalize hK : bx W0 (workU W0 s0 (some hs)) = KK at *
    have hr : ∀ (ρ : Nat → Nat) c, rnB ρ (.arr 9 ys c) = .arr 9 ys (c.rn ρ) := by intro ρ c; simp only [rnB, hy]
    have hr2 : ∀ ρ : Nat → Nat, rnB ρ .num = .num := fun _ => rfl
    have r1 : ∀ m, rho [0] m 1 = m := fun _ => rfl
    simp only [layB, lset, lapp, List.map_cons, List.map_nil, hXr, hr, hr2, rn, rnL, Cap.rn]
    (cbv; repeat' (first | (refine ⟨by simp only [Ops.need_eq, needs]; first | rfl | decide, ?_⟩; try cbv) | (refine mt (fun h => ?_) (fun h => ?_) <;> first | (exfalso; simp [Ops.cmp_eq, Ops.not_eq, icmp] at h; done) | (exfalso; simp [Ops.cmp_eq, icmp] at h; omega) | (try cbv))))
    refine Ops.call _ [2, 5, 4] hN rfl rfl rfl ⟨.inr (by rw [← hS]; rfl), .inr (by rw [hr]; rfl), .inr rfl, trivial⟩ ?_
    rintro v V' ⟨rfl, rfl⟩
    have r2 : ∀ m, rho [2, 5, 4] m 2 = 4 := fun _ => rfl
    simp only [layB, lset, lapp, List.map_cons, List.map_nil, ← hK, hr, hr2, rnB_bx, rnB_emp, rn, rnL, Cap.rn]
    rw [hK]
    (cbv; repeat' (first | (refine ⟨by simp only [Ops.need_eq, needs]; first | rfl | decide, ?_⟩; try cbv) | (refine mt (fun h => ?_) (fun h => ?_) <;> first | (exfalso; simp [Ops.cmp_eq, Ops.not_eq, icmp] at h; done) | (exfalso; simp [Ops.cmp_eq, icmp] at h; omega) | (try cbv))))
    refine Ops.call0 _ (hAw) rfl ?_; rintro v V' ⟨rfl, rfl⟩; simp only [lapp, List.map_nil, rn, rnL]
    (cbv; repeat' (first | (refine ⟨by simp only [Ops.need_eq, needs]; first | rfl | decide, ?_⟩; try cbv) | (refine mt (fun h => ?_) (fun h => ?_) <;> first | (exfalso; simp [Ops.cmp_eq, Ops.not_eq, icmp] at h; done) | (exfalso; simp [Ops.cmp_eq, icmp] at h; omega) | (try cbv))))
    refine ⟨fun k env V => ∃ (i : Nat) (s : WorkerS) (mi : MemS) (r : Nat → Value), i + k = 4000 ∧ SI i s mi ∧ WOk hs s ∧ env = mix [(3, .ptr 3 0), (6, .ptr 4 0), (8, .int .i64 i)] r ∧
        V = [.ro 9 xs, bx W0 (memU mi), .emp, .cells [.int .i64 1, .int .i64 30, .int .i64 16, .int .i64 40, .int .i64 100, .int .i64 600, .int .i64 3, .ptr 1 0, .int .i64 0], bx W0 (workU W0 s (some hs))],
      ⟨4000, o.reI (Re.ren [0, 1, 2, 3, 6] _ _ rfl rfl ?_ ?_ fun r => ⟨0, s0, m, r, rfl, hSI, hWO, rfl, rfl⟩)⟩, ?_⟩
    · exact ⟨rfl, rfl, rfl, trivial⟩
    · exact ⟨.inr (by rw [hXr]; rfl), .inr (by rw [← hM]; rfl), .inl rfl, .inr rfl, .inr (by rw [← hK]; rfl), trivial⟩
    clear hSI hWO hM hK M KK hN
  all_goals
    clear hCut hB hAw
    rintro k env V ⟨i, s, mi, r, hik, hSi, hwo, rfl, rfl⟩
    have hid := idle_ev (W0 := W0) s (some hs)
    generalize hM : bx W0 (memU mi) = M
    have hEn := ended_ev (W0 := W0) s (some hs)
    generalize hK : bx W0 (workU W0 s (some hs)) = KK at *
    have hend := fun V2 : List VB => hQ (.bool true) (.ro 9 xs :: V2) (ReV.pre (U := [.ro 9 xs]) (rest := V2) (fun ρ h => by simp only [List.map_cons, List.map_nil, hXr]) (fun _ => rfl) rfl)
    by_cases hlt : i < 4000
    · (cbv; repeat' (first | (refine ⟨by simp only [Ops.need_eq, needs]; first | rfl | decide, ?_⟩; try cbv) | (refine mt (fun h => ?_) (fun h => ?_) <;> first | (exfalso; simp [Ops.cmp_eq, Ops.not_eq, icmp] at h; done) | (exfalso; simp [Ops.cmp_eq, icmp] at h; omega) | (try cbv))))
      obtain ⟨hwf, hSn, hs1, hs2, hs3⟩ := hSi.step hlt hs nobodyF
      have hdid := step_did hwo.q arena18 hs nobodyF mi
      have hSt := Step_ev (W0 := W0) s hs arena18 mi 54 [] [] (.inl ⟨rfl, rfl⟩) .emp nobodyF (nobody_ok _) (by rw [h3]; decide) (fun _ _ => rfl) hwo hwf
      have hwo2 := hwo.step arena18 nobodyF mi
      have hsm := step_same s arena18 hs nobodyF mi
      generalize s.step arena18 hs nobodyF mi = R at *
      obtain ⟨b, s2, m2⟩ := R
      simp only at hSn hs1 hs2 hs3 hdid hSt hwo2 hsm
      subst hdid
      have hNoA := hNo mi
      have hNoB := hNo m2
      generalize hM2 : bx W0 (memU m2) = M2 at *
      generalize hK2 : bx W0 (workU W0 s2 (some hs)) = K2 at *
      rw [hM] at hNoA hSt
      rw [hK] at hSt
      clear hNo
      have hwi : s.ended = true → s2.work.isNone = true := fun h => by rw [hsm (by rw [h]; rfl)]; unfold WorkerS.ended at h; rw [Bool.and_eq_true] at h; exact h.1
      have hs4 : s.ended = true → m2.steps = mi.steps := fun h => by rw [hs3 (by rw [h]; rfl)]
      have hin : 0 ≤ mi.steps ∧ mi.steps ≤ 20000 := ⟨hSi.sb.1, by have := hSi.sb.2; omega⟩
      generalize s.ended = en at *
      generalize mi.steps = n1 at *
      generalize m2.steps = n2 at *
      refine Ops.call _ [1] hNoA rfl rfl rfl ⟨.inr (by rw [← hM, rnB_bx]; rfl), trivial⟩ ?_
      rintro v V' ⟨rfl, rfl⟩
      simp only [layB, lset, lapp, List.map_nil, List.map_cons, ← hM, rnB_bx, rn, rnL]
      rw [hM]
      (cbv; repeat' (first | (refine ⟨by simp only [Ops.need_eq, needs]; first | rfl | decide, ?_⟩; try cbv) | (refine mt (fun h => ?_) (fun h => ?_) <;> first | (exfalso; simp [Ops.cmp_eq, Ops.not_eq, icmp] at h; done) | (exfalso; simp [Ops.cmp_eq, icmp] at h; omega) | (try cbv))))
      refine Ops.call _ [4] hEn rfl rfl rfl ⟨.inr (by rw [← hK]; rfl), trivial⟩ ?_
      rintro v V' ⟨rfl, rfl⟩
      simp only [layB, lset, lapp, List.map_nil, List.map_cons, ← hK, rnB_bx, rn, rnL]
      rw [hK]
      (cbv; repeat' (first | (refine ⟨by simp only [Ops.need_eq, needs]; first | rfl | decide, ?_⟩; try cbv) | (refine mt (fun h => ?_) (fun h => ?_) <;> first | (exfalso; simp [Ops.cmp_eq, Ops.not_eq, icmp] at h; done) | (exfalso; simp [Ops.cmp_eq, icmp] at h; omega) | (try cbv))))
      refine Ops.call _ [4, 1, 2] hSt rfl rfl rfl ⟨.inr (by rw [← hK, rnB_bx]; rfl), .inr (by rw [← hM, rnB_bx]; rfl), .inl rfl, trivial⟩ ?_
      rintro v V' ⟨rfl, rfl⟩
      simp only [layB, lset, lapp, List.map_nil, List.map_cons, ← hM2, ← hK2, rnB_bx, rnB_emp, rn, rnL]
      rw [hM2, hK2]
      have hadd : o.ar .add .i64 n1 1 = n1 + 1 := by rw [o.ar_eq]; exact w64_id (by omega) (by omega)
      have hid2 := idle_ev (W0 := W0) s2 (some hs)
      rw [hK2] at hid2
      cases en
      · simp only [Bool.not_false]
        (cbv; repeat' (first | (refine ⟨by simp only [Ops.need_eq, needs]; first | rfl | decide, ?_⟩; try cbv) | (refine mt (fun h => ?_) (fun h => ?_) <;> first | (exfalso; simp [Ops.cmp_eq, Ops.not_eq, Ops.beq_eq, icmp] at h; done) | (exfalso; simp [Ops.cmp_eq, Ops.not_eq, Ops.beq_eq, icmp] at h; omega) | (try cbv))))
        refine Ops.call _ [1] hNoB rfl rfl rfl ⟨.inr (by rw [← hM2, rnB_bx]; rfl), trivial⟩ ?_
        rintro v V' ⟨rfl, rfl⟩
        simp only [layB, lset, lapp, List.map_nil, List.map_cons, ← hM2, rnB_bx, rn, rnL, hadd]
        rw [hM2]
        (cbv; repeat' (first | (refine ⟨by simp only [Ops.need_eq, needs]; first | rfl | decide, ?_⟩; try cbv) | (refine mt (fun h => ?_) (fun h => ?_) <;> first | (exfalso; simp [Ops.cmp_eq, Ops.not_eq, Ops.beq_eq, icmp] at h; done) | (exfalso; simp [Ops.cmp_eq, Ops.not_eq, Ops.beq_eq, icmp] at h; omega) | (try cbv))))
        · exfalso; rename_i h; rw [hadd] at h; simp only [Ops.cmp_eq, icmp, decide_eq_true_eq] at h; omega
        · refine ⟨k - 1, by omega, o.reI (Re.ren [0, 1, 2, 3, 4] _ _ rfl rfl ?_ ?_ fun r => ⟨i + 1, s2, m2, r, by omega, hSn, hwo2, rfl, rfl⟩)⟩
          · exact ⟨rfl, rfl, congrArg (VV.int .i64) (by simp only [Ops.ar_eq]; exact add1 (i := i) (by omega)), trivial⟩
          · exact ⟨.inr (by rw [hXr]; rfl), .inr (by rw [← hM2]; rfl), .inl rfl, .inr rfl, .inr (by rw [← hK2]; rfl), trivial⟩
      · simp only [Bool.not_true]
        (cbv; repeat' (first | (refine ⟨by simp only [Ops.need_eq, needs]; first | rfl | decide, ?_⟩; try cbv) | (refine mt (fun h => ?_) (fun h => ?_) <;> first | (exfalso; simp [Ops.cmp_eq, Ops.not_eq, Ops.beq_eq, icmp] at h; done) | (exfalso; simp [Ops.cmp_eq, Ops.not_eq, Ops.beq_eq, icmp] at h; omega) | (try cbv))))
        refine Ops.call _ [1] hNoB rfl rfl rfl ⟨.inr (by rw [← hM2, rnB_bx]; rfl), trivial⟩ ?_
        rintro v V' ⟨rfl, rfl⟩
        simp only [layB, lset, lapp, List.map_nil, List.map_cons, ← hM2, rnB_bx, rn, rnL, hadd]
        rw [hM2]
        (cbv; repeat' (first | (refine ⟨by simp only [Ops.need_eq, needs]; first | rfl | decide, ?_⟩; try cbv) | (refine mt (fun h => ?_) (fun h => ?_) <;> first | (exfalso; simp [Ops.cmp_eq, Ops.not_eq, Ops.beq_eq, icmp] at h; done) | (exfalso; simp [Ops.cmp_eq, Ops.not_eq, Ops.beq_eq, icmp] at h; omega) | (try cbv))))
        · exfalso; rename_i h; rw [hadd] at h; simp only [Ops.cmp_eq, icmp, decide_eq_true_eq] at h; omega
        · have e1 := hs4 rfl
          subst e1
          rw [hwi rfl] at hid2
          refine Ops.call _ [1] hNoB rfl rfl rfl ⟨.inr (by rw [← hM2, rnB_bx]; rfl), trivial⟩ ?_
          rintro v V' ⟨rfl, rfl⟩
          simp only [layB, lset, lapp, List.map_nil, List.map_cons, ← hM2, rnB_bx, rn, rnL]
          rw [hM2]
          (cbv; repeat' (first | (refine ⟨by simp only [Ops.need_eq, needs]; first | rfl | decide, ?_⟩; try cbv) | (refine mt (fun h => ?_) (fun h => ?_) <;> first | (exfalso; simp [Ops.cmp_eq, Ops.not_eq, Ops.beq_eq, icmp] at h; done) | (exfalso; simp [Ops.cmp_eq, Ops.not_eq, Ops.beq_eq, icmp] at h; omega) | (try cbv))))
          refine Ops.call _ [4] hid2 rfl rfl rfl ⟨.inr (by rw [← hK2, rnB_bx]; rfl), trivial⟩ ?_
          rintro v V' ⟨rfl, rfl⟩
          simp only [layB, lset, lapp, List.map_nil, List.map_cons, ← hK2, rnB_bx, rn, rnL]
          rw [hK2]
          (cbv; repeat' (first | (refine ⟨by simp only [Ops.need_eq, needs]; first | rfl | decide, ?_⟩; try cbv) | (refine mt (fun h => ?_) (fun h => ?_) <;> first | (exfalso; simp [Ops.cmp_eq, Ops.not_eq, Ops.beq_eq, icmp] at h; done) | (exfalso; simp [Ops.cmp_eq, Ops.not_eq, Ops.beq_eq, icmp] at h; omega) | (try cbv))))
          exact hend _
    · (cbv; repeat' (first | (refine ⟨by simp only [Ops.need_eq, needs]; first | rfl | decide, ?_⟩; try cbv) | (refine mt (fun h => ?_) (fun h => ?_) <;> first | (exfalso; simp [Ops.cmp_eq, Ops.not_eq, icmp] at h; done) | (exfalso; simp [Ops.cmp_eq, icmp] at h; omega) | (try cbv))))
      exact hend [M, .emp, .cells [.int .i64 1, .int .i64 30, .int .i64 16, .int .i64 40, .int .i64 100, .int .i64 600, .int .i64 3, .ptr 1 0, .int .i64 0], KK]
end Go.Proofs.YtglghdjpkecngaaGreat
