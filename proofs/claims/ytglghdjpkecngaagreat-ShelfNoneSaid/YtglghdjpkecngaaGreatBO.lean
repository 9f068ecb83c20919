/- shelf: ShelfNone. -/
import Derived.Test.YtglghdjpkecngaaGreatBN
import Derived.Test.YtglghdjpkecngaaGreatIRE
namespace Go.Proofs.YtglghdjpkecngaaGreat
set_option linter.unusedVariables false
set_option linter.unusedSimpArgs false
open Go Go.SL Go.FL
set_option maxRecDepth 100000
theorem one_of : ∃ m, freshShelf (arena 1 4 2 40) 1 (freshM (arena 1 4 2 40).c) = some (0, [65536], m) := by
  have h : (freshShelf (arena 1 4 2 40) 1 (freshM (arena 1 4 2 40).c)).map (fun r => (r.1, r.2.1)) = some (0, [65536]) := by decide +kernel
  cases hs : freshShelf (arena 1 4 2 40) 1 (freshM (arena 1 4 2 40).c) with
  | none => rw [hs] at h; cases h
  | some r =>
    obtain ⟨x, l, m⟩ := r
    rw [hs] at h
    simp only [Option.map_some, Option.some.injEq, Prod.mk.injEq] at h
    obtain ⟨rfl, rfl⟩ := h
    exact ⟨m, rfl⟩
theorem ShelfNone_ev {W0 : World} (kind key : Int) : Ev Tryz.prog W0 12 [.int .i64 kind, .int .i64 key] [] (fun v V' => v = .bool true ∧ V' = []) := by
  refine Ev.out fun Q' hQ => ev12 rfl fun o => ?_
  have hE : (arena 1 4 2 40).v 0 = .agg [.int .i64 1, .int .i64 4, .int .i64 2, .int .i64 40, .int .i64 100, .int .i64 600, .int .i64 3, .ptr 0 0, .int .i64 0] := rfl
  obtain ⟨m1, h1⟩ := one_of
  have h0 : ∀ m, freshShelf (arena 1 4 2 40) 0 m = some (0, [], m) := fun _ => rfl
  have h2 : ∀ m, freshShelf (arena 1 4 2 40) (-1) m = some (1, [], m) := fun _ => rfl
  (cbv; repeat' (first | (refine ⟨by simp only [Ops.need_eq, needs]; first | rfl | decide, ?_⟩; try cbv) | (refine mt (fun h => ?_) (fun h => ?_) <;> first | (exfalso; simp [Ops.cmp_eq, Ops.not_eq, icmp] at h; done) | (exfalso; simp [Ops.cmp_eq, icmp] at h; omega) | (try cbv))))
  refine Ops.call _ [] (Arena_ev 1 4 2 40 (arenaOk (by decide) (by decide) (by decide) (by decide) (by decide) (by decide) (by decide) (by decide))) rfl rfl rfl trivial ?_
  rintro v V' ⟨rfl, rfl⟩
  rw [hE]
  simp only [layB, lapp, List.map_cons, List.map_nil, rnB_bx, rn, rnL]
  generalize hm0 : freshM (arena 1 4 2 40).c = m0 at *
  have f0 := shelfFresh_ev (W0 := W0) (arena 1 4 2 40) 0 m0 (h0 m0)
  have f1 := shelfFresh_ev (W0 := W0) (arena 1 4 2 40) 1 m0 h1
  have f2 := shelfFresh_ev (W0 := W0) (arena 1 4 2 40) (-1) m1 (h2 m1)
  rw [hE] at f0 f1 f2
  generalize hM : bx W0 (memU m0) = M at *
  generalize hM1 : bx W0 (memU m1) = M1 at *
  generalize hZ : bx W0 (shelfU []) = Z at *
  generalize hO : bx W0 (shelfU [65536]) = O at *
  simp only [if_true, if_neg (show ¬ (1 : Int) = 0 by decide)] at f0 f1 f2
  have zM : ∀ ρ, rnB ρ M = M := fun ρ => by rw [← hM]; rfl
  have zM1 : ∀ ρ, rnB ρ M1 = M1 := fun ρ => by rw [← hM1]; rfl
  have zZ : ∀ ρ, rnB ρ Z = Z := fun ρ => by rw [← hZ]; rfl
  have zO : ∀ ρ, rnB ρ O = O := fun ρ => by rw [← hO]; rfl
  (cbv; repeat' (first | (refine ⟨by simp only [Ops.need_eq, needs]; first | rfl | decide, ?_⟩; try cbv) | (refine mt (fun h => ?_) (fun h => ?_) <;> first | (exfalso; simp [Ops.cmp_eq, Ops.not_eq, icmp] at h; done) | (exfalso; simp [Ops.cmp_eq, icmp] at h; omega) | (try cbv))))
  refine Ops.call _ [0] f0 rfl rfl rfl ⟨.inr (by rw [zM]; rfl), trivial⟩ ?_
  rintro v V' ⟨rfl, rfl⟩
  simp only [layB, lset, lapp, List.map_nil, List.map_cons, zM, zZ]
  (cbv; repeat' (first | (refine ⟨by simp only [Ops.need_eq, needs]; first | rfl | decide, ?_⟩; try cbv) | (refine mt (fun h => ?_) (fun h => ?_) <;> first | (exfalso; simp [Ops.cmp_eq, Ops.not_eq, icmp] at h; done) | (exfalso; simp [Ops.cmp_eq, icmp] at h; omega) | (try cbv))))
  refine Ops.call _ [0] f1 rfl rfl rfl ⟨.inr (by rw [zM]; rfl), trivial⟩ ?_
  rintro v V' ⟨rfl, rfl⟩
  simp only [layB, lset, lapp, List.map_nil, List.map_cons, zM1, zO]
  (cbv; repeat' (first | (refine ⟨by simp only [Ops.need_eq, needs]; first | rfl | decide, ?_⟩; try cbv) | (refine mt (fun h => ?_) (fun h => ?_) <;> first | (exfalso; simp [Ops.cmp_eq, Ops.not_eq, icmp] at h; done) | (exfalso; simp [Ops.cmp_eq, icmp] at h; omega) | (try cbv))))
  refine Ops.call0 _ (shelfHead0_ev key) rfl ?_; rintro v V' ⟨rfl, rfl⟩; simp only [lapp, List.map_nil, rn, rnL]
  (cbv; repeat' (first | (refine ⟨by simp only [Ops.need_eq, needs]; first | rfl | decide, ?_⟩; try cbv) | (refine mt (fun h => ?_) (fun h => ?_) <;> first | (exfalso; simp [Ops.cmp_eq, Ops.not_eq, icmp] at h; done) | (exfalso; simp [Ops.cmp_eq, icmp] at h; omega) | (try cbv))))
  have gH := shelfHead_nil (W0 := W0) key
  have gN := shelfNew_nil (W0 := W0) kind key
  have gO := shelfNew_ev (W0 := W0) [65536] (by simp) (by simp) kind key
  have gZ := shelfHeads_nil (W0 := W0)
  rw [hZ] at gH gN gZ
  rw [hO] at gO
  generalize hL : bx W0 (listU W0 (newList kind key ([65536][(ofS key ([65536] : List Nat).length).toNat]?.getD 0))) = L at *
  have zL : ∀ ρ, rnB ρ L = L := fun ρ => by rw [← hL]; rfl
  refine Ops.call _ [2] gH rfl rfl rfl ⟨.inr (by rw [zZ]; rfl), trivial⟩ ?_
  rintro v V' ⟨rfl, rfl⟩
  simp only [layB, lset, lapp, List.map_nil, List.map_cons, zZ]
  (cbv; repeat' (first | (refine ⟨by simp only [Ops.need_eq, needs]; first | rfl | decide, ?_⟩; try cbv) | (refine mt (fun h => ?_) (fun h => ?_) <;> first | (exfalso; simp [Ops.cmp_eq, Ops.not_eq, icmp] at h; done) | (exfalso; simp [Ops.cmp_eq, icmp] at h; omega) | (try cbv))))
  refine Ops.call0 _ (shelfNew0_ev kind key) rfl ?_; rintro v V' ⟨rfl, rfl⟩; simp only [lapp, List.map_nil, rn, rnL]
  (cbv; repeat' (first | (refine ⟨by simp only [Ops.need_eq, needs]; first | rfl | decide, ?_⟩; try cbv) | (refine mt (fun h => ?_) (fun h => ?_) <;> first | (exfalso; simp [Ops.cmp_eq, Ops.not_eq, icmp] at h; done) | (exfalso; simp [Ops.cmp_eq, icmp] at h; omega) | (try cbv))))
  refine Ops.call _ [2] gN rfl rfl rfl ⟨.inr (by rw [zZ]; rfl), trivial⟩ ?_
  rintro v V' ⟨rfl, rfl⟩
  simp only [layB, lset, lapp, List.map_nil, List.map_cons, zZ]
  (cbv; repeat' (first | (refine ⟨by simp only [Ops.need_eq, needs]; first | rfl | decide, ?_⟩; try cbv) | (refine mt (fun h => ?_) (fun h => ?_) <;> first | (exfalso; simp [Ops.cmp_eq, Ops.not_eq, icmp] at h; done) | (exfalso; simp [Ops.cmp_eq, icmp] at h; omega) | (try cbv))))
  refine Ops.call _ [3] gO rfl rfl rfl ⟨.inr (by rw [zO]; rfl), trivial⟩ ?_
  intro v V' hr
  generalize hc : checkList kind key = c at *
  cases c with
  | true =>
    obtain ⟨k1, k2, y1, y2⟩ : 1 ≤ kind ∧ kind ≤ 3 ∧ 0 ≤ key ∧ key < 1073741824 := by
      simp only [checkList, Bool.and_eq_true, decide_eq_true_eq] at hc
      omega
    simp only [if_true] at hr
    obtain ⟨rfl, rfl⟩ := hr
    simp only [layB, lset, lapp, List.map_nil, List.map_cons, zO, zL]
    (cbv; repeat' (first | (refine ⟨by simp only [Ops.need_eq, needs]; first | rfl | decide, ?_⟩; try cbv) | (refine mt (fun h => ?_) (fun h => ?_) <;> first | (exfalso; simp [Ops.cmp_eq, Ops.not_eq, icmp] at h; done) | (exfalso; simp [Ops.cmp_eq, icmp] at h; omega) | (try cbv))))
    refine Ops.call _ [0] f2 rfl rfl rfl ⟨.inr (by rw [zM1]; rfl), trivial⟩ ?_
    rintro v V' ⟨rfl, rfl⟩
    simp only [layB, lset, lapp, List.map_nil, List.map_cons, zM1]
    (cbv; repeat' (first | (refine ⟨by simp only [Ops.need_eq, needs]; first | rfl | decide, ?_⟩; try cbv) | (refine mt (fun h => ?_) (fun h => ?_) <;> first | (exfalso; simp [Ops.cmp_eq, Ops.not_eq, icmp] at h; done) | (exfalso; simp [Ops.cmp_eq, icmp] at h; omega) | (try cbv))))
    refine Ops.call0 _ (awake17_ev) rfl ?_; rintro v V' ⟨rfl, rfl⟩; simp only [lapp, List.map_nil, rn, rnL]
    (cbv; repeat' (first | (refine ⟨by simp only [Ops.need_eq, needs]; first | rfl | decide, ?_⟩; try cbv) | (refine mt (fun h => ?_) (fun h => ?_) <;> first | (exfalso; simp [Ops.cmp_eq, Ops.not_eq, icmp] at h; done) | (exfalso; simp [Ops.cmp_eq, icmp] at h; omega) | (try cbv))))
    refine Ops.call0 _ (shelfLists0_ev) rfl ?_; rintro v V' ⟨rfl, rfl⟩; simp only [lapp, List.map_nil, rn, rnL]
    (cbv; repeat' (first | (refine ⟨by simp only [Ops.need_eq, needs]; first | rfl | decide, ?_⟩; try cbv) | (refine mt (fun h => ?_) (fun h => ?_) <;> first | (exfalso; simp [Ops.cmp_eq, Ops.not_eq, icmp] at h; done) | (exfalso; simp [Ops.cmp_eq, icmp] at h; omega) | (try cbv))))
    refine Ops.call0 _ (shelfHeads0_ev) rfl ?_; rintro v V' ⟨rfl, rfl⟩; simp only [lapp, List.map_nil, rn, rnL]
    (cbv; repeat' (first | (refine ⟨by simp only [Ops.need_eq, needs]; first | rfl | decide, ?_⟩; try cbv) | (refine mt (fun h => ?_) (fun h => ?_) <;> first | (exfalso; simp [Ops.cmp_eq, Ops.not_eq, icmp] at h; done) | (exfalso; simp [Ops.cmp_eq, icmp] at h; omega) | (try cbv))))
    refine Ops.call _ [2] gZ rfl rfl rfl ⟨.inr (by rw [zZ]; rfl), trivial⟩ ?_
    rintro v V' ⟨rfl, rfl⟩
    simp only [layB, lset, lapp, List.map_nil, List.map_cons, zZ]
    (cbv; repeat' (first | (refine ⟨by simp only [Ops.need_eq, needs]; first | rfl | decide, ?_⟩; try cbv) | (refine mt (fun h => ?_) (fun h => ?_) <;> first | (exfalso; simp [Ops.cmp_eq, Ops.not_eq, icmp] at h; done) | (exfalso; simp [Ops.cmp_eq, icmp] at h; omega) | (try cbv))))
    all_goals first | (refine hQ _ _ (ReV.none rfl ⟨?_, rfl⟩); simp [Ops.cmp_eq, Ops.not_eq, Ops.beq_eq, icmp, *]; done) | (exfalso; simp [Ops.cmp_eq, Ops.not_eq, Ops.beq_eq, icmp] at h; done) | (exfalso; simp [Ops.cmp_eq, Ops.not_eq, Ops.beq_eq, icmp] at h; omega)
  | false =>
    have hd : kind < 1 ∨ (1 ≤ kind ∧ 3 < kind) ∨ (1 ≤ kind ∧ kind ≤ 3 ∧ key < 0) ∨ (1 ≤ kind ∧ kind ≤ 3 ∧ 0 ≤ key ∧ 1073741824 ≤ key) := by
      simp only [checkList, Bool.and_eq_false_iff, decide_eq_false_iff_not] at hc
      omega
    simp only [Bool.false_eq_true, if_false] at hr
    obtain ⟨rfl, rfl⟩ := hr
    simp only [layB, lset, lapp, List.map_nil, List.map_cons, zO]
    rcases hd with hd | hd | hd | hd
    all_goals
      (cbv; repeat' (first | (refine ⟨by simp only [Ops.need_eq, needs]; first | rfl | decide, ?_⟩; try cbv) | (refine mt (fun h => ?_) (fun h => ?_) <;> first | (exfalso; simp [Ops.cmp_eq, Ops.not_eq, icmp] at h; done) | (exfalso; simp [Ops.cmp_eq, icmp] at h; omega) | (try cbv))))
      refine Ops.call _ [0] f2 rfl rfl rfl ⟨.inr (by rw [zM1]; rfl), trivial⟩ ?_
      rintro v V' ⟨rfl, rfl⟩
      simp only [layB, lset, lapp, List.map_nil, List.map_cons, zM1]
      (cbv; repeat' (first | (refine ⟨by simp only [Ops.need_eq, needs]; first | rfl | decide, ?_⟩; try cbv) | (refine mt (fun h => ?_) (fun h => ?_) <;> first | (exfalso; simp [Ops.cmp_eq, Ops.not_eq, icmp] at h; done) | (exfalso; simp [Ops.cmp_eq, icmp] at h; omega) | (try cbv))))
      refine Ops.call0 _ (awake17_ev) rfl ?_; rintro v V' ⟨rfl, rfl⟩; simp only [lapp, List.map_nil, rn, rnL]
      (cbv; repeat' (first | (refine ⟨by simp only [Ops.need_eq, needs]; first | rfl | decide, ?_⟩; try cbv) | (refine mt (fun h => ?_) (fun h => ?_) <;> first | (exfalso; simp [Ops.cmp_eq, Ops.not_eq, icmp] at h; done) | (exfalso; simp [Ops.cmp_eq, icmp] at h; omega) | (try cbv))))
      refine Ops.call0 _ (shelfLists0_ev) rfl ?_; rintro v V' ⟨rfl, rfl⟩; simp only [lapp, List.map_nil, rn, rnL]
      (cbv; repeat' (first | (refine ⟨by simp only [Ops.need_eq, needs]; first | rfl | decide, ?_⟩; try cbv) | (refine mt (fun h => ?_) (fun h => ?_) <;> first | (exfalso; simp [Ops.cmp_eq, Ops.not_eq, icmp] at h; done) | (exfalso; simp [Ops.cmp_eq, icmp] at h; omega) | (try cbv))))
      refine Ops.call0 _ (shelfHeads0_ev) rfl ?_; rintro v V' ⟨rfl, rfl⟩; simp only [lapp, List.map_nil, rn, rnL]
      (cbv; repeat' (first | (refine ⟨by simp only [Ops.need_eq, needs]; first | rfl | decide, ?_⟩; try cbv) | (refine mt (fun h => ?_) (fun h => ?_) <;> first | (exfalso; simp [Ops.cmp_eq, Ops.not_eq, icmp] at h; done) | (exfalso; simp [Ops.cmp_eq, icmp] at h; omega) | (try cbv))))
      refine Ops.call _ [2] gZ rfl rfl rfl ⟨.inr (by rw [zZ]; rfl), trivial⟩ ?_
      rintro v V' ⟨rfl, rfl⟩
      simp only [layB, lset, lapp, List.map_nil, List.map_cons, zZ]
      (cbv; repeat' (first | (refine ⟨by simp only [Ops.need_eq, needs]; first | rfl | decide, ?_⟩; try cbv) | (refine mt (fun h => ?_) (fun h => ?_) <;> first | (exfalso; simp [Ops.cmp_eq, Ops.not_eq, icmp] at h; done) | (exfalso; simp [Ops.cmp_eq, icmp] at h; omega) | (try cbv))))
      all_goals first | (refine hQ _ _ (ReV.none rfl ⟨?_, rfl⟩); simp [Ops.cmp_eq, Ops.not_eq, Ops.beq_eq, icmp, *]; done) | (exfalso; simp [Ops.cmp_eq, Ops.not_eq, Ops.beq_eq, icmp] at h; done) | (exfalso; simp [Ops.cmp_eq, Ops.not_eq, Ops.beq_eq, icmp] at h; omega)
end Go.Proofs.YtglghdjpkecngaaGreat
