/- shelf: awake; a fresh shelf. -/
import Derived.Test.YtglghdjpkecngaaGreatBK
namespace Go.Proofs.YtglghdjpkecngaaGreat
set_option linter.unusedVariables false
set_option linter.unusedSimpArgs false
open Go Go.SL Go.FL
set_option maxRecDepth 100000
theorem fresh_of {n k : Nat} (n0 : 1 ≤ n) (n1 : n ≤ 8) (hk : k < 16) {c : Int} (hc : c = 4) : ∃ x hs m, freshShelf (arena 1 n c 40) k (freshM (arena 1 n c 40).c) = some (x, hs, m) ∧
    (if 8 < k then x = 1 else if n < k then x = 7 else x = 0 ∧ hs = (List.range k).map (65536 + ·)) := by
  subst hc
  have h := freshGood_all (n - 1) (by omega) k hk
  have e : 1 + (n - 1 : Nat) = n := by omega
  rw [show ((1 : Int) + ((n - 1 : Nat) : Int)) = (n : Int) by omega] at h
  unfold freshGood shelfOfSlots at h
  cases hs : freshShelf (arena 1 n 4 40) k (freshM (arena 1 n 4 40).c) with
  | none => rw [hs] at h; cases h
  | some r =>
    obtain ⟨x, l, m⟩ := r
    rw [hs] at h
    refine ⟨x, l, m, rfl, ?_⟩
    simp only at h
    by_cases h8 : 8 < k
    · rw [if_pos (show ((k : Int) > 8) by omega)] at h
      rw [if_pos h8]; exact of_decide_eq_true h
    · rw [if_neg (show ¬ ((k : Int) > 8) by omega)] at h
      rw [if_neg h8]
      by_cases h9 : n < k
      · rw [if_pos (show ((k : Int) > n) by omega)] at h
        rw [if_pos h9]; exact of_decide_eq_true h
      · rw [if_neg (show ¬ ((k : Int) > n) by omega)] at h
        rw [if_neg h9]
        simp only [Bool.and_eq_true, decide_eq_true_eq, Int.toNat_natCast] at h
        exact h
theorem awake17_ev {W0 : World} : Ev Tryz.prog W0 37 [] [] (fun v V' => v = .bool true ∧ V' = []) := by
  refine Ev.out fun Q' hQ => ?_
  have hE : (arena 1 8 4 40).v 0 = .agg [.int .i64 1, .int .i64 8, .int .i64 4, .int .i64 40, .int .i64 100, .int .i64 600, .int .i64 3, .ptr 0 0, .int .i64 0] := rfl
  obtain ⟨x, hs, m, hf, hx⟩ := fresh_of (n := 8) (k := 3) (by decide) (by decide) (by decide) (c := 4) rfl
  obtain ⟨rfl, rfl⟩ : x = 0 ∧ hs = [65536, 65537, 65538] := hx
  have hf : freshShelf (arena 1 8 4 40) 3 (freshM (arena 1 8 4 40).c) = some (0, [65536, 65537, 65538], m) := hf
  refine ev37 rfl fun o => ?_
  (cbv; repeat' (first | (refine ⟨by simp only [Ops.need_eq, needs]; first | rfl | decide, ?_⟩; try cbv) | (refine mt (fun h => ?_) (fun h => ?_) <;> first | (exfalso; simp [Ops.cmp_eq, Ops.not_eq, icmp] at h; done) | (exfalso; simp [Ops.cmp_eq, icmp] at h; omega) | (try cbv))))
  refine Ops.call _ [] (Arena_ev 1 8 4 40 (arenaOk (by decide) (by decide) (by decide) (by decide) (by decide) (by decide) (by decide) (by decide))) rfl rfl rfl trivial ?_
  rintro v V' ⟨rfl, rfl⟩
  rw [hE]
  simp only [layB, lapp, List.map_cons, List.map_nil, rnB_bx, rn, rnL]
  generalize hm0 : freshM (arena 1 8 4 40).c = m0 at *
  generalize hM : bx W0 (memU m0) = M
  (cbv; repeat' (first | (refine ⟨by simp only [Ops.need_eq, needs]; first | rfl | decide, ?_⟩; try cbv) | (refine mt (fun h => ?_) (fun h => ?_) <;> first | (exfalso; simp [Ops.cmp_eq, Ops.not_eq, icmp] at h; done) | (exfalso; simp [Ops.cmp_eq, icmp] at h; omega) | (try cbv))))
  refine Ops.call _ [0] (shelfFresh_ev (arena 1 8 4 40) 3 m0 hf) rfl rfl rfl ⟨.inr (by rw [← hM]; rfl), trivial⟩ ?_
  intro v V' hr
  rw [if_pos rfl] at hr
  obtain ⟨rfl, rfl⟩ := hr
  simp only [layB, lset, lapp, List.map_nil, List.map_cons, rnB_bx, rn, rnL]
  clear hM
  generalize hM : bx W0 (memU m) = M
  generalize hS : bx W0 (shelfU [65536, 65537, 65538]) = S
  have hH := shelfHead_ev (W0 := W0) [65536, 65537, 65538] (by simp) (by simp) 5
  have hL := shelfLists_ev (W0 := W0) [65536, 65537, 65538]
  have hv : ([65536, 65537, 65538][(ofS 5 ([65536, 65537, 65538] : List Nat).length).toNat]?.getD 0 : Nat) = 65536 := by decide +kernel
  rw [hv, hS] at hH
  rw [hS] at hL
  have h30 : ofS 0 3 = 0 := by decide +kernel
  (cbv; repeat' (first | (refine ⟨by simp only [Ops.need_eq, needs]; first | rfl | decide, ?_⟩; try cbv) | (refine mt (fun h => ?_) (fun h => ?_) <;> first | (exfalso; simp [Ops.cmp_eq, Ops.not_eq, icmp] at h; done) | (exfalso; simp [Ops.cmp_eq, icmp] at h; omega) | (try cbv))))
  refine Ops.call _ [2] hH rfl rfl rfl ⟨.inr (by rw [← hS]; rfl), trivial⟩ ?_
  rintro v V' ⟨rfl, rfl⟩
  simp only [layB, lset, lapp, List.map_nil, List.map_cons, ← hS, rnB_bx, rn, rnL]
  rw [hS]
  (cbv; repeat' (first | (refine ⟨by simp only [Ops.need_eq, needs]; first | rfl | decide, ?_⟩; try cbv) | (refine mt (fun h => ?_) (fun h => ?_) <;> first | (exfalso; simp [Ops.cmp_eq, Ops.not_eq, icmp] at h; done) | (exfalso; simp [Ops.cmp_eq, icmp] at h; omega) | (try cbv))))
  refine Ops.call _ [2] hL rfl rfl rfl ⟨.inr (by rw [← hS]; rfl), trivial⟩ ?_
  rintro v V' ⟨rfl, rfl⟩
  simp only [layB, lset, lapp, List.map_nil, List.map_cons, ← hS, rnB_bx, rn, rnL]
  rw [hS]
  (cbv; repeat' (first | (refine ⟨by simp only [Ops.need_eq, needs]; first | rfl | decide, ?_⟩; try cbv) | (refine mt (fun h => ?_) (fun h => ?_) <;> first | (exfalso; simp [Ops.cmp_eq, Ops.not_eq, icmp] at h; done) | (exfalso; simp [Ops.cmp_eq, icmp] at h; omega) | (try cbv))))
  refine Ops.call0 _ (Of_ev 0 3 (by decide)) rfl ?_; rintro v V' ⟨rfl, rfl⟩; simp only [lapp, List.map_nil, rn, rnL]
  rw [h30]
  (cbv; repeat' (first | (refine ⟨by simp only [Ops.need_eq, needs]; first | rfl | decide, ?_⟩; try cbv) | (refine mt (fun h => ?_) (fun h => ?_) <;> first | (exfalso; simp [Ops.cmp_eq, Ops.not_eq, icmp] at h; done) | (exfalso; simp [Ops.cmp_eq, icmp] at h; omega) | (try cbv))))
  refine hQ _ _ (ReV.none rfl ⟨?_, rfl⟩)
  simp [Ops.cmp_eq, icmp]
end Go.Proofs.YtglghdjpkecngaaGreat
