/- hist: awake. -/
import Derived.Test.YthoodnlihbaimaaHC
import Derived.Test.YthoodnlihbaimaaIRw
namespace Go.Proofs.Ythoodnlihbaimaa
set_option linter.unusedVariables false
set_option linter.unusedSimpArgs false
open Go Go.SL
set_option maxRecDepth 100000
def mapS : Nat → VB
  | 0 => .map [] []
  | _ + 1 => .map [.int .i64 1] [.bool true]
theorem run2_ev {W0 : World} : Ev Try.prog W0 29 [.sl 0 18 0 2 (.n 2)] [.arr 18 [csA, csB] (.n 36)] (fun v V' => v = .tup [.int .i64 (-1), .ptr 3 0] ∧ V' = [.arr 18 [csA, csB] (.n 36), .map [] [], .map [.int .i64 1] [.bool true], .cells [.map 1, .map 2]]) := by
  refine Ev.out fun Q' hQ => ev29 rfl fun o => ?_
  (cbv; repeat' (first | (refine ⟨by simp only [Ops.need_eq, needs]; first | rfl | decide, ?_⟩; try cbv) | (refine mt (fun h => ?_) (fun h => ?_) <;> first | (exfalso; simp [Ops.cmp_eq, Ops.not_eq, icmp] at h; done) | (exfalso; simp [Ops.cmp_eq, icmp] at h; omega) | (try cbv))))
  refine Ops.call _ [] mNew_ev rfl rfl rfl trivial ?_
  rintro v V' ⟨rfl, rfl⟩
  simp only [layB, lset, lapp, List.map_nil, List.map_cons, rn, rnL]
  (cbv; repeat' (first | (refine ⟨by simp only [Ops.need_eq, needs]; first | rfl | decide, ?_⟩; try cbv) | (refine mt (fun h => ?_) (fun h => ?_) <;> first | (exfalso; simp [Ops.cmp_eq, Ops.not_eq, icmp] at h; done) | (exfalso; simp [Ops.cmp_eq, icmp] at h; omega) | (try cbv))))
  refine Ops.call _ [0] order2_ev rfl rfl rfl ⟨.inr rfl, trivial⟩ ?_
  rintro v V' ⟨rfl, rfl⟩
  simp only [layB, lset, lapp, List.map_nil, List.map_cons, rn, rnL]
  (cbv; repeat' (first | (refine ⟨by simp only [Ops.need_eq, needs]; first | rfl | decide, ?_⟩; try cbv) | (refine mt (fun h => ?_) (fun h => ?_) <;> first | (exfalso; simp [Ops.cmp_eq, Ops.not_eq, icmp] at h; done) | (exfalso; simp [Ops.cmp_eq, icmp] at h; omega) | (try cbv))))
  refine ⟨fun k env V => ∃ (i : Nat) (r : Nat → Value), i + k = 2 ∧ env = mix [(4, .ptr 3 0), (9, .sl 4 18 0 2 (.n 2)), (10, .int .i64 2), (11, .int .i64 i)] r ∧ V = [.arr 18 [csA, csB] (.n 36), .map [] [], mapS i, .cells [.map 1, .map 2], .arr 18 [csB, csA] (.n 36)],
    ⟨2, o.reI (Re.ren [0, 1, 2, 3, 4] _ _ rfl rfl ?_ ?_ fun r => ⟨0, r, rfl, rfl, rfl⟩)⟩, ?_⟩
  · exact ⟨rfl, rfl, rfl, rfl, trivial⟩
  · exact ⟨.inr rfl, .inr rfl, .inr rfl, .inr rfl, .inr rfl, trivial⟩
  rintro k env V ⟨i, r, hik, rfl, rfl⟩
  have h3 : i = 0 ∨ i = 1 ∨ i = 2 := by omega
  rcases h3 with rfl | rfl | rfl
  · simp only [mapS]
    (cbv; repeat' (first | (refine ⟨by simp only [Ops.need_eq, needs]; first | rfl | decide, ?_⟩; try cbv) | (refine mt (fun h => ?_) (fun h => ?_) <;> first | (exfalso; simp [Ops.cmp_eq, Ops.not_eq, icmp] at h; done) | (exfalso; simp [Ops.cmp_eq, icmp] at h; omega) | (try cbv))))
    refine ⟨by simp [o.inb_eq], ?_⟩
    simp only [Int.toNat_natCast, Int.ofNat_eq_natCast, Ops.get_eq, Ops.nadd_eq, Ops.nat_eq, Nat.zero_add, List.getElem?_cons_zero]
    (cbv; repeat' (first | (refine ⟨by simp only [Ops.need_eq, needs]; first | rfl | decide, ?_⟩; try cbv) | (refine mt (fun h => ?_) (fun h => ?_) <;> first | (exfalso; simp [Ops.cmp_eq, Ops.not_eq, icmp] at h; done) | (exfalso; simp [Ops.cmp_eq, icmp] at h; omega) | (try cbv))))
    refine Ops.call _ [1, 2, 3] doB_ev rfl rfl rfl ⟨.inr rfl, .inr rfl, .inr rfl, trivial⟩ ?_
    rintro v V' ⟨rfl, rfl⟩
    simp only [layB, lset, lapp, List.map_nil, List.map_cons, rn, rnL]
    (cbv; repeat' (first | (refine ⟨by simp only [Ops.need_eq, needs]; first | rfl | decide, ?_⟩; try cbv) | (refine mt (fun h => ?_) (fun h => ?_) <;> first | (exfalso; simp [Ops.cmp_eq, Ops.not_eq, icmp] at h; done) | (exfalso; simp [Ops.cmp_eq, icmp] at h; omega) | (try cbv))))
    refine ⟨k - 1, by omega, o.reI (Re.ren [0, 1, 2, 3, 4] _ _ rfl rfl ?_ ?_ fun r => ⟨1, r, by omega, rfl, rfl⟩)⟩
    · exact ⟨rfl, rfl, rfl, congrArg (VV.int .i64) (by simp only [Ops.ar_eq]; exact add1 (i := 0) (by omega)), trivial⟩
    · exact ⟨.inr rfl, .inr rfl, .inr rfl, .inr rfl, .inr rfl, trivial⟩
  · simp only [mapS]
    (cbv; repeat' (first | (refine ⟨by simp only [Ops.need_eq, needs]; first | rfl | decide, ?_⟩; try cbv) | (refine mt (fun h => ?_) (fun h => ?_) <;> first | (exfalso; simp [Ops.cmp_eq, Ops.not_eq, icmp] at h; done) | (exfalso; simp [Ops.cmp_eq, icmp] at h; omega) | (try cbv))))
    refine ⟨by simp [o.inb_eq], ?_⟩
    simp only [Int.toNat_natCast, Int.ofNat_eq_natCast, Ops.get_eq, Ops.nadd_eq, Ops.nat_eq, Nat.zero_add, List.getElem?_cons_succ, List.getElem?_cons_zero]
    (cbv; repeat' (first | (refine ⟨by simp only [Ops.need_eq, needs]; first | rfl | decide, ?_⟩; try cbv) | (refine mt (fun h => ?_) (fun h => ?_) <;> first | (exfalso; simp [Ops.cmp_eq, Ops.not_eq, icmp] at h; done) | (exfalso; simp [Ops.cmp_eq, icmp] at h; omega) | (try cbv))))
    refine Ops.call _ [1, 2, 3] doA_ev rfl rfl rfl ⟨.inr rfl, .inr rfl, .inr rfl, trivial⟩ ?_
    rintro v V' ⟨rfl, rfl⟩
    simp only [layB, lset, lapp, List.map_nil, List.map_cons, rn, rnL]
    (cbv; repeat' (first | (refine ⟨by simp only [Ops.need_eq, needs]; first | rfl | decide, ?_⟩; try cbv) | (refine mt (fun h => ?_) (fun h => ?_) <;> first | (exfalso; simp [Ops.cmp_eq, Ops.not_eq, icmp] at h; done) | (exfalso; simp [Ops.cmp_eq, icmp] at h; omega) | (try cbv))))
    refine ⟨k - 1, by omega, o.reI (Re.ren [0, 1, 2, 3, 4] _ _ rfl rfl ?_ ?_ fun r => ⟨2, r, by omega, rfl, rfl⟩)⟩
    · exact ⟨rfl, rfl, rfl, congrArg (VV.int .i64) (by simp only [Ops.ar_eq]; exact add1 (i := 1) (by omega)), trivial⟩
    · exact ⟨.inr rfl, .inr rfl, .inr rfl, .inr rfl, .inr rfl, trivial⟩
  · simp only [mapS]
    (cbv; repeat' (first | (refine ⟨by simp only [Ops.need_eq, needs]; first | rfl | decide, ?_⟩; try cbv) | (refine mt (fun h => ?_) (fun h => ?_) <;> first | (exfalso; simp [Ops.cmp_eq, Ops.not_eq, icmp] at h; done) | (exfalso; simp [Ops.cmp_eq, icmp] at h; omega) | (try cbv))))
    exact hQ _ _ (ReV.ren [0, 1, 2, 3] (.tup [.int .i64 (-1), .ptr 3 0]) [.arr 18 [csA, csB] (.n 36), .map [] [], .map [.int .i64 1] [.bool true], .cells [.map 1, .map 2]] rfl rfl rfl ⟨.inr rfl, .inr rfl, .inr rfl, .inr rfl, trivial⟩ ⟨rfl, rfl⟩)
theorem within2 : withinT [tA, tB] = true := by kernel_rfl
theorem within2' : withinT [tB, tA] = true := by kernel_rfl
theorem withinAB_ev {W0 : World} : Ev Try.prog W0 14 [.sl 0 18 0 2 (.n 2)] [.arr 18 [csA, csB] (.n 36)] (fun v V' => v = .bool true ∧ V' = [.arr 18 [csA, csB] (.n 36)]) := by
  have h := Within_ev (W0 := W0) [tA, tB] 2 36 (by decide) (by decide)
  rw [within2] at h
  exact h
theorem withinBA_ev {W0 : World} : Ev Try.prog W0 14 [.sl 0 18 0 2 (.n 2)] [.arr 18 [csB, csA] (.n 36)] (fun v V' => v = .bool true ∧ V' = [.arr 18 [csB, csA] (.n 36)]) := by
  have h := Within_ev (W0 := W0) [tB, tA] 2 36 (by decide) (by decide)
  rw [within2'] at h
  exact h
theorem linear2_ev {W0 : World} : Ev Try.prog W0 16 [.sl 0 18 0 2 (.n 2)] [.arr 18 [csA, csB] (.n 36)] (fun v V' => v = .bool true ∧ V' = [.arr 18 [csA, csB] (.n 36)]) := by
  refine Ev.out fun Q' hQ => ev16 rfl fun o => ?_
  (cbv; repeat' (first | (refine ⟨by simp only [Ops.need_eq, needs]; first | rfl | decide, ?_⟩; try cbv) | (refine mt (fun h => ?_) (fun h => ?_) <;> first | (exfalso; simp [Ops.cmp_eq, Ops.not_eq, icmp] at h; done) | (exfalso; simp [Ops.cmp_eq, icmp] at h; omega) | (try cbv))))
  refine Ops.call _ [0] run2_ev rfl rfl rfl ⟨.inr rfl, trivial⟩ ?_
  rintro v V' ⟨rfl, rfl⟩
  simp only [layB, lset, lapp, List.map_nil, List.map_cons, rn, rnL]
  (cbv; repeat' (first | (refine ⟨by simp only [Ops.need_eq, needs]; first | rfl | decide, ?_⟩; try cbv) | (refine mt (fun h => ?_) (fun h => ?_) <;> first | (exfalso; simp [Ops.cmp_eq, Ops.not_eq, icmp] at h; done) | (exfalso; simp [Ops.cmp_eq, icmp] at h; omega) | (try cbv))))
  refine Ops.call _ [0] withinAB_ev rfl rfl rfl ⟨.inr rfl, trivial⟩ ?_
  rintro v V' ⟨rfl, rfl⟩
  simp only [layB, lset, lapp, List.map_nil, List.map_cons, rn, rnL]
  (cbv; repeat' (first | (refine ⟨by simp only [Ops.need_eq, needs]; first | rfl | decide, ?_⟩; try cbv) | (refine mt (fun h => ?_) (fun h => ?_) <;> first | (exfalso; simp [Ops.cmp_eq, Ops.not_eq, icmp] at h; done) | (exfalso; simp [Ops.cmp_eq, icmp] at h; omega) | (try cbv))))
  exact hQ _ _ (ReV.ren [0] (.bool true) [.arr 18 [csA, csB] (.n 36)] rfl rfl rfl ⟨.inr rfl, trivial⟩ ⟨rfl, rfl⟩)
theorem awake20_ev {W0 : World} : Ev Try.prog W0 13 [] [] (fun v V' => v = .bool true ∧ V' = []) := by
  refine Ev.out fun Q' hQ => ev13 rfl fun o => ?_
  (cbv; repeat' (first | (refine ⟨by simp only [Ops.need_eq, needs]; first | rfl | decide, ?_⟩; try cbv) | (refine mt (fun h => ?_) (fun h => ?_) <;> first | (exfalso; simp [Ops.cmp_eq, Ops.not_eq, icmp] at h; done) | (exfalso; simp [Ops.cmp_eq, icmp] at h; omega) | (try cbv))))
  refine Ops.call _ [2] order2_ev rfl rfl rfl ⟨.inr rfl, trivial⟩ ?_
  rintro v V' ⟨rfl, rfl⟩
  simp only [layB, lset, lapp, List.map_nil, List.map_cons, rn, rnL]
  (cbv; repeat' (first | (refine ⟨by simp only [Ops.need_eq, needs]; first | rfl | decide, ?_⟩; try cbv) | (refine mt (fun h => ?_) (fun h => ?_) <;> first | (exfalso; simp [Ops.cmp_eq, Ops.not_eq, icmp] at h; done) | (exfalso; simp [Ops.cmp_eq, icmp] at h; omega) | (try cbv))))
  refine Ops.call _ [4] linear2_ev rfl rfl rfl ⟨.inr rfl, trivial⟩ ?_
  rintro v V' ⟨rfl, rfl⟩
  simp only [layB, lset, lapp, List.map_nil, List.map_cons, rn, rnL]
  (cbv; repeat' (first | (refine ⟨by simp only [Ops.need_eq, needs]; first | rfl | decide, ?_⟩; try cbv) | (refine mt (fun h => ?_) (fun h => ?_) <;> first | (exfalso; simp [Ops.cmp_eq, Ops.not_eq, icmp] at h; done) | (exfalso; simp [Ops.cmp_eq, icmp] at h; omega) | (try cbv))))
  refine ⟨by simp [o.inb_eq], ?_⟩
  simp only [Int.toNat_natCast, Int.ofNat_eq_natCast, Ops.get_eq, Ops.nadd_eq, Ops.nat_eq, Nat.zero_add, List.getElem?_cons_zero]
  (cbv; repeat' (first | (refine ⟨by simp only [Ops.need_eq, needs]; first | rfl | decide, ?_⟩; try cbv) | (refine mt (fun h => ?_) (fun h => ?_) <;> first | (exfalso; simp [Ops.cmp_eq, Ops.not_eq, icmp] at h; done) | (exfalso; simp [Ops.cmp_eq, icmp] at h; omega) | (try cbv))))
  refine Ops.call _ [3] withinBA_ev rfl rfl rfl ⟨.inr rfl, trivial⟩ ?_
  rintro v V' ⟨rfl, rfl⟩
  simp only [layB, lset, lapp, List.map_nil, List.map_cons, rn, rnL]
  (cbv; repeat' (first | (refine ⟨by simp only [Ops.need_eq, needs]; first | rfl | decide, ?_⟩; try cbv) | (refine mt (fun h => ?_) (fun h => ?_) <;> first | (exfalso; simp [Ops.cmp_eq, Ops.not_eq, icmp] at h; done) | (exfalso; simp [Ops.cmp_eq, icmp] at h; omega) | (try cbv))))
  exact hQ _ _ (ReV.none rfl ⟨rfl, rfl⟩)
end Go.Proofs.Ythoodnlihbaimaa
