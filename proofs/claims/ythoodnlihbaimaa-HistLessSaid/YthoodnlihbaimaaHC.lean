/- hist: two calls, the second of which took effect first: awake. -/
import Derived.Test.YthoodnlihbaimaaHB
import Derived.Test.YthoodnlihbaimaaIRm
namespace Go.Proofs.Ythoodnlihbaimaa
set_option linter.unusedVariables false
set_option linter.unusedSimpArgs false
open Go Go.SL
set_option maxRecDepth 100000
def tA : Told := ⟨0, 0, 7, 0, 0, 0, 0, 0, 0, 0, 1, 0, 0, 0, 0, 5, 1, 9⟩
def tB : Told := ⟨1, 0, 7, 0, 0, 0, 0, 0, 0, 0, 1, 0, 0, 0, 1, 3, 2, 4⟩
def csA : List VV := [.int .i64 0, .int .i64 0, .int .i64 7, .int .i64 0, .int .i64 0, .int .i64 0, .int .u64 0, .int .i64 0, .int .i64 0, .int .i64 0, .int .i64 1, .int .u64 0, .int .i64 0, .int .u64 0, .int .i64 0, .int .i64 5, .int .i64 1, .int .i64 9]
def csB : List VV := [.int .i64 1, .int .i64 0, .int .i64 7, .int .i64 0, .int .i64 0, .int .i64 0, .int .u64 0, .int .i64 0, .int .i64 0, .int .i64 0, .int .i64 1, .int .u64 0, .int .i64 0, .int .u64 0, .int .i64 1, .int .i64 3, .int .i64 2, .int .i64 4]
/-- The library's stable sort of few: its insertion sort. -/
theorem stable_ev {W0 : World} (l : List Told) (cap tot : Nat) (hn : l.length < 20) : Ev Try.prog W0 45 [.sl 0 18 0 l.length cap, .int .i64 l.length, .fn 28 [] []] [.arr 18 (l.map Told.cs) tot] (fun v V' =>
      v = .tup [] ∧ V' = [.arr 18 ((isrt 0 1 (l.length - 1) l).map Told.cs) tot]) := by
  have hi := insSort_ev (W0 := W0) l 0 l.length cap tot (Nat.le_refl _) (by omega) (by omega)
  have hp1 := Told.plain l
  have hp2 := Told.plain (isrt 0 1 (l.length - 1) l)
  refine Ev.out fun Q' hQ => ev45 rfl fun o => ?_
  simp only [Nat.zero_add] at hi
  generalize (isrt 0 1 (l.length - 1) l).map Told.cs = ys at *
  generalize l.map Told.cs = xs at *
  generalize l.length = n at *
  have hr : ∀ (ρ : Nat → Nat) c, rnB ρ (.arr 18 xs c) = .arr 18 xs (c.rn ρ) := by intro ρ c; simp only [rnB, hp1 _]
  have hr2 : ∀ (ρ : Nat → Nat) c, rnB ρ (.arr 18 ys c) = .arr 18 ys (c.rn ρ) := by intro ρ c; simp only [rnB, hp2 _]
  (cbv; repeat' (first | (refine ⟨by simp only [Ops.need_eq, needs]; first | rfl | decide, ?_⟩; try cbv) | (refine mt (fun h => ?_) (fun h => ?_) <;> first | (exfalso; simp [Ops.cmp_eq, Ops.not_eq, icmp] at h; done) | (exfalso; simp [Ops.cmp_eq, icmp] at h; omega) | (try cbv))))
  refine ⟨fun m env V => ∃ r : Nat → Value, env = mix [(0, .sl 0 18 0 n cap), (1, .int .i64 n), (2, .fn 28 [] []), (6, .int .i64 20), (7, .int .i64 0), (8, .int .i64 20)] r ∧ V = [.arr 18 xs tot], ⟨0, o.reI (Re.ren [0] _ _ rfl rfl ?_ ?_ fun r => ⟨r, rfl, rfl⟩)⟩, ?_⟩
  · exact ⟨rfl, rfl, rfl, rfl, rfl, rfl, trivial⟩
  · exact ⟨.inr (by rw [hr]; rfl), trivial⟩
  rintro m env V ⟨r, rfl, rfl⟩
  (cbv; repeat' (first | (refine ⟨by simp only [Ops.need_eq, needs]; first | rfl | decide, ?_⟩; try cbv) | (refine mt (fun h => ?_) (fun h => ?_) <;> first | (exfalso; simp [Ops.cmp_eq, Ops.not_eq, icmp] at h; done) | (exfalso; simp [Ops.cmp_eq, icmp] at h; omega) | (try cbv))))
  refine Ops.call _ [0] hi rfl rfl rfl ⟨.inr (by rw [hr]; rfl), trivial⟩ ?_
  rintro v V' ⟨rfl, rfl⟩
  simp only [layB, lset, lapp, List.map_nil, List.map_cons, hr2, rn, rnL, Cap.rn]
  (cbv; repeat' (first | (refine ⟨by simp only [Ops.need_eq, needs]; first | rfl | decide, ?_⟩; try cbv) | (refine mt (fun h => ?_) (fun h => ?_) <;> first | (exfalso; simp [Ops.cmp_eq, Ops.not_eq, icmp] at h; done) | (exfalso; simp [Ops.cmp_eq, icmp] at h; omega) | (try cbv))))
  refine ⟨fun m env V => ∃ r : Nat → Value, env = mix [(1, .int .i64 n), (6, .int .i64 20)] r ∧ V = [.arr 18 ys tot], ⟨0, o.reI (Re.ren [0] _ _ rfl rfl ?_ ?_ fun r => ⟨r, rfl, rfl⟩)⟩, ?_⟩
  · exact ⟨rfl, rfl, trivial⟩
  · exact ⟨.inr (by rw [hr2]; rfl), trivial⟩
  rintro m env V ⟨r, rfl, rfl⟩
  (cbv; repeat' (first | (refine ⟨by simp only [Ops.need_eq, needs]; first | rfl | decide, ?_⟩; try cbv) | (refine mt (fun h => ?_) (fun h => ?_) <;> first | (exfalso; simp [Ops.cmp_eq, Ops.not_eq, icmp] at h; done) | (exfalso; simp [Ops.cmp_eq, icmp] at h; omega) | (try cbv))))
  exact hQ _ _ (ReV.ren [0] (.tup []) [.arr 18 ys tot] rfl rfl rfl ⟨.inr (by rw [hr2]; rfl), trivial⟩ ⟨rfl, rfl⟩)
theorem sorted2 : isrt 0 1 1 [tA, tB] = [tB, tA] := by kernel_rfl
theorem sstable2_ev {W0 : World} : Ev Try.prog W0 27 [.sl 0 18 0 2 (.n 2), .fn 28 [] []] [.arr 18 [csA, csB] (.n 36)] (fun v V' => v = .tup [] ∧ V' = [.arr 18 [csB, csA] (.n 36)]) := by
  have hs := stable_ev (W0 := W0) [tA, tB] 2 36 (by decide)
  rw [show ([tA, tB] : List Told).length = 2 from rfl, show (2 : Nat) - 1 = 1 from rfl, sorted2, show ([tA, tB] : List Told).map Told.cs = [csA, csB] from rfl, show ([tB, tA] : List Told).map Told.cs = [csB, csA] from rfl] at hs
  refine Ev.out fun Q' hQ => ev27 rfl fun o => ?_
  (cbv; repeat' (first | (refine ⟨by simp only [Ops.need_eq, needs]; first | rfl | decide, ?_⟩; try cbv) | (refine mt (fun h => ?_) (fun h => ?_) <;> first | (exfalso; simp [Ops.cmp_eq, Ops.not_eq, icmp] at h; done) | (exfalso; simp [Ops.cmp_eq, icmp] at h; omega) | (try cbv))))
  refine Ops.call _ [0] hs rfl rfl rfl ⟨.inr rfl, trivial⟩ ?_
  rintro v V' ⟨rfl, rfl⟩
  simp only [layB, lset, lapp, List.map_nil, List.map_cons, rn, rnL]
  (cbv; repeat' (first | (refine ⟨by simp only [Ops.need_eq, needs]; first | rfl | decide, ?_⟩; try cbv) | (refine mt (fun h => ?_) (fun h => ?_) <;> first | (exfalso; simp [Ops.cmp_eq, Ops.not_eq, icmp] at h; done) | (exfalso; simp [Ops.cmp_eq, icmp] at h; omega) | (try cbv))))
  exact hQ _ _ (ReV.ren [0] (.tup []) [.arr 18 [csB, csA] (.n 36)] rfl rfl rfl ⟨.inr rfl, trivial⟩ ⟨rfl, rfl⟩)
theorem order2_ev {W0 : World} : Ev Try.prog W0 11 [.sl 0 18 0 2 (.n 2)] [.arr 18 [csA, csB] (.n 36)] (fun v V' => v = .sl 1 18 0 2 (.n 2) ∧ V' = [.arr 18 [csA, csB] (.n 36), .arr 18 [csB, csA] (.n 36)]) := by
  refine Ev.out fun Q' hQ => ev11 rfl fun o => ?_
  (cbv; repeat' (first | (refine ⟨by simp only [Ops.need_eq, needs]; first | rfl | decide, ?_⟩; try cbv) | (refine mt (fun h => ?_) (fun h => ?_) <;> first | (exfalso; simp [Ops.cmp_eq, Ops.not_eq, icmp] at h; done) | (exfalso; simp [Ops.cmp_eq, icmp] at h; omega) | (try cbv))))
  refine ⟨by simp [o.inb_eq], ⟨by simp [o.ll_eq, o.sub_eq], by simp [o.all1_eq, o.sub_eq, allOne, VV.one], by simp [o.nle_eq, o.nadd_eq, o.ll_eq, o.rep_eq, o.nat_eq]⟩, ?_⟩
  simp only [o.nat_eq, o.rep_eq, o.ovl_eq, o.sub_eq, o.nmn_eq, o.nmul_eq]
  (cbv; repeat' (first | (refine ⟨by simp only [Ops.need_eq, needs]; first | rfl | decide, ?_⟩; try cbv) | (refine mt (fun h => ?_) (fun h => ?_) <;> first | (exfalso; simp [Ops.cmp_eq, Ops.not_eq, icmp] at h; done) | (exfalso; simp [Ops.cmp_eq, icmp] at h; omega) | (try cbv))))
  refine Ops.call _ [1] (sstable2_ev) rfl rfl rfl ⟨.inr rfl, trivial⟩ ?_
  rintro v V' ⟨rfl, rfl⟩
  simp only [layB, lset, lapp, List.map_nil, List.map_cons, rn, rnL]
  (cbv; repeat' (first | (refine ⟨by simp only [Ops.need_eq, needs]; first | rfl | decide, ?_⟩; try cbv) | (refine mt (fun h => ?_) (fun h => ?_) <;> first | (exfalso; simp [Ops.cmp_eq, Ops.not_eq, icmp] at h; done) | (exfalso; simp [Ops.cmp_eq, icmp] at h; omega) | (try cbv))))
  exact hQ _ _ (ReV.ren [0, 1] (.sl 1 18 0 2 (.n 2)) [.arr 18 [csA, csB] (.n 36), .arr 18 [csB, csA] (.n 36)] rfl rfl rfl ⟨.inr rfl, .inr rfl, trivial⟩ ⟨rfl, rfl⟩)
theorem mNew_ev {W0 : World} : Ev Try.prog W0 17 [] [] (fun v V' => v = .ptr 2 0 ∧ V' = [.map [] [], .map [] [], .cells [.map 0, .map 1]]) := by
  refine Ev.out fun Q' hQ => ev17 rfl fun o => ?_
  (cbv; repeat' (first | (refine ⟨by simp only [Ops.need_eq, needs]; first | rfl | decide, ?_⟩; try cbv) | (refine mt (fun h => ?_) (fun h => ?_) <;> first | (exfalso; simp [Ops.cmp_eq, Ops.not_eq, icmp] at h; done) | (exfalso; simp [Ops.cmp_eq, icmp] at h; omega) | (try cbv))))
  exact hQ _ _ (ReV.ren [0, 1, 2] (.ptr 2 0) [.map [] [], .map [] [], .cells [.map 0, .map 1]] rfl rfl rfl ⟨.inr rfl, .inr rfl, .inr rfl, trivial⟩ ⟨rfl, rfl⟩)
theorem or_ev {W0 : World} (b : Bool) (x y : Int) : Ev Try.prog W0 48 [.bool b, .int .i64 x, .int .i64 y] [] (fun v V' => v = .int .i64 (if b then x else y) ∧ V' = []) := by
  refine Ev.out fun Q' hQ => ev48 rfl fun o => ?_
  cases b
  all_goals
    (cbv; repeat' (first | (refine ⟨by simp only [Ops.need_eq, needs]; first | rfl | decide, ?_⟩; try cbv) | (refine mt (fun h => ?_) (fun h => ?_) <;> first | (exfalso; simp [Ops.cmp_eq, Ops.not_eq, icmp] at h; done) | (exfalso; simp [Ops.cmp_eq, icmp] at h; omega) | (try cbv))))
    exact hQ _ _ (ReV.none rfl ⟨rfl, rfl⟩)
theorem keyB_ev {W0 : World} : Ev Try.prog W0 39 [.ptr 2 0, .agg csB] [.map [] [], .map [] [], .cells [.map 0, .map 1]] (fun v V' => v = .bool true ∧ V' = [.map [] [], .map [.int .i64 1] [.bool true], .cells [.map 0, .map 1]]) := by
  refine Ev.out fun Q' hQ => ev39 rfl fun o => ?_
  (cbv; repeat' (first | (refine ⟨by simp only [Ops.need_eq, needs]; first | rfl | decide, ?_⟩; try cbv) | (refine mt (fun h => ?_) (fun h => ?_) <;> first | (exfalso; simp [Ops.cmp_eq, Ops.not_eq, icmp] at h; done) | (exfalso; simp [Ops.cmp_eq, icmp] at h; omega) | (try cbv))))
  refine ⟨by simp [o.kall_eq, kallF], ?_⟩
  have e1 : mvalF [] [] (.int .i64 1) = none := rfl
  simp only [o.mval_eq, e1]
  (refine ⟨by first | (cbv; done) | exact trivial | (cbv; trivial), ?_⟩); (cbv; repeat' (first | (refine ⟨by simp only [Ops.need_eq, needs]; first | rfl | decide, ?_⟩; try cbv) | (refine mt (fun h => ?_) (fun h => ?_) <;> first | (exfalso; simp [Ops.cmp_eq, Ops.not_eq, icmp] at h; done) | (exfalso; simp [Ops.cmp_eq, icmp] at h; omega) | (try cbv))))
  refine ⟨by simp [o.kall_eq, kallF], ?_⟩
  have e2 : mksF [] (.int .i64 1) = [.int .i64 1] := rfl
  have e3 : mvsF [] [] (.int .i64 1) (.bool true) = [.bool true] := rfl
  simp only [o.mks_eq, o.mvs_eq, e2, e3]
  refine Ops.call0 _ (or_ev false 0 1) rfl ?_; rintro v V' ⟨rfl, rfl⟩; simp only [lapp, List.map_nil, rn, rnL]
  (refine ⟨by first | (cbv; done) | exact trivial | (cbv; trivial), ?_⟩); (cbv; repeat' (first | (refine ⟨by simp only [Ops.need_eq, needs]; first | rfl | decide, ?_⟩; try cbv) | (refine mt (fun h => ?_) (fun h => ?_) <;> first | (exfalso; simp [Ops.cmp_eq, Ops.not_eq, icmp] at h; done) | (exfalso; simp [Ops.cmp_eq, icmp] at h; omega) | (try cbv))))
  exact hQ _ _ (ReV.ren [0, 1, 2] (.bool true) [.map [] [], .map [.int .i64 1] [.bool true], .cells [.map 0, .map 1]] rfl rfl (by simp [Ops.cmp_eq, icmp, rn]) ⟨.inr rfl, .inr rfl, .inr rfl, trivial⟩ ⟨rfl, rfl⟩)
theorem keyA_ev {W0 : World} : Ev Try.prog W0 39 [.ptr 2 0, .agg csA] [.map [] [], .map [.int .i64 1] [.bool true], .cells [.map 0, .map 1]] (fun v V' => v = .bool true ∧ V' = [.map [] [], .map [.int .i64 1] [.bool true], .cells [.map 0, .map 1]]) := by
  refine Ev.out fun Q' hQ => ev39 rfl fun o => ?_
  (cbv; repeat' (first | (refine ⟨by simp only [Ops.need_eq, needs]; first | rfl | decide, ?_⟩; try cbv) | (refine mt (fun h => ?_) (fun h => ?_) <;> first | (exfalso; simp [Ops.cmp_eq, Ops.not_eq, icmp] at h; done) | (exfalso; simp [Ops.cmp_eq, icmp] at h; omega) | (try cbv))))
  refine ⟨by simp [o.kall_eq, kallF, keyOk], ?_⟩
  have e1 : mvalF [.int .i64 1] [.bool true] (.int .i64 1) = some (.bool true) := rfl
  simp only [o.mval_eq, e1]
  (refine ⟨by first | (cbv; done) | exact trivial | (cbv; trivial), ?_⟩); (cbv; repeat' (first | (refine ⟨by simp only [Ops.need_eq, needs]; first | rfl | decide, ?_⟩; try cbv) | (refine mt (fun h => ?_) (fun h => ?_) <;> first | (exfalso; simp [Ops.cmp_eq, Ops.not_eq, icmp] at h; done) | (exfalso; simp [Ops.cmp_eq, icmp] at h; omega) | (try cbv))))
  refine ⟨by simp [o.kall_eq, kallF, keyOk], ?_⟩
  have e2 : mksF [.int .i64 1] (.int .i64 1) = [.int .i64 1] := rfl
  have e3 : mvsF [.int .i64 1] [.bool true] (.int .i64 1) (.bool true) = [.bool true] := rfl
  simp only [o.mks_eq, o.mvs_eq, e2, e3]
  refine Ops.call0 _ (or_ev true 0 1) rfl ?_; rintro v V' ⟨rfl, rfl⟩; simp only [lapp, List.map_nil, rn, rnL]
  (refine ⟨by first | (cbv; done) | exact trivial | (cbv; trivial), ?_⟩); (cbv; repeat' (first | (refine ⟨by simp only [Ops.need_eq, needs]; first | rfl | decide, ?_⟩; try cbv) | (refine mt (fun h => ?_) (fun h => ?_) <;> first | (exfalso; simp [Ops.cmp_eq, Ops.not_eq, icmp] at h; done) | (exfalso; simp [Ops.cmp_eq, icmp] at h; omega) | (try cbv))))
  exact hQ _ _ (ReV.ren [0, 1, 2] (.bool true) [.map [] [], .map [.int .i64 1] [.bool true], .cells [.map 0, .map 1]] rfl rfl (by simp [Ops.cmp_eq, icmp, rn]) ⟨.inr rfl, .inr rfl, .inr rfl, trivial⟩ ⟨rfl, rfl⟩)
theorem doB_ev {W0 : World} : Ev Try.prog W0 22 [.ptr 2 0, .agg csB] [.map [] [], .map [] [], .cells [.map 0, .map 1]] (fun v V' => v = .bool true ∧ V' = [.map [] [], .map [.int .i64 1] [.bool true], .cells [.map 0, .map 1]]) := by
  refine Ev.out fun Q' hQ => ev22 rfl fun o => ?_
  (cbv; repeat' (first | (refine ⟨by simp only [Ops.need_eq, needs]; first | rfl | decide, ?_⟩; try cbv) | (refine mt (fun h => ?_) (fun h => ?_) <;> first | (exfalso; simp [Ops.cmp_eq, Ops.not_eq, icmp] at h; done) | (exfalso; simp [Ops.cmp_eq, icmp] at h; omega) | (try cbv))))
  refine Ops.call _ [0, 1, 2] keyB_ev rfl rfl rfl ⟨.inr rfl, .inr rfl, .inr rfl, trivial⟩ ?_
  rintro v V' ⟨rfl, rfl⟩
  simp only [layB, lset, lapp, List.map_nil, List.map_cons, rn, rnL]
  (cbv; repeat' (first | (refine ⟨by simp only [Ops.need_eq, needs]; first | rfl | decide, ?_⟩; try cbv) | (refine mt (fun h => ?_) (fun h => ?_) <;> first | (exfalso; simp [Ops.cmp_eq, Ops.not_eq, icmp] at h; done) | (exfalso; simp [Ops.cmp_eq, icmp] at h; omega) | (try cbv))))
  exact hQ _ _ (ReV.ren [0, 1, 2] (.bool true) [.map [] [], .map [.int .i64 1] [.bool true], .cells [.map 0, .map 1]] rfl rfl rfl ⟨.inr rfl, .inr rfl, .inr rfl, trivial⟩ ⟨rfl, rfl⟩)
theorem doA_ev {W0 : World} : Ev Try.prog W0 22 [.ptr 2 0, .agg csA] [.map [] [], .map [.int .i64 1] [.bool true], .cells [.map 0, .map 1]] (fun v V' => v = .bool true ∧ V' = [.map [] [], .map [.int .i64 1] [.bool true], .cells [.map 0, .map 1]]) := by
  refine Ev.out fun Q' hQ => ev22 rfl fun o => ?_
  (cbv; repeat' (first | (refine ⟨by simp only [Ops.need_eq, needs]; first | rfl | decide, ?_⟩; try cbv) | (refine mt (fun h => ?_) (fun h => ?_) <;> first | (exfalso; simp [Ops.cmp_eq, Ops.not_eq, icmp] at h; done) | (exfalso; simp [Ops.cmp_eq, icmp] at h; omega) | (try cbv))))
  refine Ops.call _ [0, 1, 2] keyA_ev rfl rfl rfl ⟨.inr rfl, .inr rfl, .inr rfl, trivial⟩ ?_
  rintro v V' ⟨rfl, rfl⟩
  simp only [layB, lset, lapp, List.map_nil, List.map_cons, rn, rnL]
  (cbv; repeat' (first | (refine ⟨by simp only [Ops.need_eq, needs]; first | rfl | decide, ?_⟩; try cbv) | (refine mt (fun h => ?_) (fun h => ?_) <;> first | (exfalso; simp [Ops.cmp_eq, Ops.not_eq, icmp] at h; done) | (exfalso; simp [Ops.cmp_eq, icmp] at h; omega) | (try cbv))))
  exact hQ _ _ (ReV.ren [0, 1, 2] (.bool true) [.map [] [], .map [.int .i64 1] [.bool true], .cells [.map 0, .map 1]] rfl rfl rfl ⟨.inr rfl, .inr rfl, .inr rfl, trivial⟩ ⟨rfl, rfl⟩)
end Go.Proofs.Ythoodnlihbaimaa
