/- hist: Linear; of linear calls one that ended ahead of another one's beginning took effect ahead of it: the law. -/
import Derived.Test.YthoodnlihbaimaaHY
namespace Go.Proofs.Ythoodnlihbaimaa
set_option linter.unusedVariables false
set_option linter.unusedSimpArgs false
open Go Go.SL Go.FL
set_option maxRecDepth 100000
theorem LinearB_ev {W0 : World} (l : List Told) (hn : l.length ≤ 40) (lo : Low l) (ok : ∀ t ∈ l, TOk t) : Ev Try.prog W0 16 [.sl 1 18 0 l.length (.v 0)] [.num, .arr 18 (l.map Told.cs) (.v 0)] (fun v V' => v = .bool (linT l) ∧ V' = [.num, .arr 18 (l.map Told.cs) (.v 0)]) := by
  have hR := RunB_ev (W0 := W0) l hn lo ok
  have hW := WithinB_ev (W0 := W0) l (by omega)
  have hpy := Told.plain l
  refine Ev.out fun Q' hQ => ?_
  unfold linT at hQ
  generalize withinT l = wt at *
  generalize runP ⟨[], []⟩ (st key l) 0 = RR at *
  obtain ⟨MB, hMB⟩ : ∃ MB : StoreP → VB, ∀ s, modelB W0 s = MB s := ⟨modelB W0, fun _ => rfl⟩
  have hrm : ∀ s ρ, rnB ρ (MB s) = MB s := fun s ρ => by rw [← hMB]; rfl
  simp only [hMB] at hR
  generalize l.map Told.cs = ys at *
  generalize l.length = n at *
  have hr : ∀ (ρ : Nat → Nat) c, rnB ρ (.arr 18 ys c) = .arr 18 ys (c.rn ρ) := by intro ρ c; simp only [rnB, hpy _]
  have hr2 : ∀ ρ : Nat → Nat, rnB ρ .num = .num := fun _ => rfl
  refine ev16 rfl fun o => ?_
  (cbv; repeat' (first | (refine ⟨by simp only [Ops.need_eq, needs]; first | rfl | decide, ?_⟩; try cbv) | (refine mt (fun h => ?_) (fun h => ?_) <;> first | (exfalso; simp [Ops.cmp_eq, Ops.not_eq, icmp] at h; done) | (exfalso; simp [Ops.cmp_eq, icmp] at h; omega) | (try cbv))))
  refine Ops.call _ [0, 1] hR rfl rfl rfl ⟨.inr rfl, .inr (by rw [hr]; rfl), trivial⟩ ?_
  rintro v V' ⟨s, rfl, rfl⟩
  simp only [layB, lset, lapp, List.map_nil, List.map_cons, hr, hr2, hrm, rn, rnL, Cap.rn]
  generalize MB s = M
  clear hR
  by_cases h0 : RR < 0
  · (cbv; repeat' (first | (refine ⟨by simp only [Ops.need_eq, needs]; first | rfl | decide, ?_⟩; try cbv) | (refine mt (fun h => ?_) (fun h => ?_) <;> first | (exfalso; simp [Ops.cmp_eq, Ops.not_eq, icmp] at h; done) | (exfalso; simp [Ops.cmp_eq, icmp] at h; omega) | (try cbv))))
    refine Ops.call _ [0, 1] hW rfl rfl rfl ⟨.inr rfl, .inr (by rw [hr]; rfl), trivial⟩ ?_
    rintro v V' ⟨rfl, rfl⟩
    simp only [layB, lset, lapp, List.map_nil, List.map_cons, hr, hr2, rn, rnL, Cap.rn]
    (cbv; repeat' (first | (refine ⟨by simp only [Ops.need_eq, needs]; first | rfl | decide, ?_⟩; try cbv) | (refine mt (fun h => ?_) (fun h => ?_) <;> first | (exfalso; simp [Ops.cmp_eq, Ops.not_eq, icmp] at h; done) | (exfalso; simp [Ops.cmp_eq, icmp] at h; omega) | (try cbv))))
    exact hQ _ _ (ReV.ren [0, 1] (.bool wt) [.num, .arr 18 ys (.v 0)] rfl rfl rfl ⟨.inr rfl, .inr (by rw [hr]; rfl), trivial⟩ ⟨by simp [h0], rfl⟩)
  · (cbv; repeat' (first | (refine ⟨by simp only [Ops.need_eq, needs]; first | rfl | decide, ?_⟩; try cbv) | (refine mt (fun h => ?_) (fun h => ?_) <;> first | (exfalso; simp [Ops.cmp_eq, Ops.not_eq, icmp] at h; done) | (exfalso; simp [Ops.cmp_eq, icmp] at h; omega) | (try cbv))))
    exact hQ _ _ (ReV.ren [0, 1] (.bool false) [.num, .arr 18 ys (.v 0)] rfl rfl rfl ⟨.inr rfl, .inr (by rw [hr]; rfl), trivial⟩ ⟨by simp [h0], rfl⟩)
theorem RunA_ev {W0 : World} : Ev Try.prog W0 29 [.sl 0 18 0 0 (.n 0)] [.arr 18 [] (.n 0)] (fun v V' => v = .tup [.int .i64 (-1), .ptr 1 0] ∧ V' = [.arr 18 [] (.n 0), modelB W0 ⟨[], []⟩]) := by
  have hnew := mNewB_ev (W0 := W0)
  refine Ev.out fun Q' hQ => ?_
  have hrm : ∀ ρ, rnB ρ (modelB W0 ⟨[], []⟩) = modelB W0 ⟨[], []⟩ := fun ρ => rfl
  generalize modelB W0 ⟨[], []⟩ = M at *
  refine ev29 rfl fun o => ?_
  (cbv; repeat' (first | (refine ⟨by simp only [Ops.need_eq, needs]; first | rfl | decide, ?_⟩; try cbv) | (refine mt (fun h => ?_) (fun h => ?_) <;> first | (exfalso; simp [Ops.cmp_eq, Ops.not_eq, icmp] at h; done) | (exfalso; simp [Ops.cmp_eq, icmp] at h; omega) | (try cbv))))
  refine Ops.call _ [] hnew rfl rfl rfl trivial ?_
  rintro v V' ⟨rfl, rfl⟩
  simp only [layB, lset, lapp, List.map_nil, List.map_cons, hrm, rn, rnL]
  (cbv; repeat' (first | (refine ⟨by simp only [Ops.need_eq, needs]; first | rfl | decide, ?_⟩; try cbv) | (refine mt (fun h => ?_) (fun h => ?_) <;> first | (exfalso; simp [Ops.cmp_eq, Ops.not_eq, icmp] at h; done) | (exfalso; simp [Ops.cmp_eq, icmp] at h; omega) | (try cbv))))
  refine Ops.call _ [0] OrderA_ev rfl rfl rfl ⟨.inr rfl, trivial⟩ ?_
  rintro v V' ⟨rfl, rfl⟩
  simp only [layB, lset, lapp, List.map_nil, List.map_cons, hrm, rn, rnL, Cap.rn]
  (cbv; repeat' (first | (refine ⟨by simp only [Ops.need_eq, needs]; first | rfl | decide, ?_⟩; try cbv) | (refine mt (fun h => ?_) (fun h => ?_) <;> first | (exfalso; simp [Ops.cmp_eq, Ops.not_eq, icmp] at h; done) | (exfalso; simp [Ops.cmp_eq, icmp] at h; omega) | (try cbv))))
  refine ⟨fun k env V => ∃ r : Nat → Value, env = mix [(4, .ptr 1 0), (10, .int .i64 0), (11, .int .i64 0)] r ∧ V = [.arr 18 [] (.n 0), M], ⟨0, o.reI (Re.ren [0, 1] _ _ rfl rfl ?_ ?_ fun r => ⟨r, rfl, rfl⟩)⟩, ?_⟩
  · exact ⟨rfl, rfl, rfl, trivial⟩
  · exact ⟨.inr rfl, .inr (by rw [hrm]; rfl), trivial⟩
  rintro k env V ⟨r, rfl, rfl⟩
  (cbv; repeat' (first | (refine ⟨by simp only [Ops.need_eq, needs]; first | rfl | decide, ?_⟩; try cbv) | (refine mt (fun h => ?_) (fun h => ?_) <;> first | (exfalso; simp [Ops.cmp_eq, Ops.not_eq, icmp] at h; done) | (exfalso; simp [Ops.cmp_eq, icmp] at h; omega) | (try cbv))))
  exact hQ _ _ (ReV.ren [0, 1] (.tup [.int .i64 (-1), .ptr 1 0]) [.arr 18 [] (.n 0), M] rfl rfl rfl ⟨.inr rfl, .inr (by rw [hrm]; rfl), trivial⟩ ⟨rfl, rfl⟩)
theorem LinearA_ev {W0 : World} : Ev Try.prog W0 16 [.sl 0 18 0 0 (.n 0)] [.arr 18 [] (.n 0)] (fun v V' => v = .bool true ∧ V' = [.arr 18 [] (.n 0)]) := by
  have hW := Within_ev (W0 := W0) [] 0 0 (by decide) (by decide)
  rw [show withinT [] = true from rfl, show ([] : List Told).map Told.cs = [] from rfl, show ([] : List Told).length = 0 from rfl] at hW
  have hR := RunA_ev (W0 := W0)
  refine Ev.out fun Q' hQ => ?_
  have hrm : ∀ ρ, rnB ρ (modelB W0 ⟨[], []⟩) = modelB W0 ⟨[], []⟩ := fun ρ => rfl
  generalize modelB W0 ⟨[], []⟩ = M at *
  refine ev16 rfl fun o => ?_
  (cbv; repeat' (first | (refine ⟨by simp only [Ops.need_eq, needs]; first | rfl | decide, ?_⟩; try cbv) | (refine mt (fun h => ?_) (fun h => ?_) <;> first | (exfalso; simp [Ops.cmp_eq, Ops.not_eq, icmp] at h; done) | (exfalso; simp [Ops.cmp_eq, icmp] at h; omega) | (try cbv))))
  refine Ops.call _ [0] hR rfl rfl rfl ⟨.inr rfl, trivial⟩ ?_
  rintro v V' ⟨rfl, rfl⟩
  simp only [layB, lset, lapp, List.map_nil, List.map_cons, hrm, rn, rnL, Cap.rn]
  (cbv; repeat' (first | (refine ⟨by simp only [Ops.need_eq, needs]; first | rfl | decide, ?_⟩; try cbv) | (refine mt (fun h => ?_) (fun h => ?_) <;> first | (exfalso; simp [Ops.cmp_eq, Ops.not_eq, icmp] at h; done) | (exfalso; simp [Ops.cmp_eq, icmp] at h; omega) | (try cbv))))
  refine Ops.call _ [0] hW rfl rfl rfl ⟨.inr rfl, trivial⟩ ?_
  rintro v V' ⟨rfl, rfl⟩
  simp only [layB, lset, lapp, List.map_nil, List.map_cons, rn, rnL, Cap.rn]
  (cbv; repeat' (first | (refine ⟨by simp only [Ops.need_eq, needs]; first | rfl | decide, ?_⟩; try cbv) | (refine mt (fun h => ?_) (fun h => ?_) <;> first | (exfalso; simp [Ops.cmp_eq, Ops.not_eq, icmp] at h; done) | (exfalso; simp [Ops.cmp_eq, icmp] at h; omega) | (try cbv))))
  exact hQ _ _ (ReV.ren [0] (.bool true) [.arr 18 [] (.n 0)] rfl rfl rfl ⟨.inr rfl, trivial⟩ ⟨rfl, rfl⟩)
theorem andU_nat (x : Int) (m : Nat) (h : m < 9223372036854775808) : ∃ n : Nat, arith .and .u64 x m = n := by
  have : 0 ≤ arith .and .u64 x m := by
    unfold arith IntKind.wrap
    simp only [IntKind.bits, IntKind.signed]
    have := Int.emod_nonneg ((BitVec.ofInt 64 x &&& BitVec.ofInt 64 (m : Int)).toNat : Int) (show (2 : Int) ^ 64 ≠ 0 by decide)
    simp
    omega
  exact ⟨_, (Int.toNat_of_nonneg this).symm⟩
theorem kind8 (x : Int) : 1 ≤ arith .add .i64 1 (arith .rem .i64 (arith .add .i64 (arith .rem .i64 x 8) 8) 8) ∧ arith .add .i64 1 (arith .rem .i64 (arith .add .i64 (arith .rem .i64 x 8) 8) 8) ≤ 8 := by
  have e1 : arith .rem .i64 x 8 = x.tmod 8 := rfl
  have b1 : -8 < x.tmod 8 ∧ x.tmod 8 < 8 := by
    have := Int.lt_tmod_of_pos x (show (0 : Int) < 8 by decide)
    have := Int.tmod_lt_of_pos x (show (0 : Int) < 8 by decide)
    omega
  rw [e1]
  have e2 : arith .add .i64 (x.tmod 8) 8 = x.tmod 8 + 8 := wrap64 (by omega) (by omega)
  rw [e2]
  have e3 : arith .rem .i64 (x.tmod 8 + 8) 8 = (x.tmod 8 + 8).tmod 8 := rfl
  rw [e3]
  have b2 : 0 ≤ (x.tmod 8 + 8).tmod 8 := Int.tmod_nonneg _ (by omega)
  have b3 := Int.tmod_lt_of_pos (x.tmod 8 + 8) (show (0 : Int) < 8 by decide)
  have e4 : arith .add .i64 1 ((x.tmod 8 + 8).tmod 8) = 1 + (x.tmod 8 + 8).tmod 8 := wrap64 (by omega) (by omega)
  rw [e4]
  omega
theorem cut_ok (t : Told) : TOk (cutT t) := by
  obtain ⟨n1, h1⟩ := andU_nat t.handle 3 (by omega)
  obtain ⟨n2, h2⟩ := andU_nat t.dhandle 7 (by omega)
  obtain ⟨n3, h3, h4⟩ := and_mask t.size 3 (by omega)
  refine ⟨kind8 _, ?_, ?_, ?_⟩
  · show arith .and .u64 t.handle 3 = _
    rw [show (cutT t).handle = arith .and .u64 t.handle 3 from rfl, show arith .and .u64 t.handle 3 = (n1 : Int) from h1]; simp
  · show arith .and .u64 t.dhandle 7 = _
    rw [show (cutT t).dhandle = arith .and .u64 t.dhandle 7 from rfl, show arith .and .u64 t.dhandle 7 = (n2 : Int) from h2]; simp
  · show 1 ≤ arith .add .i64 1 (arith .and .i64 t.size 3) ∧ arith .add .i64 1 (arith .and .i64 t.size 3) ≤ 4
    rw [show arith .and .i64 t.size 3 = (n3 : Int) from h4]
    have : arith .add .i64 1 (n3 : Int) = 1 + n3 := wrap64 (by omega) (by omega)
    rw [this]; omega
theorem cut40_ok (l : List Told) : ∀ t ∈ cut40 l, TOk t := by
  intro t ht
  obtain ⟨u, _, rfl⟩ := List.mem_map.1 ht
  exact cut_ok u
end Go.Proofs.Ythoodnlihbaimaa
