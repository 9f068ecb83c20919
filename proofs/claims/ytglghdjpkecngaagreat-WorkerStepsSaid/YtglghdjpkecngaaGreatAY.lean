/- layout: a fresh arena. -/
import Derived.Test.YtglghdjpkecngaaGreatAV
import Derived.Test.YtglghdjpkecngaaGreatAN
import Derived.Test.YtglghdjpkecngaaGreatIRB
namespace Go.Proofs.YtglghdjpkecngaaGreat
set_option linter.unusedVariables false
set_option linter.unusedSimpArgs false
open Go Go.SL Go.FL
set_option maxRecDepth 100000
theorem lCheck_ev {W0 : World} (c : Cfg) (hc : CfgOk c) : Ev Tryz.prog W0 101 [cfgV c] [] (fun v V' => v = .bool true ∧ V' = []) := by
  refine Ev.out fun Q' hQ => ev101 rfl fun o => ?_
  obtain ⟨c1, c2, c3, c4, c5, c6, c7⟩ := c
  obtain ⟨a1, a2, a3, a4, a5, a6, a7, a8, a9, b1, b2, b3, b4, b5⟩ := hc
  simp only at a1 a2 a3 a4 a5 a6 a7 a8 a9 b1 b2 b3 b4 b5
  (cbv; repeat' (first | (refine mt (fun h => ?_) (fun h => ?_) <;> first | (exfalso; simp [Ops.cmp_eq, icmp] at h; omega) | (try cbv)) | fail))
  refine hQ _ _ (ReV.none rfl ⟨?_, rfl⟩)
  simp [Ops.cmp_eq, icmp, *]
theorem memNew_ev {W0 : World} (n : Nat) (h0 : 1 ≤ n) (h1 : n ≤ 1048576) : Ev Tryz.prog W0 102 [.int .i64 n] [] (fun v V' => v = .tup [.ptr 0 0, .int .i64 0] ∧ V' = [bx W0 (memU (newMem n))]) := by
  refine Ev.out fun Q' hQ => ev102 rfl fun o => ?_
  have hU : memU (newMem n) = [.cells [.sl 1 1 0 n n, .sl 2 1 0 n n, .int .i64 0, .int .i64 0, .int .i64 0, .int .i64 0, .bool false], .arr 1 (List.replicate n [.int .u64 0]) n, .arr 1 (List.replicate n [.int .i64 0]) n] := by
    simp [memU, newMem, wcs, ncs]
  have hin : o.inb (Int.ofNat n) 31274997412295 = true := by simp only [o.inb_eq]; exact decide_eq_true ⟨by simp, by simp; omega⟩
  (cbv; repeat' (first | (refine mt (fun _ => ?_) (fun _ => ?_) <;> (try cbv)) | fail))
  · rename_i h
    exfalso; simp [Ops.cmp_eq, icmp] at h; omega
  · rename_i h
    exfalso; simp [Ops.cmp_eq, icmp] at h; omega
  · refine ⟨hin, hin, ?_⟩
    simp only [Ops.nat_eq, Ops.nmul_eq, Ops.rep_eq, Int.ofNat_eq_natCast, Int.toNat_natCast, Nat.mul_one]
    refine hQ _ _ (ReV.shut 2 [0, 1] (memU (newMem n)) rfl rfl ?_ ?_)
    · rw [hU]
      exact ⟨.inr rfl, .inr (by simp [rnB, rnL, rn, Cap.rn, lget]), .inr (by simp [rnB, rnL, rn, Cap.rn, lget]), trivial⟩
    · exact ReV.ren [2] (.tup [.ptr 0 0, .int .i64 0]) [bx W0 (memU (newMem n))] rfl rfl rfl ⟨.inr rfl, trivial⟩ ⟨rfl, rfl⟩
  · rename_i h
    rw [hin] at h
    cases h
end Go.Proofs.YtglghdjpkecngaaGreat
