/- policy: the statements. -/
import Derived.Test.YtebeabcbbcbdhaaPO
namespace Go.Proofs.Ytebeabcbbcbdhaa
set_option linter.unusedVariables false
set_option linter.unusedSimpArgs false
open Go Go.SL
set_option maxRecDepth 100000
theorem awake_ev {W0 : World} : Ev Try.prog W0 13 [] [] (fun v V' => v = .bool true ∧ V' = []) := by
  refine Ev.out fun Q' hQ => ev13 rfl fun o => ?_
  (cbv; repeat' (refine mt (fun _ => ?_) (fun _ => ?_) <;> cbv))
  refine o.call [1] (Choose_ev ⟨0, 0, 0, 0, 0, 500, 0⟩ [⟨1, 0, 10, 0, 9, false⟩, ⟨1, 0, 10, 0, 3, false⟩] 2 12 (by decide)) rfl rfl rfl ⟨.inr rfl, trivial⟩ ?_
  rintro v V' ⟨rfl, rfl⟩
  rw [show chooseTo ⟨0, 0, 0, 0, 0, 500, 0⟩ [⟨1, 0, 10, 0, 9, false⟩, ⟨1, 0, 10, 0, 3, false⟩] (List.length [(⟨1, 0, 10, 0, 9, false⟩ : Seen), ⟨1, 0, 10, 0, 3, false⟩]) = 1 by decide +kernel]
  (cbv; repeat' (refine mt (fun _ => ?_) (fun _ => ?_) <;> cbv))
  · refine ⟨by simp [Ops.need_eq, needs, Ops.inb_eq], ?_⟩; simp only [Int.toNat_natCast, Int.ofNat_eq_natCast, Ops.get_eq, Ops.nadd_eq, Ops.nat_eq, Nat.zero_add]; (cbv; repeat' (refine mt (fun _ => ?_) (fun _ => ?_) <;> cbv))
    refine o.call0 (May_ev ⟨0, 0, 0, 0, 0, 500, 0⟩ ⟨1, 0, 10, 0, 3, false⟩) rfl ?_
    rintro v V' ⟨rfl, rfl⟩
    rw [show may ⟨0, 0, 0, 0, 0, 500, 0⟩ ⟨1, 0, 10, 0, 3, false⟩ = true by decide +kernel]
    (cbv; repeat' (refine mt (fun _ => ?_) (fun _ => ?_) <;> cbv))
    refine ⟨by simp [Ops.need_eq, needs, Ops.inb_eq], ?_⟩; simp only [Int.toNat_natCast, Int.ofNat_eq_natCast, Ops.get_eq, Ops.nadd_eq, Ops.nat_eq, Nat.zero_add]; (cbv; repeat' (refine mt (fun _ => ?_) (fun _ => ?_) <;> cbv))
    refine o.call0 (May_ev ⟨0, 0, 0, 0, 0, 500, 0⟩ ⟨1, 0, 10, 0, 9, false⟩) rfl ?_
    rintro v V' ⟨rfl, rfl⟩
    rw [show may ⟨0, 0, 0, 0, 0, 500, 0⟩ ⟨1, 0, 10, 0, 9, false⟩ = false by decide +kernel]
    (cbv; repeat' (refine mt (fun _ => ?_) (fun _ => ?_) <;> cbv))
    refine hQ _ _ (ReV.none rfl ⟨?_, rfl⟩)
    simp [o.not_eq]
  · rename_i h
    simp [o.cmp_eq, icmp] at h
theorem may_eq (n : Int) (s : Seen) : may ⟨0, 0, 0, 0, 0, n, 0⟩ s = lmay n s := by
  obtain ⟨s1, s2, s3, s4, s5, s6⟩ := s
  simp only [may, lmay, Int.mul_comm]
  cases s6 <;> by_cases h1 : s1 = 1 <;> by_cases h3 : s3 < 1 <;> simp_all <;> grind
theorem PolicyMay_ev {W0 : World} (n : Int) (s : Seen) : Ev Try.prog W0 3 [.int .i64 n, .agg s.cs] [] (fun v V' => v = .bool true ∧ V' = []) := by
  refine Ev.out fun Q' hQ => ev3 rfl fun o => ?_
  (cbv; repeat' (refine mt (fun _ => ?_) (fun _ => ?_) <;> cbv))
  refine ⟨by simp [o.need_eq, needs], by simp [o.need_eq, needs], ?_⟩
  simp only [o.ar_eq]
  generalize arith .rem .i64 (arith .add .i64 (arith .rem .i64 n 1001) 1001) 1001 = N
  refine o.call0 (Seen_ev s) rfl ?_
  rintro v V' ⟨rfl, rfl⟩
  generalize few s = s
  (cbv; repeat' (refine mt (fun _ => ?_) (fun _ => ?_) <;> cbv))
  refine o.call0 awake_ev rfl ?_
  rintro v V' ⟨rfl, rfl⟩
  (cbv; repeat' (refine mt (fun _ => ?_) (fun _ => ?_) <;> cbv))
  refine o.call0 (May_ev ⟨0, 0, 0, 0, 0, N, 0⟩ s) rfl ?_
  rintro v V' ⟨rfl, rfl⟩
  rw [may_eq]
  generalize hb : lmay N s = b
  (cbv; repeat' (refine mt (fun _ => ?_) (fun _ => ?_) <;> cbv))
  refine o.call0 (lmay_ev N s) rfl ?_
  rintro v V' ⟨rfl, rfl⟩
  rw [hb]
  (cbv; repeat' (refine mt (fun _ => ?_) (fun _ => ?_) <;> cbv))
  refine hQ _ _ (ReV.none rfl ⟨?_, rfl⟩)
  simp [o.beq_eq]
end Go.Proofs.Ytebeabcbbcbdhaa
