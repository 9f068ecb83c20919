/- queue: New, Len, Room, awake. -/
import Derived.Test.YtebeabcbbcbdhaaQP
import Derived.Test.YtebeabcbbcbdhaaIRq
namespace Go.Proofs.Ytebeabcbbcbdhaa
set_option linter.unusedVariables false
set_option linter.unusedSimpArgs false
open Go Go.SL
set_option maxRecDepth 100000
theorem New_ev {W0 : World} (n : Int) : Ev Try.prog W0 17 [.int .i64 n] [] (fun v V' =>
    (1 ≤ n ∧ n ≤ 256 → v = .tup [.ptr 0 0, .int .i64 0] ∧ V' = [.cells [.chan 1, .int .i64 n], .chan n.toNat (ints [])]) ∧ (¬ (1 ≤ n ∧ n ≤ 256) → v = .tup [.nilPtr, .int .i64 1] ∧ V' = [])) := by
  refine Ev.out fun Q' hQ => ev17 rfl fun o => ?_
  (cbv; repeat' (refine mt (fun _ => ?_) (fun _ => ?_) <;> cbv))
  · rename_i h
    have h1 : n < 1 := by simpa [o.cmp_eq, icmp] using h
    exact hQ _ _ (ReV.none rfl ⟨fun h2 => by omega, fun _ => ⟨rfl, rfl⟩⟩)
  · rename_i h
    have h1 : n > 256 := by simpa [o.cmp_eq, icmp] using h
    exact hQ _ _ (ReV.none rfl ⟨fun h2 => by omega, fun _ => ⟨rfl, rfl⟩⟩)
  · rename_i h h'
    have h1 : 1 ≤ n := by simpa [o.cmp_eq, icmp] using h
    have h2 : n ≤ 256 := by simpa [o.cmp_eq, icmp] using h'
    refine ⟨by simp [o.inb_eq]; omega, ?_⟩
    refine hQ _ _ (ReV.ren [1, 0] (.tup [.ptr 0 0, .int .i64 0]) [.cells [.chan 1, .int .i64 n], .chan n.toNat (ints [])] rfl rfl rfl (by simp_all [fitB, mixOk, rnB, lget, rnL, rn, rho, llen, Plain, assoc, mix, envOf, ints, o.nat_eq]) ⟨fun _ => ⟨rfl, rfl⟩, fun h3 => by omega⟩)
theorem Len_ev {W0 : World} (cap : Nat) (l : List Int) (most : Int) : Ev Try.prog W0 21 [.ptr 0 0] [.cells [.chan 1, .int .i64 most], .chan cap (ints l)] (fun v V' =>
    v = .int .i64 l.length ∧ V' = [.cells [.chan 1, .int .i64 most], .chan cap (ints l)]) := by
  refine Ev.out fun Q' hQ => ev21 rfl fun o => ?_
  have hl := ints_len l
  have hr := fun ρ => ints_rn ρ l
  generalize ints l = xs at *
  (cbv; repeat' (refine mt (fun _ => ?_) (fun _ => ?_) <;> cbv))
  refine hQ _ _ (ReV.ren [0, 1] (.int .i64 l.length) [.cells [.chan 1, .int .i64 most], .chan cap xs] rfl rfl ?_ (by simp_all [fitB, mixOk, rnB, lget, rnL, rn, rho, llen, Plain, assoc, mix, envOf]) ⟨rfl, rfl⟩)
  simp [rn, o.len_eq, hl]
theorem LenNil_ev {W0 : World} : Ev Try.prog W0 21 [.nilPtr] [] (fun v V' => v = .int .i64 0 ∧ V' = []) := by
  refine Ev.out fun Q' hQ => ev21 rfl fun o => ?_
  (cbv; repeat' (refine mt (fun _ => ?_) (fun _ => ?_) <;> cbv))
  exact hQ _ _ (ReV.none rfl ⟨rfl, rfl⟩)
theorem Room_ev {W0 : World} (cap : Nat) (l : List Int) (most : Int) (h0 : 0 ≤ most) (h1 : most ≤ 256) (h2 : l.length ≤ 256) : Ev Try.prog W0 22 [.ptr 0 0] [.cells [.chan 1, .int .i64 most], .chan cap (ints l)] (fun v V' =>
    v = .int .i64 (most - l.length) ∧ V' = [.cells [.chan 1, .int .i64 most], .chan cap (ints l)]) := by
  refine Ev.out fun Q' hQ => ev22 rfl fun o => ?_
  have hl := ints_len l
  have hr := fun ρ => ints_rn ρ l
  generalize ints l = xs at *
  (cbv; repeat' (refine mt (fun _ => ?_) (fun _ => ?_) <;> cbv))
  refine hQ _ _ (ReV.ren [0, 1] (.int .i64 (most - l.length)) [.cells [.chan 1, .int .i64 most], .chan cap xs] rfl rfl ?_ (by simp_all [fitB, mixOk, rnB, lget, rnL, rn, rho, llen, Plain, assoc, mix, envOf]) ⟨rfl, rfl⟩)
  simp only [rn, o.len_eq, hl, o.ar_eq, arith, Int.ofNat_eq_natCast]
  rw [wrap64 (by omega) (by omega)]
theorem RoomNil_ev {W0 : World} : Ev Try.prog W0 22 [.nilPtr] [] (fun v V' => v = .int .i64 0 ∧ V' = []) := by
  refine Ev.out fun Q' hQ => ev22 rfl fun o => ?_
  (cbv; repeat' (refine mt (fun _ => ?_) (fun _ => ?_) <;> cbv))
  exact hQ _ _ (ReV.none rfl ⟨rfl, rfl⟩)
end Go.Proofs.Ytebeabcbbcbdhaa
