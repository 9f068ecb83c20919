/- queue: QueueTurns. -/
import Derived.Test.YtebeabcbbcbdhaaQS
namespace Go.Proofs.Ytebeabcbbcbdhaa
set_option linter.unusedVariables false
set_option linter.unusedSimpArgs false
open Go Go.SL
set_option maxRecDepth 100000
def run (a : Nat) (n : Nat) : List Int := (List.range n).map fun j => ((a + j : Nat) : Int)
theorem run_len (a n : Nat) : (run a n).length = n := by simp [run]
theorem run_push (a n : Nat) : run a n ++ [((a + n : Nat) : Int)] = run a (n + 1) := by simp [run, List.range_succ]
theorem run_pop (a n : Nat) : run a (n + 1) = (a : Int) :: run (a + 1) n := by
  simp only [run, List.range_succ_eq_map, List.map_cons, List.map_map]
  congr 1
  apply List.map_congr_left
  intro j _
  simp only [Function.comp]
  omega
theorem room_k (most : Int) : ∃ k : Nat, 1 ≤ k ∧ k ≤ 16 ∧ arith .add .i64 1 (arith .and .i64 most 15) = k := by
  obtain ⟨n, h1, h2⟩ := and_mask most 15 (by decide)
  refine ⟨n + 1, by omega, by omega, ?_⟩
  rw [show arith .and .i64 most 15 = (n : Int) from h2]
  simp only [arith]
  rw [wrap64 (by omega) (by omega)]
  omega
set_option maxHeartbeats 4000000 in
theorem QueueTurns_ev {W0 : World} (most times : Int) : Ev Try.prog W0 11 [.int .i64 most, .int .i64 times] [] (fun v _ => v = .bool true) := by
  refine Ev.out fun Q' hQ => ev11 rfl fun o => ?_
  (cbv; repeat' (refine mt (fun _ => ?_) (fun _ => ?_) <;> cbv))
  obtain ⟨k, hk1, hk2, he⟩ := room_k most
  simp only [o.ar_eq]
  rw [he]
  clear he
  refine o.call0 (New_ev k) rfl ?_
  rintro v V' ⟨h1, _⟩
  obtain ⟨rfl, rfl⟩ := h1 (by omega)
  clear h1
  simp only [List.length_nil, List.map_cons, List.map_nil, rnB, rnL, rn, ints_rn, Int.toNat_natCast]
  generalize h0 : ints [] = l0
  (cbv; repeat' (refine mt (fun _ => ?_) (fun _ => ?_) <;> cbv))
  refine o.call0 qawake_ev rfl ?_
  rintro v V' ⟨rfl, rfl⟩
  (cbv; repeat' (refine mt (fun _ => ?_) (fun _ => ?_) <;> first | (exfalso; rename_i hc; simp [o.cmp_eq, icmp, o.not_eq, o.beq_eq] at hc; first | done | omega) | cbv))
  obtain ⟨T, hT1, hT2⟩ := and_mask times 63 (by decide)
  have hT2 : arith .and .i64 times 63 = (T : Int) := hT2
  refine ⟨fun m env V => ∃ (i a c : Nat) (N A : Int) (r : Nat → Value), i ≤ T ∧ c ≤ k ∧ a ≤ 16 * i ∧ m = T - i ∧ (0 ≤ N ∧ N.toNat = a + c) ∧ (0 ≤ A ∧ A.toNat = a) ∧
      env = mix [(1, .int .i64 times), (5, .int .i64 k), (6, .ptr 0 0), (8, .int .i64 N), (9, .int .i64 A), (10, .int .i64 i)] r ∧
      V = [.cells [.chan 1, .int .i64 k], .chan k (ints (run a c))], ⟨T, o.reI (Re.ren [0, 1] _ _ rfl rfl ?_ ?_ fun r => ⟨0, 0, 0, 0, 0, r, Nat.zero_le _, Nat.zero_le _, Nat.zero_le _, rfl, ⟨by decide, rfl⟩, ⟨by decide, rfl⟩, rfl, rfl⟩)⟩, ?_⟩
  · simp_all [fitB, mixOk, rnB, lget, rnL, rn, rho, llen, Plain, assoc, mix, envOf]
  · subst h0; simp_all [fitB, mixOk, rnB, lget, rnL, rn, rho, llen, Plain, assoc, mix, envOf, ints, run]
  clear h0
  rintro m env V ⟨i, a, c, N, A, r, hi, hc, ha, rfl, hN, hA, rfl, rfl⟩
  generalize hys : ints (run a c) = ys
  (cbv; repeat' (refine mt (fun _ => ?_) (fun _ => ?_) <;> cbv))
  · rename_i h1
    have h2 : i < T := by
      have : (i : Int) < T := by simpa [o.cmp_eq, icmp, o.ar_eq, hT2] using h1
      omega
    subst hys
    refine ⟨fun m env V => ∃ (d : Nat) (N : Int) (r : Nat → Value), d ≤ k ∧ m = k - d ∧ (0 ≤ N ∧ N.toNat = a + d) ∧
      env = mix [(1, .int .i64 times), (5, .int .i64 k), (6, .ptr 0 0), (8, .int .i64 N), (9, .int .i64 A), (10, .int .i64 i)] r ∧
      V = [.cells [.chan 1, .int .i64 k], .chan k (ints (run a d))], ⟨k - c, o.reI (Re.ren [0, 1] _ _ rfl rfl ?_ ?_ fun r => ⟨c, N, r, hc, rfl, hN, rfl, rfl⟩)⟩, ?_⟩
    · simp_all [fitB, mixOk, rnB, lget, rnL, rn, rho, llen, Plain, assoc, mix, envOf]
    · simp_all [fitB, mixOk, rnB, lget, rnL, rn, rho, llen, Plain, assoc, mix, envOf, ints_rn]
    clear hN N
    rintro m env V ⟨d, N, r2, hd, rfl, hN, rfl, rfl⟩
    by_cases hdk : d < k
    · have hp := run_push a d
      rw [show ((a + d : Nat) : Int) = N by omega] at hp
      have hrl := run_len a d
      generalize hys : ints (run a d) = ys
      (cbv; repeat' (refine mt (fun _ => ?_) (fun _ => ?_) <;> cbv))
      subst hys
      refine o.evI ((PushOk_ev k (run a d) k N (by omega)).mono ?_)
      rintro v V' ⟨rfl, rfl⟩
      rw [hp]
      generalize hzs : ints (run a (d + 1)) = zs
      have e1 : arith .add .i64 N 1 = N + 1 := wrap64 (by omega) (by omega)
      have e2 : arith .sub .i64 (N + 1) A = N + 1 - A := wrap64 (by omega) (by omega)
      have e3 : N + 1 - A ≤ k := by omega
      have hpz := fun ρ => ints_rn ρ (run a (d + 1))
      rw [hzs] at hpz
      (cbv; repeat' (refine mt (fun _ => ?_) (fun _ => ?_) <;> cbv))
      · rename_i h5
        simp [o.cmp_eq, icmp, o.ar_eq, e1, e2] at h5
        omega
      · clear hQ hrl hp
        refine ⟨k - (d + 1), by omega, o.reI (Re.ren [0, 1] _ _ rfl rfl ?_ ?_ fun r => ⟨d + 1, N + 1, r, by omega, rfl, ⟨by omega, by omega⟩, rfl, rfl⟩)⟩
        · simp_all [fitB, mixOk, rnB, lget, rnL, rn, rho, llen, Plain, assoc, mix, envOf, o.ar_eq]
        · rw [hzs]; clear hzs; simp_all [fitB, mixOk, rnB, lget, rnL, rn, rho, llen, Plain, assoc, mix, envOf]
      · rename_i h5
        simp [o.cmp_eq, icmp] at h5
    · obtain rfl : d = k := by omega
      have hrl := run_len a d
      generalize hys : ints (run a d) = ys
      (cbv; repeat' (refine mt (fun _ => ?_) (fun _ => ?_) <;> cbv))
      subst hys
      refine o.evI ((PushFull_ev d (run a d) d N (by omega)).mono ?_)
      rintro v V' ⟨rfl, rfl⟩
      generalize hys : ints (run a d) = ys
      (cbv; repeat' (refine mt (fun _ => ?_) (fun _ => ?_) <;> first | (exfalso; rename_i hc; simp [o.cmp_eq, icmp, o.not_eq, o.beq_eq] at hc; first | done | omega) | cbv))
      subst hys
      obtain ⟨q, hmod, hrem⟩ : ∃ q : Nat, q < d ∧ arith .rem .i64 (i : Int) (d : Int) = (q : Int) := ⟨i % d, Nat.mod_lt _ (by omega), rfl⟩
      refine ⟨fun m env V => ∃ (j : Nat) (M : Int) (r : Nat → Value), j ≤ q + 1 ∧ m = q + 1 - j ∧ (0 ≤ M ∧ M.toNat = a + j) ∧
        env = mix [(1, .int .i64 times), (5, .int .i64 d), (6, .ptr 0 0), (8, .int .i64 N), (9, .int .i64 M), (10, .int .i64 i), (11, .int .i64 j)] r ∧
        V = [.cells [.chan 1, .int .i64 d], .chan d (ints (run (a + j) (d - j)))], ⟨q + 1, o.reI (Re.ren [0, 1] _ _ rfl rfl ?_ ?_ fun r => ⟨0, A, r, Nat.zero_le _, rfl, hA, rfl, rfl⟩)⟩, ?_⟩
      · simp_all [fitB, mixOk, rnB, lget, rnL, rn, rho, llen, Plain, assoc, mix, envOf]
      · simp_all [fitB, mixOk, rnB, lget, rnL, rn, rho, llen, Plain, assoc, mix, envOf, ints_rn]
      rintro m env V ⟨j, M, r3, hj, rfl, hM, rfl, rfl⟩
      by_cases hjk : j < q + 1
      · obtain ⟨c', hc'⟩ : ∃ c', d - j = c' + 1 := ⟨d - j - 1, by omega⟩
        rw [hc']
        have hp := run_pop (a + j) c'
        rw [show ((a + j : Nat) : Int) = M by omega] at hp
        generalize hys : ints (run (a + j) (c' + 1)) = ys
        (cbv; repeat' (refine mt (fun _ => ?_) (fun _ => ?_) <;> cbv))
        refine ⟨by simp [o.need_eq, needs]; omega, ?_⟩
        (cbv; repeat' (refine mt (fun _ => ?_) (fun _ => ?_) <;> cbv))
        · subst hys
          rw [hp]
          refine o.evI ((PopSome_ev d M (run (a + j + 1) c') d).mono ?_)
          rintro v V' ⟨rfl, rfl⟩
          generalize hzs : ints (run (a + j + 1) c') = zs
          have hpz := fun ρ => ints_rn ρ (run (a + j + 1) c')
          rw [hzs] at hpz
          (cbv; repeat' (refine mt (fun _ => ?_) (fun _ => ?_) <;> first | (exfalso; rename_i hc; simp [o.cmp_eq, icmp, o.not_eq, o.beq_eq] at hc; first | done | omega) | cbv))
          have e1 : arith .add .i64 M 1 = M + 1 := wrap64 (by omega) (by omega)
          have e5 : d - (j + 1) = c' := by omega
          have e6 : a + (j + 1) = a + j + 1 := by omega
          clear hQ hp hrem
          refine ⟨q + 1 - (j + 1), by omega, o.reI (Re.ren [0, 1] _ _ rfl rfl ?_ ?_ fun r => ⟨j + 1, M + 1, r, by omega, rfl, ⟨by omega, by omega⟩, rfl, rfl⟩)⟩
          · simp_all [fitB, mixOk, rnB, lget, rnL, rn, rho, llen, Plain, assoc, mix, envOf, o.ar_eq, add1 (i := j) (by omega)]
          · rw [e5, e6, hzs]; clear hzs; simp_all [fitB, mixOk, rnB, lget, rnL, rn, rho, llen, Plain, assoc, mix, envOf]
        · rename_i h5
          exfalso
          simp [o.cmp_eq, icmp, o.ar_eq, hrem] at h5
          omega
      · have hjq : j = q + 1 := by omega
        generalize hys : ints (run (a + j) (d - j)) = ys
        (cbv; repeat' (refine mt (fun _ => ?_) (fun _ => ?_) <;> cbv))
        refine ⟨by simp [o.need_eq, needs]; omega, ?_⟩
        (cbv; repeat' (refine mt (fun _ => ?_) (fun _ => ?_) <;> cbv))
        · rename_i h5
          exfalso
          simp [o.cmp_eq, icmp, o.ar_eq, hrem] at h5
          omega
        · subst hys
          have e5 : a + j ≤ 16 * (i + 1) := by omega
          have e6 : 0 ≤ N ∧ N.toNat = a + j + (d - j) := by omega
          have e7 : 0 ≤ M ∧ M.toNat = a + j := by omega
          clear hQ
          refine ⟨T - (i + 1), by omega, o.reI (Re.ren [0, 1] _ _ rfl rfl ?_ ?_ fun r => ⟨i + 1, a + j, d - j, N, M, r, by omega, by omega, e5, rfl, e6, e7, rfl, rfl⟩)⟩
          · clear e5 e6 e7 hrem hM hN; simp_all [fitB, mixOk, rnB, lget, rnL, rn, rho, llen, Plain, assoc, mix, envOf, o.ar_eq, add1 (i := i) (by omega)]
          · simp_all [fitB, mixOk, rnB, lget, rnL, rn, rho, llen, Plain, assoc, mix, envOf, ints_rn]
  · rename_i h1
    subst hys
    refine o.evI ((Len_ev k (run a c) k).mono ?_)
    rintro v V' ⟨rfl, rfl⟩
    rw [run_len]
    generalize hys : ints (run a c) = ys
    have e1 : arith .sub .i64 N A = c := by
      have : arith .sub .i64 N A = N - A := wrap64 (by omega) (by omega)
      rw [this]; omega
    (cbv; repeat' (refine mt (fun _ => ?_) (fun _ => ?_) <;> cbv))
    refine hQ _ _ (ReV.id ?_)
    simp [o.cmp_eq, icmp, o.ar_eq, e1]
end Go.Proofs.Ytebeabcbbcbdhaa
