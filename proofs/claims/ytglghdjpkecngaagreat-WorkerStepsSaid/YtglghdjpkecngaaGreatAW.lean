/- word: what its functions compute. -/
import Derived.Test.YtglghdjpkecngaaGreatAX
import Derived.Test.YtglghdjpkecngaaGreatIRA
namespace Go.Proofs.YtglghdjpkecngaaGreat
set_option linter.unusedVariables false
set_option linter.unusedSimpArgs false
open Go Go.SL Go.FL
set_option maxRecDepth 100000
theorem fit_ev {W0 : World} (n : Int) (m : Nat) (hm : m < 9223372036854775808) : Ev Tryz.prog W0 117 [.int .i64 n, .int .i64 m] [] (fun v V' => v = .int .u64 (fitN n m) ∧ V' = []) := by
  refine Ev.out fun Q' hQ => ev117 rfl fun o => ?_
  (cbv; repeat' (refine mt (fun _ => ?_) (fun _ => ?_) <;> cbv))
  refine hQ _ _ (ReV.none rfl ⟨?_, rfl⟩)
  have e : ((fitN n m : Nat) : Int) = if n ≤ 0 then 0 else if n ≤ m then n else m := by
    unfold fitN
    by_cases h1 : n ≤ 0
    · rw [if_pos h1, show n.toNat = 0 by omega]; simp
    · rw [if_neg h1]
      by_cases h2 : n ≤ m
      · rw [if_pos h2, show Nat.min n.toNat m = n.toNat from Nat.min_eq_left (by omega)]; omega
      · rw [if_neg h2, show Nat.min n.toNat m = m from Nat.min_eq_right (by omega)]
  show _ = VV.int IntKind.u64 (((fitN n m : Nat)) : Int)
  rw [VV.int.injEq]
  refine ⟨rfl, ?_⟩
  rw [e]
  simp only [o.mn_eq, o.mx_eq, o.wr_eq, u64w, Int.ofNat_eq_natCast]
  repeat' split
  all_goals omega
theorem PutHandle_ev {W0 : World} (s : HandleS) : Ev Tryz.prog W0 149 [.agg [.int .i64 s.slot, .int .i64 s.gen]] [] (fun v V' => v = .int .u64 (putHandle s) ∧ V' = []) := by
  refine Ev.out fun Q' hQ => ev149 rfl fun o => ?_
  have hR : putHandle s = fitN s.slot 65535 ||| fitN s.gen 65535 <<< 16 := rfl
  generalize putHandle s = R at *
  have l1 := fitN_le s.slot 65535
  have l2 := fitN_le s.gen 65535
  cbv
  refine Ops.call0 _ (fit_ev s.slot 65535 (by decide)) rfl ?_; rintro v V' ⟨rfl, rfl⟩; simp only [lapp, List.map_nil, rn, rnL]
  generalize fitN s.slot 65535 = x1 at *
  cbv
  refine Ops.call0 _ (fit_ev s.gen 65535 (by decide)) rfl ?_; rintro v V' ⟨rfl, rfl⟩; simp only [lapp, List.map_nil, rn, rnL]
  generalize fitN s.gen 65535 = x2 at *
  (cbv; repeat' (first | (refine ⟨by simp only [Ops.need_eq, needs]; first | rfl | decide, ?_⟩; try cbv) | fail))
  refine hQ _ _ (ReV.none rfl ⟨?_, rfl⟩)
  subst hR
  simp only [o.ar_eq, Int.ofNat_eq_natCast]
  rw [shl64o (c := 65535) (by decide) l2 (by decide), or64 (show x1 < 18446744073709551616 by omega) (shl_lt (c := 65535) l2 (by decide))]
theorem PutSlot_ev {W0 : World} (s : SlotS) : Ev Tryz.prog W0 104 [.agg [.int .i64 s.state, .int .i64 s.addr, .int .i64 s.gen, .int .i64 s.ver]] [] (fun v V' => v = .int .u64 (putSlot s) ∧ V' = []) := by
  refine Ev.out fun Q' hQ => ev104 rfl fun o => ?_
  have hR : putSlot s = fitN s.state 7 ||| fitN s.addr 1048575 <<< 3 ||| fitN s.gen 65535 <<< 23 ||| fitN s.ver 4194303 <<< 39 := rfl
  generalize putSlot s = R at *
  have l1 := fitN_le s.state 7
  have l2 := fitN_le s.addr 1048575
  have l3 := fitN_le s.gen 65535
  have l4 := fitN_le s.ver 4194303
  cbv
  refine Ops.call0 _ (fit_ev s.state 7 (by decide)) rfl ?_; rintro v V' ⟨rfl, rfl⟩; simp only [lapp, List.map_nil, rn, rnL]
  generalize fitN s.state 7 = x1 at *
  cbv
  refine Ops.call0 _ (fit_ev s.addr 1048575 (by decide)) rfl ?_; rintro v V' ⟨rfl, rfl⟩; simp only [lapp, List.map_nil, rn, rnL]
  generalize fitN s.addr 1048575 = x2 at *
  (cbv; repeat' (first | (refine ⟨by simp only [Ops.need_eq, needs]; first | rfl | decide, ?_⟩; try cbv) | fail))
  refine Ops.call0 _ (fit_ev s.gen 65535 (by decide)) rfl ?_; rintro v V' ⟨rfl, rfl⟩; simp only [lapp, List.map_nil, rn, rnL]
  generalize fitN s.gen 65535 = x3 at *
  (cbv; repeat' (first | (refine ⟨by simp only [Ops.need_eq, needs]; first | rfl | decide, ?_⟩; try cbv) | fail))
  refine Ops.call0 _ (fit_ev s.ver 4194303 (by decide)) rfl ?_; rintro v V' ⟨rfl, rfl⟩; simp only [lapp, List.map_nil, rn, rnL]
  generalize fitN s.ver 4194303 = x4 at *
  (cbv; repeat' (first | (refine ⟨by simp only [Ops.need_eq, needs]; first | rfl | decide, ?_⟩; try cbv) | fail))
  refine hQ _ _ (ReV.none rfl ⟨?_, rfl⟩)
  subst hR
  simp only [o.ar_eq, Int.ofNat_eq_natCast]
  rw [shl64o (c := 1048575) (by decide) l2 (by decide), shl64o (c := 65535) (by decide) l3 (by decide), shl64o (c := 4194303) (by decide) l4 (by decide), or64 (show x1 < 18446744073709551616 by omega) (shl_lt (c := 1048575) l2 (by decide)), or64 (or_lt (show x1 < 18446744073709551616 by omega) (shl_lt (c := 1048575) l2 (by decide))) (shl_lt (c := 65535) l3 (by decide)), or64 (or_lt (or_lt (show x1 < 18446744073709551616 by omega) (shl_lt (c := 1048575) l2 (by decide))) (shl_lt (c := 65535) l3 (by decide))) (shl_lt (c := 4194303) l4 (by decide))]
theorem PutChunk_ev {W0 : World} (s : ChunkS) : Ev Tryz.prog W0 159 [.agg [.int .i64 s.state, .int .i64 s.cls, .int .i64 s.used, .int .i64 s.stamp]] [] (fun v V' => v = .int .u64 (putChunk s) ∧ V' = []) := by
  refine Ev.out fun Q' hQ => ev159 rfl fun o => ?_
  have hR : putChunk s = fitN s.state 3 ||| fitN s.cls 63 <<< 2 ||| fitN s.used 1048575 <<< 8 ||| fitN s.stamp 68719476735 <<< 28 := rfl
  generalize putChunk s = R at *
  have l1 := fitN_le s.state 3
  have l2 := fitN_le s.cls 63
  have l3 := fitN_le s.used 1048575
  have l4 := fitN_le s.stamp 68719476735
  cbv
  refine Ops.call0 _ (fit_ev s.state 3 (by decide)) rfl ?_; rintro v V' ⟨rfl, rfl⟩; simp only [lapp, List.map_nil, rn, rnL]
  generalize fitN s.state 3 = x1 at *
  cbv
  refine Ops.call0 _ (fit_ev s.cls 63 (by decide)) rfl ?_; rintro v V' ⟨rfl, rfl⟩; simp only [lapp, List.map_nil, rn, rnL]
  generalize fitN s.cls 63 = x2 at *
  (cbv; repeat' (first | (refine ⟨by simp only [Ops.need_eq, needs]; first | rfl | decide, ?_⟩; try cbv) | fail))
  refine Ops.call0 _ (fit_ev s.used 1048575 (by decide)) rfl ?_; rintro v V' ⟨rfl, rfl⟩; simp only [lapp, List.map_nil, rn, rnL]
  generalize fitN s.used 1048575 = x3 at *
  (cbv; repeat' (first | (refine ⟨by simp only [Ops.need_eq, needs]; first | rfl | decide, ?_⟩; try cbv) | fail))
  refine Ops.call0 _ (fit_ev s.stamp 68719476735 (by decide)) rfl ?_; rintro v V' ⟨rfl, rfl⟩; simp only [lapp, List.map_nil, rn, rnL]
  generalize fitN s.stamp 68719476735 = x4 at *
  (cbv; repeat' (first | (refine ⟨by simp only [Ops.need_eq, needs]; first | rfl | decide, ?_⟩; try cbv) | fail))
  refine hQ _ _ (ReV.none rfl ⟨?_, rfl⟩)
  subst hR
  simp only [o.ar_eq, Int.ofNat_eq_natCast]
  rw [shl64o (c := 63) (by decide) l2 (by decide), shl64o (c := 1048575) (by decide) l3 (by decide), shl64o (c := 68719476735) (by decide) l4 (by decide), or64 (show x1 < 18446744073709551616 by omega) (shl_lt (c := 63) l2 (by decide)), or64 (or_lt (show x1 < 18446744073709551616 by omega) (shl_lt (c := 63) l2 (by decide))) (shl_lt (c := 1048575) l3 (by decide)), or64 (or_lt (or_lt (show x1 < 18446744073709551616 by omega) (shl_lt (c := 63) l2 (by decide))) (shl_lt (c := 1048575) l3 (by decide))) (shl_lt (c := 68719476735) l4 (by decide))]
theorem Slot_ev {W0 : World} (w : Nat) : Ev Tryz.prog W0 70 [.int .u64 w] [] (fun v V' => v = .agg [.int .i64 (slotOf w).state, .int .i64 (slotOf w).addr, .int .i64 (slotOf w).gen, .int .i64 (slotOf w).ver] ∧ V' = []) := by
  refine Ev.out fun Q' hQ => ev70 rfl fun o => ?_
  generalize hR : slotOf w = R at hQ
  (cbv; repeat' (first | (refine ⟨by simp only [Ops.need_eq, needs]; first | rfl | decide, ?_⟩; try cbv) | fail))
  refine hQ _ _ (ReV.none rfl ⟨?_, rfl⟩)
  subst hR
  simp only [o.ar_eq, o.wr_eq, o.cmp_eq, icmp, Int.ofNat_eq_natCast, slotOf]
  simp only [shr64o (show 2 ≤ 64 by decide), shr64o (show 3 ≤ 64 by decide), shr64o (show 8 ≤ 64 by decide), shr64o (show 18 ≤ 64 by decide), shr64o (show 23 ≤ 64 by decide), shr64o (show 28 ≤ 64 by decide), shr64o (show 34 ≤ 64 by decide), shr64o (show 39 ≤ 64 by decide), shr64o (show 50 ≤ 64 by decide)]
  rw [and64o (m := 7) (by decide), and64o (m := 1048575) (by decide), and64o (m := 65535) (by decide), and64o (m := 4194303) (by decide), wrap_and (m := 7) (by decide), wrap_and (m := 1048575) (by decide), wrap_and (m := 65535) (by decide), wrap_and (m := 4194303) (by decide)]
theorem Chunk_ev {W0 : World} (w : Nat) : Ev Tryz.prog W0 155 [.int .u64 w] [] (fun v V' => v = .agg [.int .i64 (chunkOf w).state, .int .i64 (chunkOf w).cls, .int .i64 (chunkOf w).used, .int .i64 (chunkOf w).stamp] ∧ V' = []) := by
  refine Ev.out fun Q' hQ => ev155 rfl fun o => ?_
  generalize hR : chunkOf w = R at hQ
  (cbv; repeat' (first | (refine ⟨by simp only [Ops.need_eq, needs]; first | rfl | decide, ?_⟩; try cbv) | fail))
  refine hQ _ _ (ReV.none rfl ⟨?_, rfl⟩)
  subst hR
  simp only [o.ar_eq, o.wr_eq, o.cmp_eq, icmp, Int.ofNat_eq_natCast, chunkOf]
  simp only [shr64o (show 2 ≤ 64 by decide), shr64o (show 3 ≤ 64 by decide), shr64o (show 8 ≤ 64 by decide), shr64o (show 18 ≤ 64 by decide), shr64o (show 23 ≤ 64 by decide), shr64o (show 28 ≤ 64 by decide), shr64o (show 34 ≤ 64 by decide), shr64o (show 39 ≤ 64 by decide), shr64o (show 50 ≤ 64 by decide)]
  rw [and64o (m := 3) (by decide), and64o (m := 63) (by decide), and64o (m := 1048575) (by decide), and64o (m := 68719476735) (by decide), wrap_and (m := 3) (by decide), wrap_and (m := 63) (by decide), wrap_and (m := 1048575) (by decide), wrap_and (m := 68719476735) (by decide)]
theorem Head_ev {W0 : World} (w : Nat) : Ev Tryz.prog W0 165 [.int .u64 w] [] (fun v V' => v = .agg [.int .i64 (headOf w).kind, .int .i64 (headOf w).size, .int .i64 (headOf w).slot, .int .i64 (headOf w).gen, .bool (headOf w).own] ∧ V' = []) := by
  refine Ev.out fun Q' hQ => ev165 rfl fun o => ?_
  generalize hR : headOf w = R at hQ
  (cbv; repeat' (first | (refine ⟨by simp only [Ops.need_eq, needs]; first | rfl | decide, ?_⟩; try cbv) | fail))
  refine hQ _ _ (ReV.none rfl ⟨?_, rfl⟩)
  subst hR
  simp only [o.ar_eq, o.wr_eq, o.cmp_eq, icmp, Int.ofNat_eq_natCast, headOf]
  simp only [shr64o (show 2 ≤ 64 by decide), shr64o (show 3 ≤ 64 by decide), shr64o (show 8 ≤ 64 by decide), shr64o (show 18 ≤ 64 by decide), shr64o (show 23 ≤ 64 by decide), shr64o (show 28 ≤ 64 by decide), shr64o (show 34 ≤ 64 by decide), shr64o (show 39 ≤ 64 by decide), shr64o (show 50 ≤ 64 by decide)]
  simp only [and64o (m := 3) (by decide), and64o (m := 65535) (by decide), and64o (m := 1) (by decide), beq_nato _ 1]
  rw [wrap_and (m := 3) (by decide), wrap_and (m := 65535) (by decide), wrap_and (m := 65535) (by decide), wrap_and (m := 65535) (by decide)]
theorem Handle_ev {W0 : World} (n : Nat) : Ev Tryz.prog W0 68 [.int .u64 n] [] (fun v V' => v = .tup [.agg [.int .i64 (handleOf n).1.slot, .int .i64 (handleOf n).1.gen], .bool (handleOf n).2] ∧ V' = []) := by
  refine Ev.out fun Q' hQ => ev68 rfl fun o => ?_
  generalize hR : handleOf n = R at hQ
  have hz : ∀ k : Nat, k ≤ 64 → ((((n >>> k : Nat) : Int) == 0) = Nat.beq (n >>> k) 0) := fun k _ => beq_nato (n >>> k) 0
  (cbv; repeat' (first | (refine ⟨by simp only [Ops.need_eq, needs]; first | rfl | decide, ?_⟩; try cbv) | (refine mt (fun _ => ?_) (fun _ => ?_) <;> (try cbv))))
  all_goals simp only [o.ar_eq, o.cmp_eq, icmp, Int.ofNat_eq_natCast, shr64o (show 32 ≤ 64 by decide), shr64o (show 16 ≤ 64 by decide), bne_nato _ 0, beq_nato _ 0] at *
  · rename_i h
    have h1 : n >>> 32 ≠ 0 := beq_false.1 (by simpa only [Bool.not_eq_true'] using h)
    refine hQ _ _ (ReV.none rfl ⟨?_, rfl⟩)
    subst hR; simp [handleOf, h1]
  · rename_i h h2
    have h1 : n >>> 16 = 0 := beq_true.1 h2
    refine hQ _ _ (ReV.none rfl ⟨?_, rfl⟩)
    subst hR; simp [handleOf, h1]
  · rename_i h h2
    have h1 : n >>> 32 = 0 := beq_true.1 (by simpa only [Bool.not_eq_false'] using h)
    have h3 : n >>> 16 ≠ 0 := beq_false.1 h2
    have h4 : n >>> 16 < 65536 := by rw [Nat.shiftRight_eq_div_pow] at h1 ⊢; omega
    refine hQ _ _ (ReV.none rfl ⟨?_, rfl⟩)
    subst hR
    rw [o.wr_eq, and64o (by decide), wrap_and (by decide), w64_id (by omega) (by omega)]
    simp [handleOf, h1, h3]
theorem PutHead_ev {W0 : World} (s : HeadS) : Ev Tryz.prog W0 151 [.agg [.int .i64 s.kind, .int .i64 s.size, .int .i64 s.slot, .int .i64 s.gen, .bool s.own]] [] (fun v V' => v = .int .u64 (putHead s) ∧ V' = []) := by
  refine Ev.out fun Q' hQ => ev151 rfl fun o => ?_
  have hR : putHead s = if s.own then fitN s.kind 3 ||| fitN s.size 65535 <<< 2 ||| fitN s.slot 65535 <<< 18 ||| fitN s.gen 65535 <<< 34 ||| 1125899906842624 else fitN s.kind 3 ||| fitN s.size 65535 <<< 2 ||| fitN s.slot 65535 <<< 18 ||| fitN s.gen 65535 <<< 34 := rfl
  generalize putHead s = R at *
  have l1 := fitN_le s.kind 3
  have l2 := fitN_le s.size 65535
  have l3 := fitN_le s.slot 65535
  have l4 := fitN_le s.gen 65535
  cbv
  refine Ops.call0 _ (fit_ev s.kind 3 (by decide)) rfl ?_; rintro v V' ⟨rfl, rfl⟩; simp only [lapp, List.map_nil, rn, rnL]
  generalize fitN s.kind 3 = x1 at *
  cbv
  refine Ops.call0 _ (fit_ev s.size 65535 (by decide)) rfl ?_; rintro v V' ⟨rfl, rfl⟩; simp only [lapp, List.map_nil, rn, rnL]
  generalize fitN s.size 65535 = x2 at *
  (cbv; repeat' (first | (refine ⟨by simp only [Ops.need_eq, needs]; first | rfl | decide, ?_⟩; try cbv) | fail))
  refine Ops.call0 _ (fit_ev s.slot 65535 (by decide)) rfl ?_; rintro v V' ⟨rfl, rfl⟩; simp only [lapp, List.map_nil, rn, rnL]
  generalize fitN s.slot 65535 = x3 at *
  (cbv; repeat' (first | (refine ⟨by simp only [Ops.need_eq, needs]; first | rfl | decide, ?_⟩; try cbv) | fail))
  refine Ops.call0 _ (fit_ev s.gen 65535 (by decide)) rfl ?_; rintro v V' ⟨rfl, rfl⟩; simp only [lapp, List.map_nil, rn, rnL]
  generalize fitN s.gen 65535 = x4 at *
  (cbv; repeat' (first | (refine ⟨by simp only [Ops.need_eq, needs]; first | rfl | decide, ?_⟩; try cbv) | (refine mt (fun _ => ?_) (fun _ => ?_) <;> (try cbv))))
  · rename_i h
    rw [if_pos h] at hR
    refine hQ _ _ (ReV.none rfl ⟨?_, rfl⟩)
    subst hR
    simp only [o.ar_eq, Int.ofNat_eq_natCast]
    rw [shl64o (c := 65535) (by decide) l2 (by decide), shl64o (c := 65535) (by decide) l3 (by decide), shl64o (c := 65535) (by decide) l4 (by decide), or64 (show x1 < 18446744073709551616 by omega) (shl_lt (c := 65535) l2 (by decide)), or64 (or_lt (show x1 < 18446744073709551616 by omega) (shl_lt (c := 65535) l2 (by decide))) (shl_lt (c := 65535) l3 (by decide)), or64 (or_lt (or_lt (show x1 < 18446744073709551616 by omega) (shl_lt (c := 65535) l2 (by decide))) (shl_lt (c := 65535) l3 (by decide))) (shl_lt (c := 65535) l4 (by decide)), or64o (or_lt (or_lt (or_lt (show x1 < 18446744073709551616 by omega) (shl_lt (c := 65535) l2 (by decide))) (shl_lt (c := 65535) l3 (by decide))) (shl_lt (c := 65535) l4 (by decide))) (by decide)]
  · rename_i h
    rw [if_neg (by rw [h]; decide)] at hR
    refine hQ _ _ (ReV.none rfl ⟨?_, rfl⟩)
    subst hR
    simp only [o.ar_eq, Int.ofNat_eq_natCast]
    rw [shl64o (c := 65535) (by decide) l2 (by decide), shl64o (c := 65535) (by decide) l3 (by decide), shl64o (c := 65535) (by decide) l4 (by decide), or64 (show x1 < 18446744073709551616 by omega) (shl_lt (c := 65535) l2 (by decide)), or64 (or_lt (show x1 < 18446744073709551616 by omega) (shl_lt (c := 65535) l2 (by decide))) (shl_lt (c := 65535) l3 (by decide)), or64 (or_lt (or_lt (show x1 < 18446744073709551616 by omega) (shl_lt (c := 65535) l2 (by decide))) (shl_lt (c := 65535) l3 (by decide))) (shl_lt (c := 65535) l4 (by decide))]
theorem PutCell_ev {W0 : World} (s : CellS) : Ev Tryz.prog W0 172 [.agg [.int .i64 s.value, .bool s.frozen, .int .i64 s.ver]] [] (fun v V' => v = .int .u64 (putCell s) ∧ V' = []) := by
  refine Ev.out fun Q' hQ => ev172 rfl fun o => ?_
  have hR : putCell s = if s.frozen then fitN s.value 1099511627775 ||| (9223372036854775808 ||| fitN s.ver 4194303 <<< 40) else fitN s.value 1099511627775 := rfl
  generalize putCell s = R at *
  have l1 := fitN_le s.value 1099511627775
  have l2 := fitN_le s.ver 4194303
  cbv
  refine Ops.call0 _ (fit_ev s.value 1099511627775 (by decide)) rfl ?_; rintro v V' ⟨rfl, rfl⟩; simp only [lapp, List.map_nil, rn, rnL]
  generalize fitN s.value 1099511627775 = x1 at *
  (cbv; repeat' (first | (refine mt (fun _ => ?_) (fun _ => ?_) <;> (try cbv)) | fail))
  · rename_i h
    rw [if_pos h] at hR
    refine Ops.call0 _ (fit_ev s.ver 4194303 (by decide)) rfl ?_; rintro v V' ⟨rfl, rfl⟩; simp only [lapp, List.map_nil, rn, rnL]
    generalize fitN s.ver 4194303 = x2 at *
    (cbv; repeat' (first | (refine ⟨by simp only [Ops.need_eq, needs]; first | rfl | decide, ?_⟩; try cbv) | fail))
    refine hQ _ _ (ReV.none rfl ⟨?_, rfl⟩)
    subst hR
    simp only [o.ar_eq, Int.ofNat_eq_natCast]
    have e1 : arith .or .u64 9223372036854775808 ((x2 <<< 40 : Nat) : Int) = ((9223372036854775808 ||| x2 <<< 40 : Nat) : Int) := or64 (a := 9223372036854775808) (by decide) (shl_lt (c := 4194303) l2 (by decide))
    rw [shl64o (c := 4194303) (by decide) l2 (by decide), e1, or64 (by omega) (or_lt (by decide) (shl_lt (c := 4194303) l2 (by decide)))]
  · rename_i h
    rw [if_neg (by rw [h]; decide)] at hR
    refine hQ _ _ (ReV.none rfl ⟨?_, rfl⟩)
    subst hR; rfl
theorem Cell_ev {W0 : World} (w : Nat) : Ev Tryz.prog W0 69 [.int .u64 w] [] (fun v V' => v = .agg [.int .i64 (cellOf w).value, .bool (cellOf w).frozen, .int .i64 (cellOf w).ver] ∧ V' = []) := by
  refine Ev.out fun Q' hQ => ev69 rfl fun o => ?_
  (cbv; repeat' (first | (refine ⟨by simp only [Ops.need_eq, needs]; first | rfl | decide, ?_⟩; try cbv) | (refine mt (fun _ => ?_) (fun _ => ?_) <;> (try cbv))))
  all_goals simp only [o.ar_eq, o.cmp_eq, o.wr_eq, icmp, Int.ofNat_eq_natCast, shr64o (show 63 ≤ 64 by decide), shr64o (show 40 ≤ 64 by decide), beq_nato _ 1, and64o (m := 1099511627775) (by decide), and64o (m := 4194303) (by decide)] at *
  · rename_i h
    refine hQ _ _ (ReV.none rfl ⟨?_, rfl⟩)
    rw [wrap_and (by decide), wrap_and (by decide)]
    simp only [cellOf]
    rw [if_pos h]
  · rename_i h
    refine hQ _ _ (ReV.none rfl ⟨?_, rfl⟩)
    rw [wrap_and (by decide)]
    simp only [cellOf]
    rw [if_neg (by rw [h]; decide)]
theorem PutTop_ev {W0 : World} (s c : Int) : Ev Tryz.prog W0 105 [.int .i64 s, .int .i64 c] [] (fun v V' => v = .int .u64 (putTop s c) ∧ V' = []) := by
  refine Ev.out fun Q' hQ => ev105 rfl fun o => ?_
  have hR : putTop s c = fitN (w64 (min s 65535 + 1)) 65536 ||| fitN c 68719476735 <<< 17 := rfl
  generalize putTop s c = R at *
  have l1 := fitN_le (w64 (min s 65535 + 1)) 65536
  have l2 := fitN_le c 68719476735
  cbv
  have e : arith .add .i64 (if 65535 < s then 65535 else s) 1 = w64 (min s 65535 + 1) := by
    simp only [arith, Int.min_def]; congr 1; split <;> split <;> omega
  simp only [o.ar_eq, o.mn_eq]
  rw [e]
  refine Ops.call0 _ (fit_ev (w64 (min s 65535 + 1)) 65536 (by decide)) rfl ?_; rintro v V' ⟨rfl, rfl⟩; simp only [lapp, List.map_nil, rn, rnL]
  generalize fitN (w64 (min s 65535 + 1)) 65536 = x1 at *
  cbv
  refine Ops.call0 _ (fit_ev c 68719476735 (by decide)) rfl ?_; rintro v V' ⟨rfl, rfl⟩; simp only [lapp, List.map_nil, rn, rnL]
  generalize fitN c 68719476735 = x2 at *
  (cbv; repeat' (first | (refine ⟨by simp only [Ops.need_eq, needs]; first | rfl | decide, ?_⟩; try cbv) | fail))
  refine hQ _ _ (ReV.none rfl ⟨?_, rfl⟩)
  subst hR
  simp only [o.ar_eq, Int.ofNat_eq_natCast]
  rw [shl64o (c := 68719476735) (by decide) l2 (by decide), or64 (by omega) (shl_lt (c := 68719476735) l2 (by decide))]
theorem Top_ev {W0 : World} (w : Nat) : Ev Tryz.prog W0 152 [.int .u64 w] [] (fun v V' => v = .tup [.int .i64 (topSlot w), .int .i64 (topCount w)] ∧ V' = []) := by
  refine Ev.out fun Q' hQ => ev152 rfl fun o => ?_
  (cbv; repeat' (first | (refine ⟨by simp only [Ops.need_eq, needs]; first | rfl | decide, ?_⟩; try cbv) | fail))
  refine hQ _ _ (ReV.none rfl ⟨?_, rfl⟩)
  simp only [o.ar_eq, o.cmp_eq, o.wr_eq, Int.ofNat_eq_natCast, shr64o (show 17 ≤ 64 by decide), and64o (m := 131071) (by decide), and64o (m := 68719476735) (by decide)]
  rw [wrap_and (by decide), wrap_and (by decide)]
  have h : w &&& 131071 ≤ 131071 := Nat.and_le_right
  simp only [topSlot, topCount, arith]
  rw [w64_id (by omega) (by omega)]
end Go.Proofs.YtglghdjpkecngaaGreat
