/- queue: awake, QueueNone, QueueAll. -/
import Derived.Test.YtebeabcbbcbdhaaQQ
namespace Go.Proofs.Ytebeabcbbcbdhaa
set_option linter.unusedVariables false
set_option linter.unusedSimpArgs false
open Go Go.SL
set_option maxRecDepth 100000
theorem qawake_ev {W0 : World} : Ev Try.prog W0 18 [] [] (fun v V' => v = .bool true ∧ V' = []) := by
  refine Ev.out fun Q' hQ => ev18 rfl fun o => ?_
  (cbv; repeat' (refine mt (fun _ => ?_) (fun _ => ?_) <;> cbv))
  refine o.call0 (New_ev 2) rfl ?_
  rintro v V' ⟨h, _⟩
  obtain ⟨rfl, rfl⟩ := h (by decide)
  clear h
  simp only [List.length_nil, List.map_cons, List.map_nil, rnB, rnL, rn, ints_rn]
  generalize h0 : ints [] = l0
  (cbv; repeat' (refine mt (fun _ => ?_) (fun _ => ?_) <;> cbv))
  subst h0
  refine o.evI ((PushOk_ev 2 [] 2 7 (by decide)).mono ?_)
  rintro v V' ⟨rfl, rfl⟩
  simp only [List.nil_append]
  generalize h0 : ints [7] = l0
  (cbv; repeat' (refine mt (fun _ => ?_) (fun _ => ?_) <;> cbv))
  subst h0
  refine o.evI ((PushOk_ev 2 [7] 2 8 (by decide)).mono ?_)
  rintro v V' ⟨rfl, rfl⟩
  simp only [List.cons_append, List.nil_append]
  generalize h0 : ints [7, 8] = l0
  (cbv; repeat' (refine mt (fun _ => ?_) (fun _ => ?_) <;> cbv))
  subst h0
  refine o.evI ((PushFull_ev 2 [7, 8] 2 9 (by decide)).mono ?_)
  rintro v V' ⟨rfl, rfl⟩
  generalize h0 : ints [7, 8] = l0
  (cbv; repeat' (refine mt (fun _ => ?_) (fun _ => ?_) <;> cbv))
  subst h0
  refine o.evI ((PopSome_ev 2 7 [8] 2).mono ?_)
  rintro v V' ⟨rfl, rfl⟩
  generalize h0 : ints [8] = l0
  (cbv; repeat' (refine mt (fun _ => ?_) (fun _ => ?_) <;> first | (exfalso; rename_i hc; simp [o.cmp_eq, icmp, o.not_eq, o.beq_eq] at hc; first | done | omega) | cbv))
  subst h0
  refine o.evI ((Len_ev 2 [8] 2).mono ?_)
  rintro v V' ⟨rfl, rfl⟩
  simp only [List.length_cons, List.length_nil]
  generalize h0 : ints [8] = l0
  (cbv; repeat' (refine mt (fun _ => ?_) (fun _ => ?_) <;> first | (exfalso; rename_i hc; simp [o.cmp_eq, icmp, o.not_eq, o.beq_eq] at hc; first | done | omega) | cbv))
  subst h0
  refine o.evI ((Room_ev 2 [8] 2 (by decide) (by decide) (by decide)).mono ?_)
  rintro v V' ⟨rfl, rfl⟩
  simp only [List.length_cons, List.length_nil]
  generalize h0 : ints [8] = l0
  (cbv; repeat' (refine mt (fun _ => ?_) (fun _ => ?_) <;> first | (exfalso; rename_i hc; simp [o.cmp_eq, icmp, o.not_eq, o.beq_eq] at hc; first | done | omega) | cbv))
  exact hQ _ _ (ReV.none rfl ⟨by simp [o.cmp_eq, icmp], rfl⟩)
theorem QueueNone_ev {W0 : World} (n x : Int) : Ev Try.prog W0 10 [.int .i64 n, .int .i64 x] [] (fun v V' => v = .bool true ∧ V' = []) := by
  refine Ev.out fun Q' hQ => ev10 rfl fun o => ?_
  (cbv; repeat' (refine mt (fun _ => ?_) (fun _ => ?_) <;> cbv))
  refine o.call0 PopNil_ev rfl ?_
  rintro v V' ⟨rfl, rfl⟩
  (cbv; repeat' (refine mt (fun _ => ?_) (fun _ => ?_) <;> cbv))
  obtain ⟨k, hk, he⟩ := and_mask n 511 (by decide)
  simp only [o.ar_eq]
  rw [show arith .and .i64 n 511 = (k : Int) from he]
  clear he
  refine o.call0 (New_ev k) rfl ?_
  rintro v V' ⟨h1, h2⟩
  by_cases hk2 : (1 : Int) ≤ k ∧ (k : Int) ≤ 256
  · obtain ⟨rfl, rfl⟩ := h1 hk2
    clear h1 h2
    simp only [List.length_nil, List.map_cons, List.map_nil, rnB, rnL, rn, ints_rn, Int.toNat_natCast]
    generalize h0 : ints [] = l0
    (cbv; repeat' (refine mt (fun _ => ?_) (fun _ => ?_) <;> cbv))
    refine o.call0 qawake_ev rfl ?_
    rintro v V' ⟨rfl, rfl⟩
    (cbv; repeat' (refine mt (fun _ => ?_) (fun _ => ?_) <;> cbv))
    refine o.call0 (PushNil_ev x) rfl ?_
    rintro v V' ⟨rfl, rfl⟩
    (cbv; repeat' (refine mt (fun _ => ?_) (fun _ => ?_) <;> first | (exfalso; rename_i hc; simp [o.cmp_eq, icmp, o.not_eq, o.beq_eq] at hc; first | done | omega) | cbv))
    refine o.call0 LenNil_ev rfl ?_
    rintro v V' ⟨rfl, rfl⟩
    (cbv; repeat' (refine mt (fun _ => ?_) (fun _ => ?_) <;> first | (exfalso; rename_i hc; simp [o.cmp_eq, icmp, o.not_eq, o.beq_eq] at hc; first | done | omega) | cbv))
    refine o.call0 RoomNil_ev rfl ?_
    rintro v V' ⟨rfl, rfl⟩
    (cbv; repeat' (refine mt (fun _ => ?_) (fun _ => ?_) <;> first | (exfalso; rename_i hc; simp [o.cmp_eq, icmp, o.not_eq, o.beq_eq] at hc; first | done | omega) | cbv))
    all_goals first
      | (refine hQ _ _ (ReV.none rfl ⟨?_, rfl⟩); simp [o.beq_eq, o.not_eq, o.cmp_eq, icmp]; done)
      | (exfalso; simp_all [o.beq_eq, o.not_eq, o.cmp_eq, icmp] <;> first | omega | grind)
  · obtain ⟨rfl, rfl⟩ := h2 hk2
    clear h1 h2
    have hk3 : k = 0 ∨ 256 < k := by omega
    clear hk2
    (cbv; repeat' (refine mt (fun _ => ?_) (fun _ => ?_) <;> cbv))
    refine o.call0 qawake_ev rfl ?_
    rintro v V' ⟨rfl, rfl⟩
    (cbv; repeat' (refine mt (fun _ => ?_) (fun _ => ?_) <;> cbv))
    refine o.call0 (PushNil_ev x) rfl ?_
    rintro v V' ⟨rfl, rfl⟩
    (cbv; repeat' (refine mt (fun _ => ?_) (fun _ => ?_) <;> first | (exfalso; rename_i hc; simp [o.cmp_eq, icmp, o.not_eq, o.beq_eq] at hc; first | done | omega) | cbv))
    refine o.call0 LenNil_ev rfl ?_
    rintro v V' ⟨rfl, rfl⟩
    (cbv; repeat' (refine mt (fun _ => ?_) (fun _ => ?_) <;> first | (exfalso; rename_i hc; simp [o.cmp_eq, icmp, o.not_eq, o.beq_eq] at hc; first | done | omega) | cbv))
    refine o.call0 RoomNil_ev rfl ?_
    rintro v V' ⟨rfl, rfl⟩
    (cbv; repeat' (refine mt (fun _ => ?_) (fun _ => ?_) <;> first | (exfalso; rename_i hc; simp [o.cmp_eq, icmp, o.not_eq, o.beq_eq] at hc; first | done | omega) | cbv))
    all_goals first
      | (refine hQ _ _ (ReV.none rfl ⟨?_, rfl⟩); simp [o.beq_eq, o.not_eq, o.cmp_eq, icmp]; done)
      | (exfalso; simp_all [o.beq_eq, o.not_eq, o.cmp_eq, icmp] <;> first | omega | grind)
end Go.Proofs.Ytebeabcbbcbdhaa
