/- shelf: ShelfOf, what it tells. -/
import Derived.Test.YtmkoagmnkogeoaaSG
import Derived.Test.YtmkoagmnkogeoaaSGa
namespace Go.Proofs.Ytmkoagmnkogeoaa
set_option linter.unusedVariables false
set_option linter.unusedSimpArgs false
open Go Go.SL
set_option maxRecDepth 100000
theorem ShelfOf_ev {W0 : World} (key lists : Int) : Ev Try.prog W0 3 [.int .i64 key, .int .i64 lists] [] (fun v V' => v = .bool true ∧ V' = []) := by
  refine Ev.out fun Q' hQ => ev3 rfl fun o => ?_
  obtain ⟨n, hn, he⟩ := and_mask lists 65535 (by decide)
  (cbv; repeat' (refine mt (fun _ => ?_) (fun _ => ?_) <;> cbv))
  simp only [o.ar_eq]
  rw [show arith .and .i64 lists 65535 = (n : Int) from he]
  have hh := @ofS_lt key n
  have h0 : n = 0 → ofS key n = 0 := by rintro rfl; rfl
  refine o.call0 (Of_ev key n (by omega)) rfl ?_
  rintro v V' ⟨rfl, rfl⟩
  generalize hr : ofS key n = r at *
  have hr0 : 0 ≤ r := by by_cases hz : n = 0 <;> omega
  have hr1 : ¬ ((n : Int) = 0) → r < (n : Int) := by intro hz; omega
  have hs : arith .sub .i64 (-1) (n : Int) = -1 - (n : Int) := wrap64 (by omega) (by omega)
  have hlast : ofS key (-1 - (n : Int)) = 0 := by unfold ofS; rw [if_pos (by omega)]
  have hle : -1 - (n : Int) ≤ 65535 := by omega
  clear hh h0 he
  (cbv; repeat' (refine mt (fun _ => ?_) (fun _ => ?_) <;> cbv))
  refine o.call0 awake17_yes rfl ?_
  rintro v V' ⟨rfl, rfl⟩
  (cbv; repeat' (refine mt (fun _ => ?_) (fun _ => ?_) <;> cbv))
  refine o.call0 (lawOf_ev key n (by omega)) rfl ?_
  rintro v V' ⟨rfl, rfl⟩
  rw [hr]
  (cbv; repeat' (refine mt (fun _ => ?_) (fun _ => ?_) <;> cbv))
  all_goals simp only [o.ar_eq, o.cmp_eq, icmp, Int.ofNat_eq_natCast] at *
  all_goals try (exfalso; rename_i h; simp at h; done)
  all_goals try (exfalso; rename_i h; simp at h; omega)
  all_goals try (exfalso; rename_i h1 h; have h3 := of_decide_eq_false h; have h4 : ¬ (n : Int) = 0 := (by intro e; rw [e] at h1; cases h1); exact h3 (hr1 h4))
  all_goals
    rw [hs]
    refine o.call0 (Of_ev key _ hle) rfl ?_
    rintro v V' ⟨rfl, rfl⟩
    rw [hlast]
    (cbv; repeat' (refine mt (fun _ => ?_) (fun _ => ?_) <;> cbv))
    refine hQ _ _ (ReV.none rfl ⟨?_, rfl⟩)
    simp [icmp, o.cmp_eq]
end Go.Proofs.Ytmkoagmnkogeoaa
