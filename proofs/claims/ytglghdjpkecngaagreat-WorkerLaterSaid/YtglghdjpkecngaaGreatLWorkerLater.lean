/- WorkerLater, the row: whatever the input the law is true, and the input reads as it did. No condition is laid beyond the statement's own. -/
import Derived.Test.YtglghdjpkecngaaGreatEQ
import Derived.Test.YtglghdjpkecngaaGreatSLr
import Derived.Test.YtglghdjpkecngaaGreatRows
import Derived.Test.YtglghdjpkecngaaGreatRW
import Derived.WalkKit
import Derived.ProofKit
import Derived.OpenShut
import Derived.ShutString
import Derived.ChangeOld
import Derived.Below
import Derived.SizedLaws
namespace Go.Proofs.YtglghdjpkecngaaGreat.workerLater
set_option linter.unusedVariables false
set_option linter.unusedSimpArgs false
open Go Go.SL Go.ChangeShapes Go.WideShapes Go.ChangeAt Go.RowKit
open Go.ChangeMaps (open_string shut_string)
theorem own : ownKnob Tryz.prog.godebug = none := by kernel_rfl
theorem laidOut : laidOutB Tryz.prog = true := by kernel_rfl
theorem nat_of_u {x : Int} (h : (Lit.int .u64 x).wf = true) : ∃ n : Nat, x = n := by
  have : 0 ≤ x := by simp [Lit.wf, IntKind.min, IntKind.signed] at h; omega
  exact ⟨x.toNat, by omega⟩
set_option maxRecDepth 100000 in
theorem lifted (os : Os) (started : os.Started) (H : Type) (enc : TypeId × Value → H) :
    ReturnsInHanded {} Tryz.checked os 18 .any (Rows.workerLaterSpec.pre6 enc Tryz.prog Tryz.f18 Rows.workerLaterRow.domain false) (Rows.workerLaterSpec.post enc Tryz.prog Tryz.f18 false true false false) := by
  refine returnsInHanded_of_change_sized (C := Tryz.checked) own started (by kernel_rfl) Tryz.func18
    (ChangeSpec.witness6 (enc := enc) (C := Tryz.checked) false ⟨#[], #[.int .i64 0, .int .i64 0], []⟩ 8 (by kernel_rfl) (by kernel_rfl) (by kernel_rfl) (by kernel_rfl)) ?_
  intro W base args ds gs before hval0 hW hcnd hsz0 _
  have hval : ∀ (j : Nat) t v, Tryz.f18.params[j]? = some t → args[j]? = some v → Value.okWide Tryz.prog W .any base t v := hval0
  have hW' := hW
  obtain ⟨p, q, hA0, hV, rfl, hfz, hnd⟩ := hW
  have hA : DataW.TrodAll enc Tryz.prog W 0 (fun _ => true) true Tryz.f18.params.toList args.toList ds p := hA0
  rw [Tryz.params18] at hA hval
  obtain ⟨v0, vs0, d0, ds0, p0, q0, hargs, rfl, rfl, h0, r0⟩ := trodAll_cons hA
  obtain ⟨v1, vs1, d1, ds1, p1, q1, rfl, rfl, rfl, h1, r1⟩ := trodAll_cons r0
  obtain ⟨rfl, rfl, rfl⟩ := trodAll_nil r1
  obtain rfl : args = #[v0, v1] := by cases args; simp_all
  obtain ⟨rfl, rfl⟩ := trodVars_none hV
  have k0 := h0
  have k1 := h1
  have lt0 : ∀ x ∈ p0, x.block < W.heap.size := by obtain ⟨m, hm⟩ := k0; exact DataW.trod_lt m _ _ _ hm
  have lt1 : ∀ x ∈ p1, x.block < W.heap.size := by obtain ⟨m, hm⟩ := k1; exact DataW.trod_lt m _ _ _ hm
  obtain ⟨a0, rfl, _, _, w0⟩ := open_int Tryz.underlying3 (hval 0 3 v0 rfl rfl) h0
  obtain ⟨a1, rfl, _, _, w1⟩ := open_int Tryz.underlying3 (hval 1 3 v1 rfl rfl) h1
  refine ((WorkerLater_ev a0 a1).law (by first | exact fun _ _ h => h | exact fun _ _ h => h.1) (Emb.nil (W := W)) (denL_cons.2 ⟨_, _, rfl, denL_cons.2 ⟨_, _, rfl, rfl, rfl⟩, rfl⟩)).mono fun e W' ⟨he, bel⟩ => ?_
  subst he
  exact ⟨_, rfl, _, _, _, [], _, [], hW', trodAll_mk1 (shut_bool Tryz.underlying4 _), (trodAll_cons_mk (Below.trod laidOut (by kernel_rfl) (of_decide_eq_true (by kernel_rfl)) k0 bel lt0) (trodAll_cons_mk (Below.trod laidOut (by kernel_rfl) (of_decide_eq_true (by kernel_rfl)) k1 bel lt1) trodAll_mk0)), rfl, bel.frame _, fun h => by cases h⟩
theorem closed : joinedFacts Tryz.prog 18 Tryz.f18 Rows.workerLaterSpec Rows.workerLaterRow = true := by
  unfold joinedFacts
  rw [make_ok, lift_ok, may_ok]
  kernel_rfl
theorem over : Rows.workerLaterRow.holds Tryz.pinned (OpenSpec.ofChange Rows.workerLaterSpec) :=
  OpenClaim.holds_of_wide 18 Tryz.f18 rfl rfl rfl rfl rfl rfl rfl ⟨rfl, rfl, rfl, rfl, rfl⟩ rfl rfl rfl rfl rfl (by kernel_rfl) Tryz.func18 closed
    (of_decide_eq_true (by kernel_rfl)) (by unfold Func.isWrapper; first | (rw [if_pos (by decide +kernel)]; kernel_rfl) | (rw [if_neg (by decide +kernel)]; exact ⟨rfl, rfl⟩))
    (fun os started H enc _ => lifted os started H enc)
theorem proved : Rows.WorkerLaterSaid := over
#print axioms proved
end Go.Proofs.YtglghdjpkecngaaGreat.workerLater
namespace Go.Proofs.YtglghdjpkecngaaGreat
/-- The row, under a short name, for the claim. -/
theorem workerLater_holds : Rows.WorkerLaterSaid := workerLater.proved
end Go.Proofs.YtglghdjpkecngaaGreat
