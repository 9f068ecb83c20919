/- WorkerSteps, the row: whatever the input the law is true, and the input reads as it did. No condition is laid beyond the statement's own. -/
import Derived.Test.YtglghdjpkecngaaGreatEV
import Derived.Test.YtglghdjpkecngaaGreatSLr
import Derived.Test.YtglghdjpkecngaaGreatRows
import Derived.Test.YtglghdjpkecngaaGreatRW
import Derived.WalkKit
import Derived.ProofKit
import Derived.OpenShut
import Derived.ShutString
import Derived.ChangeOld
import Derived.Below
import Derived.SizedLaws
namespace Go.Proofs.YtglghdjpkecngaaGreat.workerSteps
set_option linter.unusedVariables false
set_option linter.unusedSimpArgs false
open Go Go.SL Go.ChangeShapes Go.WideShapes Go.ChangeAt Go.RowKit
open Go.ChangeMaps (open_string shut_string)
theorem own : ownKnob Tryz.prog.godebug = none := by kernel_rfl
theorem laidOut : laidOutB Tryz.prog = true := by kernel_rfl
theorem nat_of_u {x : Int} (h : (Lit.int .u64 x).wf = true) : ∃ n : Nat, x = n := by
  have : 0 ≤ x := by simp [Lit.wf, IntKind.min, IntKind.signed] at h; omega
  exact ⟨x.toNat, by omega⟩
theorem flat104 : flatT Tryz.prog 8 104 = some [.i .i64, .i .i64, .i .i64, .i .i64, .i .u64, .i .i64, .i .i64, .i .i64, .i .i64] := by kernel_rfl
theorem of104 (φ : Phi) {cs : List Value} (h : Mat [.i .i64, .i .i64, .i .i64, .i .i64, .i .u64, .i .i64, .i .i64, .i .i64, .i .i64] cs) : ∃ s : Go.FL.CallS, denL φ s.cs = some cs := by
  obtain ⟨x1, _, rfl, _, h1⟩ := h.i
  obtain ⟨x2, _, rfl, _, h2⟩ := h1.i
  obtain ⟨x3, _, rfl, _, h3⟩ := h2.i
  obtain ⟨x4, _, rfl, _, h4⟩ := h3.i
  obtain ⟨y5, _, rfl, w5, h5⟩ := h4.i
  obtain ⟨x5, rfl⟩ := nat_of_u w5
  obtain ⟨x6, _, rfl, _, h6⟩ := h5.i
  obtain ⟨x7, _, rfl, _, h7⟩ := h6.i
  obtain ⟨x8, _, rfl, _, h8⟩ := h7.i
  obtain ⟨x9, _, rfl, _, h9⟩ := h8.i
  obtain rfl := h9.nil
  exact ⟨⟨x1, x2, x3, x4, x5, x6, x7, x8, x9⟩, by simp [Go.FL.CallS.cs, denL, den]⟩
set_option maxRecDepth 100000 in
theorem lifted (os : Os) (started : os.Started) (H : Type) (enc : TypeId × Value → H) :
    ReturnsInHanded {} Tryz.checked os 15 .any (Rows.workerStepsSpec.pre6 enc Tryz.prog Tryz.f15 Rows.workerStepsRow.domain false) (Rows.workerStepsSpec.post enc Tryz.prog Tryz.f15 false true false false) := by
  refine returnsInHanded_of_change_sized (C := Tryz.checked) own started (by kernel_rfl) Tryz.func15
    (ChangeSpec.witness6 (enc := enc) (C := Tryz.checked) false ⟨#[], #[.slice none 0 0], []⟩ 8 (by kernel_rfl) (by kernel_rfl) (by kernel_rfl) (by kernel_rfl)) ?_
  intro W base args ds gs before hval0 hW hcnd hsz0 _
  have hval : ∀ (j : Nat) t v, Tryz.f15.params[j]? = some t → args[j]? = some v → Value.okWide Tryz.prog W .any base t v := hval0
  have hW' := hW
  obtain ⟨p, q, hA0, hV, rfl, hfz, hnd⟩ := hW
  have hA : DataW.TrodAll enc Tryz.prog W 0 (fun _ => true) true Tryz.f15.params.toList args.toList ds p := hA0
  rw [Tryz.params15] at hA hval
  obtain ⟨v0, vs0, d0, ds0, p0, q0, hargs, rfl, rfl, h0, r0⟩ := trodAll_cons hA
  obtain ⟨rfl, rfl, rfl⟩ := trodAll_nil r0
  obtain rfl : args = #[v0] := by cases args; simp_all
  obtain ⟨rfl, rfl⟩ := trodVars_none hV
  have k0 := h0
  have lt0 : ∀ x ∈ p0, x.block < W.heap.size := by obtain ⟨m, hm⟩ := k0; exact DataW.trod_lt m _ _ _ hm
  obtain ⟨oid0, l0, cap0, q0, ho0, E0, hd0⟩ := open_rows (P := Tryz.prog) (f := Go.FL.CallS.cs) (Emb.nil (W := W)) (fun cs h => of104 _ h) (fun a => rfl) Tryz.underlying87 flat104 (by kernel_rfl) (hval 0 87 v0 rfl rfl) h0
  refine ((WorkerSteps_ev l0 oid0 cap0 ho0).law (by first | exact fun _ _ h => h | exact fun _ _ h => h.1) (E0) (denL_cons.2 ⟨_, _, hd0, rfl, rfl⟩)).mono fun e W' ⟨he, bel⟩ => ?_
  subst he
  exact ⟨_, rfl, _, _, _, [], _, [], hW', trodAll_mk1 (shut_bool Tryz.underlying4 _), (trodAll_cons_mk (Below.trod laidOut (by kernel_rfl) (of_decide_eq_true (by kernel_rfl)) k0 bel lt0) trodAll_mk0), rfl, bel.frame _, fun h => by cases h⟩
theorem closed : joinedFacts Tryz.prog 15 Tryz.f15 Rows.workerStepsSpec Rows.workerStepsRow = true := by
  unfold joinedFacts
  rw [make_ok, lift_ok, may_ok]
  kernel_rfl
theorem over : Rows.workerStepsRow.holds Tryz.pinned (OpenSpec.ofChange Rows.workerStepsSpec) :=
  OpenClaim.holds_of_wide 15 Tryz.f15 rfl rfl rfl rfl rfl rfl rfl ⟨rfl, rfl, rfl, rfl, rfl⟩ rfl rfl rfl rfl rfl (by kernel_rfl) Tryz.func15 closed
    (of_decide_eq_true (by kernel_rfl)) (by unfold Func.isWrapper; first | (rw [if_pos (by decide +kernel)]; kernel_rfl) | (rw [if_neg (by decide +kernel)]; exact ⟨rfl, rfl⟩))
    (fun os started H enc _ => lifted os started H enc)
theorem proved : Rows.WorkerStepsSaid := over
#print axioms proved
end Go.Proofs.YtglghdjpkecngaaGreat.workerSteps
namespace Go.Proofs.YtglghdjpkecngaaGreat
theorem workerSteps_holds : Rows.WorkerStepsSaid := workerSteps.proved
end Go.Proofs.YtglghdjpkecngaaGreat
