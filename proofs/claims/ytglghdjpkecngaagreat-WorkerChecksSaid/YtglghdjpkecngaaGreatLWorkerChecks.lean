/- WorkerChecks, the row: whatever the input the law is true, and the input reads as it did. No condition is laid beyond the statement's own. -/
import Derived.Test.YtglghdjpkecngaaGreatEO
import Derived.Test.YtglghdjpkecngaaGreatSLr
import Derived.Test.YtglghdjpkecngaaGreatRows
import Derived.Test.YtglghdjpkecngaaGreatRW
import Derived.WalkKit
import Derived.ProofKit
import Derived.OpenShut
import Derived.ShutString
import Derived.ChangeOld
import Derived.Below
import Derived.SizedLaws
namespace Go.Proofs.YtglghdjpkecngaaGreat.workerChecks
set_option linter.unusedVariables false
set_option linter.unusedSimpArgs false
open Go Go.SL Go.ChangeShapes Go.WideShapes Go.ChangeAt Go.RowKit
open Go.ChangeMaps (open_string shut_string)
theorem own : ownKnob Tryz.prog.godebug = none := by kernel_rfl
theorem laidOut : laidOutB Tryz.prog = true := by kernel_rfl
theorem nat_of_u {x : Int} (h : (Lit.int .u64 x).wf = true) : ∃ n : Nat, x = n := by
  have : 0 ≤ x := by simp [Lit.wf, IntKind.min, IntKind.signed] at h; omega
  exact ⟨x.toNat, by omega⟩
theorem flat104 : flatT Tryz.prog 8 104 = some [.i .i64, .i .i64, .i .i64, .i .i64, .i .u64, .i .i64, .i .i64, .i .i64, .i .i64] := by kernel_rfl
theorem of104 (φ : Phi) {cs : List Value} (h : Mat [.i .i64, .i .i64, .i .i64, .i .i64, .i .u64, .i .i64, .i .i64, .i .i64, .i .i64] cs) : ∃ s : Go.FL.CallS, denL φ s.cs = some cs := by
  obtain ⟨x1, _, rfl, _, h1⟩ := h.i
  obtain ⟨x2, _, rfl, _, h2⟩ := h1.i
  obtain ⟨x3, _, rfl, _, h3⟩ := h2.i
  obtain ⟨x4, _, rfl, _, h4⟩ := h3.i
  obtain ⟨y5, _, rfl, w5, h5⟩ := h4.i
  obtain ⟨x5, rfl⟩ := nat_of_u w5
  obtain ⟨x6, _, rfl, _, h6⟩ := h5.i
  obtain ⟨x7, _, rfl, _, h7⟩ := h6.i
  obtain ⟨x8, _, rfl, _, h8⟩ := h7.i
  obtain ⟨x9, _, rfl, _, h9⟩ := h8.i
  obtain rfl := h9.nil
  exact ⟨⟨x1, x2, x3, x4, x5, x6, x7, x8, x9⟩, by simp [Go.FL.CallS.cs, denL, den]⟩
set_option maxRecDepth 100000 in
theorem lifted (os : Os) (started : os.Started) (H : Type) (enc : TypeId × Value → H) :
    ReturnsInHanded {} Tryz.checked os 16 .any (Rows.workerChecksSpec.pre6 enc Tryz.prog Tryz.f16 Rows.workerChecksRow.domain false) (Rows.workerChecksSpec.post enc Tryz.prog Tryz.f16 false true false false) := by
  refine returnsInHanded_of_change_sized (C := Tryz.checked) own started (by kernel_rfl) Tryz.func16
    (ChangeSpec.witness6 (enc := enc) (C := Tryz.checked) false ⟨#[], #[.int .i64 0, .agg #[.int .i64 0, .int .i64 0, .int .i64 0, .int .i64 0, .int .u64 0, .int .i64 0, .int .i64 0, .int .i64 0, .int .i64 0], .int .i64 0], []⟩ 8 (by kernel_rfl) (by kernel_rfl) (by kernel_rfl) (by kernel_rfl)) ?_
  intro W base args ds gs before hval0 hW hcnd hsz0 _
  have hval : ∀ (j : Nat) t v, Tryz.f16.params[j]? = some t → args[j]? = some v → Value.okWide Tryz.prog W .any base t v := hval0
  have hW' := hW
  obtain ⟨p, q, hA0, hV, rfl, hfz, hnd⟩ := hW
  have hA : DataW.TrodAll enc Tryz.prog W 0 (fun _ => true) true Tryz.f16.params.toList args.toList ds p := hA0
  rw [Tryz.params16] at hA hval
  obtain ⟨v0, vs0, d0, ds0, p0, q0, hargs, rfl, rfl, h0, r0⟩ := trodAll_cons hA
  obtain ⟨v1, vs1, d1, ds1, p1, q1, rfl, rfl, rfl, h1, r1⟩ := trodAll_cons r0
  obtain ⟨v2, vs2, d2, ds2, p2, q2, rfl, rfl, rfl, h2, r2⟩ := trodAll_cons r1
  obtain ⟨rfl, rfl, rfl⟩ := trodAll_nil r2
  obtain rfl : args = #[v0, v1, v2] := by cases args; simp_all
  obtain ⟨rfl, rfl⟩ := trodVars_none hV
  have k0 := h0
  have k1 := h1
  have k2 := h2
  have lt0 : ∀ x ∈ p0, x.block < W.heap.size := by obtain ⟨m, hm⟩ := k0; exact DataW.trod_lt m _ _ _ hm
  have lt1 : ∀ x ∈ p1, x.block < W.heap.size := by obtain ⟨m, hm⟩ := k1; exact DataW.trod_lt m _ _ _ hm
  have lt2 : ∀ x ∈ p2, x.block < W.heap.size := by obtain ⟨m, hm⟩ := k2; exact DataW.trod_lt m _ _ _ hm
  obtain ⟨a0, rfl, _, _, w0⟩ := open_int Tryz.underlying3 (hval 0 3 v0 rfl rfl) h0
  obtain ⟨cs1, rfl, m1, _⟩ := open_flat Tryz.underlying104 flat104 (hval 1 104 v1 rfl rfl) h1
  obtain ⟨s1, hs1⟩ := of104 _ m1
  obtain ⟨a2, rfl, _, _, w2⟩ := open_int Tryz.underlying3 (hval 2 3 v2 rfl rfl) h2
  refine ((WorkerChecks_ev a0 s1 a2).law (by first | exact fun _ _ h => h | exact fun _ _ h => h.1) (Emb.nil (W := W)) (denL_cons.2 ⟨_, _, rfl, denL_cons.2 ⟨_, _, den_agg.2 ⟨_, hs1, rfl⟩, denL_cons.2 ⟨_, _, rfl, rfl, rfl⟩, rfl⟩, rfl⟩)).mono fun e W' ⟨he, bel⟩ => ?_
  subst he
  exact ⟨_, rfl, _, _, _, [], _, [], hW', trodAll_mk1 (shut_bool Tryz.underlying4 _), (trodAll_cons_mk (Below.trod laidOut (by kernel_rfl) (of_decide_eq_true (by kernel_rfl)) k0 bel lt0) (trodAll_cons_mk (Below.trod laidOut (by kernel_rfl) (of_decide_eq_true (by kernel_rfl)) k1 bel lt1) (trodAll_cons_mk (Below.trod laidOut (by kernel_rfl) (of_decide_eq_true (by kernel_rfl)) k2 bel lt2) trodAll_mk0))), rfl, bel.frame _, fun h => by cases h⟩
theorem closed : joinedFacts Tryz.prog 16 Tryz.f16 Rows.workerChecksSpec Rows.workerChecksRow = true := by
  unfold joinedFacts
  rw [make_ok, lift_ok, may_ok]
  kernel_rfl
theorem over : Rows.workerChecksRow.holds Tryz.pinned (OpenSpec.ofChange Rows.workerChecksSpec) :=
  OpenClaim.holds_of_wide 16 Tryz.f16 rfl rfl rfl rfl rfl rfl rfl ⟨rfl, rfl, rfl, rfl, rfl⟩ rfl rfl rfl rfl rfl (by kernel_rfl) Tryz.func16 closed
    (of_decide_eq_true (by kernel_rfl)) (by unfold Func.isWrapper; first | (rw [if_pos (by decide +kernel)]; kernel_rfl) | (rw [if_neg (by decide +kernel)]; exact ⟨rfl, rfl⟩))
    (fun os started H enc _ => lifted os started H enc)
theorem proved : Rows.WorkerChecksSaid := over
#print axioms proved
end Go.Proofs.YtglghdjpkecngaaGreat.workerChecks
namespace Go.Proofs.YtglghdjpkecngaaGreat
/-- The row, under a short name, for the claim. -/
theorem workerChecks_holds : Rows.WorkerChecksSaid := workerChecks.proved
end Go.Proofs.YtglghdjpkecngaaGreat
