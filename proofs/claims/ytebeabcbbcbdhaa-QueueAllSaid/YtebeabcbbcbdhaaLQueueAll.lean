/- QueueAll, the row: whatever the input the law is true, and the input reads as it did. No condition is laid beyond the statement's own. -/
import Derived.Test.YtebeabcbbcbdhaaQS
import Derived.Test.YtebeabcbbcbdhaaSLr
import Derived.Test.YtebeabcbbcbdhaaRows
import Derived.WalkKit
import Derived.ProofKit
import Derived.OpenShut
import Derived.ShutString
import Derived.ChangeOld
import Derived.Below
import Derived.SizedLaws
namespace Go.Proofs.Ytebeabcbbcbdhaa.queueAll
set_option linter.unusedVariables false
set_option linter.unusedSimpArgs false
open Go Go.SL Go.ChangeShapes Go.WideShapes Go.ChangeAt Go.RowKit
open Go.ChangeMaps (open_string shut_string)
theorem own : ownKnob Try.prog.godebug = none := by kernel_rfl
theorem laidOut : laidOutB Try.prog = true := by kernel_rfl
theorem flatI3 : flatT Try.prog 8 3 = some [.i .i64] := by kernel_rfl
theorem ofI3 (φ : Phi) {cs : List Value} (h : Mat [.i .i64] cs) : ∃ s : Int, denL φ (icell s) = some cs := by
  obtain ⟨x1, _, rfl, _, h1⟩ := h.i
  obtain rfl := h1.nil
  exact ⟨x1, by simp [icell, denL, den]⟩
set_option maxRecDepth 100000 in
theorem lifted (os : Os) (started : os.Started) (H : Type) (enc : TypeId × Value → H) :
    ReturnsInHanded {} Try.checked os 9 .any (Rows.queueAllSpec.pre6 enc Try.prog Try.f9 Rows.queueAllRow.domain false) (Rows.queueAllSpec.post enc Try.prog Try.f9 false true false false) := by
  refine returnsInHanded_of_change_sized (C := Try.checked) own started (by kernel_rfl) Try.func9
    (ChangeSpec.witness6 (enc := enc) (C := Try.checked) false ⟨#[], #[.slice none 0 0], []⟩ 8 (by kernel_rfl) (by kernel_rfl) (by kernel_rfl) (by kernel_rfl)) ?_
  intro W base args ds gs before hval0 hW hcnd hsz0 _
  have hval : ∀ (j : Nat) t v, Try.f9.params[j]? = some t → args[j]? = some v → Value.okWide Try.prog W .any base t v := hval0
  have hW' := hW
  obtain ⟨p, q, hA0, hV, rfl, hfz, hnd⟩ := hW
  have hA : DataW.TrodAll enc Try.prog W 0 (fun _ => true) true Try.f9.params.toList args.toList ds p := hA0
  rw [Try.params9] at hA hval
  obtain ⟨v0, vs0, d0, ds0, p0, q0, hargs, rfl, rfl, h0, r0⟩ := trodAll_cons hA
  obtain ⟨rfl, rfl, rfl⟩ := trodAll_nil r0
  obtain rfl : args = #[v0] := by cases args; simp_all
  obtain ⟨rfl, rfl⟩ := trodVars_none hV
  have k0 := h0
  have lt0 : ∀ x ∈ p0, x.block < W.heap.size := by obtain ⟨m, hm⟩ := k0; exact DataW.trod_lt m _ _ _ hm
  obtain ⟨oid0, l0, cap0, q0, ho0, E0, hd0⟩ := open_rows (P := Try.prog) (f := icell) (Emb.nil (W := W)) (fun cs h => ofI3 _ h) (fun a => rfl) Try.underlying37 flatI3 (by kernel_rfl) (hval 0 37 v0 rfl rfl) h0
  refine ((QueueAll_ev l0 oid0 cap0 ho0).law (by first | exact fun _ _ h => h | exact fun _ _ h => h.1) (E0) (denL_cons.2 ⟨_, _, hd0, rfl, rfl⟩)).mono fun e W' ⟨he, bel⟩ => ?_
  subst he
  exact ⟨_, rfl, _, _, _, [], _, [], hW', trodAll_mk1 (shut_bool Try.underlying4 _), (trodAll_cons_mk (Below.trod laidOut (by kernel_rfl) (of_decide_eq_true (by kernel_rfl)) k0 bel lt0) trodAll_mk0), rfl, bel.frame _, fun h => by cases h⟩
theorem over : Rows.queueAllRow.holds Try.pinned (OpenSpec.ofChange Rows.queueAllSpec) :=
  OpenClaim.holds_of_wide 9 Try.f9 rfl rfl rfl rfl rfl rfl rfl ⟨rfl, rfl, rfl, rfl, rfl⟩ rfl rfl rfl rfl rfl (by kernel_rfl) Try.func9 (by kernel_rfl)
    (of_decide_eq_true (by kernel_rfl)) (by unfold Func.isWrapper; first | (rw [if_pos (by decide +kernel)]; kernel_rfl) | (rw [if_neg (by decide +kernel)]; exact ⟨rfl, rfl⟩))
    (fun os started H enc _ => lifted os started H enc)
theorem proved : Rows.QueueAllSaid := over
#print axioms proved
end Go.Proofs.Ytebeabcbbcbdhaa.queueAll
namespace Go.Proofs.Ytebeabcbbcbdhaa
/-- The row, under a short name, for the claim. -/
theorem queueAll_holds : Rows.QueueAllSaid := queueAll.proved
end Go.Proofs.Ytebeabcbbcbdhaa
