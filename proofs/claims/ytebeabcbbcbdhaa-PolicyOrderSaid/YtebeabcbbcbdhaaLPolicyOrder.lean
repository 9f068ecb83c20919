/- PolicyOrder, the row: whatever the input the law is true, and the input reads as it did. No condition is laid beyond the statement's own. -/
import Derived.Test.YtebeabcbbcbdhaaPQ
import Derived.Test.YtebeabcbbcbdhaaSLr
import Derived.Test.YtebeabcbbcbdhaaRows
import Derived.WalkKit
import Derived.ProofKit
import Derived.OpenShut
import Derived.ShutString
import Derived.ChangeOld
import Derived.Below
import Derived.SizedLaws
namespace Go.Proofs.Ytebeabcbbcbdhaa.policyOrder
open Go Go.SL Go.ChangeShapes Go.WideShapes Go.ChangeAt Go.RowKit
open Go.ChangeMaps (open_string shut_string)
theorem own : ownKnob Try.prog.godebug = none := by kernel_rfl
theorem laidOut : laidOutB Try.prog = true := by kernel_rfl
theorem flat25 : flatT Try.prog 8 25 = some [.i .i64, .i .i64, .i .i64, .i .i64, .i .i64, .b] := by kernel_rfl
theorem of25 (φ : Phi) {cs : List Value} (h : Mat [.i .i64, .i .i64, .i .i64, .i .i64, .i .i64, .b] cs) : ∃ s : Seen, denL φ s.cs = some cs := by
  obtain ⟨x1, _, rfl, _, h1⟩ := h.i
  obtain ⟨x2, _, rfl, _, h2⟩ := h1.i
  obtain ⟨x3, _, rfl, _, h3⟩ := h2.i
  obtain ⟨x4, _, rfl, _, h4⟩ := h3.i
  obtain ⟨x5, _, rfl, _, h5⟩ := h4.i
  obtain ⟨x6, _, rfl, h6⟩ := h5.b
  obtain rfl := h6.nil
  exact ⟨⟨x1, x2, x3, x4, x5, x6⟩, by simp [Seen.cs, denL, den]⟩
set_option maxRecDepth 100000 in
theorem lifted (os : Os) (started : os.Started) (H : Type) (enc : TypeId × Value → H) :
    ReturnsInHanded {} Try.checked os 6 .any (Rows.policyOrderSpec.pre6 enc Try.prog Try.f6 Rows.policyOrderRow.domain false) (Rows.policyOrderSpec.post enc Try.prog Try.f6 false true false false) := by
  refine returnsInHanded_of_change_sized (C := Try.checked) own started (by kernel_rfl) Try.func6
    (ChangeSpec.witness6 (enc := enc) (C := Try.checked) false ⟨#[], #[.int .i64 0, .slice none 0 0], []⟩ 8 (by kernel_rfl) (by kernel_rfl) (by kernel_rfl) (by kernel_rfl)) ?_
  intro W base args ds gs before hval0 hW hcnd hsz0 _
  have hval : ∀ (j : Nat) t v, Try.f6.params[j]? = some t → args[j]? = some v → Value.okWide Try.prog W .any base t v := hval0
  have hW' := hW
  obtain ⟨p, q, hA0, hV, rfl, hfz, hnd⟩ := hW
  have hA : DataW.TrodAll enc Try.prog W 0 (fun _ => true) true Try.f6.params.toList args.toList ds p := hA0
  rw [Try.params6] at hA hval
  obtain ⟨v0, vs0, d0, ds0, p0, q0, hargs, rfl, rfl, h0, r0⟩ := trodAll_cons hA
  obtain ⟨v1, vs1, d1, ds1, p1, q1, rfl, rfl, rfl, h1, r1⟩ := trodAll_cons r0
  obtain ⟨rfl, rfl, rfl⟩ := trodAll_nil r1
  obtain rfl : args = #[v0, v1] := by cases args; simp_all
  obtain ⟨rfl, rfl⟩ := trodVars_none hV
  have k0 := h0
  have k1 := h1
  have lt0 : ∀ x ∈ p0, x.block < W.heap.size := by obtain ⟨m, hm⟩ := k0; exact DataW.trod_lt m _ _ _ hm
  have lt1 : ∀ x ∈ p1, x.block < W.heap.size := by obtain ⟨m, hm⟩ := k1; exact DataW.trod_lt m _ _ _ hm
  obtain ⟨oid1, l1, cap1, q1, ho1, E1, hd1⟩ := open_rows (P := Try.prog) (f := Seen.cs) (Emb.nil (W := W)) (fun cs h => of25 _ h) (fun a => rfl) Try.underlying32 flat25 (by kernel_rfl) (hval 1 32 v1 rfl rfl) h1
  obtain ⟨a0, rfl, _, _, w0⟩ := open_int Try.underlying3 (hval 0 3 v0 rfl rfl) h0
  refine ((PolicyOrder_ev a0 l1 oid1 cap1 ho1).law (fun _ _ h => h) (E1) (denL_cons.2 ⟨_, _, rfl, denL_cons.2 ⟨_, _, hd1, rfl, rfl⟩, rfl⟩)).mono fun e W' ⟨he, bel⟩ => ?_
  subst he
  exact ⟨_, rfl, _, _, _, [], _, [], hW', trodAll_mk1 (shut_bool Try.underlying4 _), (trodAll_cons_mk (Below.trod laidOut (by kernel_rfl) (of_decide_eq_true (by kernel_rfl)) k0 bel lt0) (trodAll_cons_mk (Below.trod laidOut (by kernel_rfl) (of_decide_eq_true (by kernel_rfl)) k1 bel lt1) trodAll_mk0)), rfl, bel.frame _, fun h => by cases h⟩
theorem over : Rows.policyOrderRow.holds Try.pinned (OpenSpec.ofChange Rows.policyOrderSpec) :=
  OpenClaim.holds_of_wide 6 Try.f6 rfl rfl rfl rfl rfl rfl rfl ⟨rfl, rfl, rfl, rfl, rfl⟩ rfl rfl rfl rfl rfl (by kernel_rfl) Try.func6 (by kernel_rfl)
    (of_decide_eq_true (by kernel_rfl)) (by unfold Func.isWrapper; first | (rw [if_pos (by decide +kernel)]; kernel_rfl) | (rw [if_neg (by decide +kernel)]; exact ⟨rfl, rfl⟩))
    (fun os started H enc _ => lifted os started H enc)
theorem proved : Rows.PolicyOrderSaid := over
#print axioms proved
end Go.Proofs.Ytebeabcbbcbdhaa.policyOrder
namespace Go.Proofs.Ytebeabcbbcbdhaa
/-- The row, under a short name, for the claim. -/
theorem policyOrder_holds : Rows.PolicyOrderSaid := policyOrder.proved
end Go.Proofs.Ytebeabcbbcbdhaa
