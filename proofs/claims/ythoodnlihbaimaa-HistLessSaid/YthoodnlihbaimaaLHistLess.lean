/- HistLess, the row: whatever the input the law is true, and the input reads as it did. No condition is laid beyond the statement's own. -/
import Derived.Test.YthoodnlihbaimaaHZc
import Derived.Test.YthoodnlihbaimaaSLr
import Derived.Test.YthoodnlihbaimaaRows
import Derived.Test.YthoodnlihbaimaaRW
import Derived.WalkKit
import Derived.ProofKit
import Derived.OpenShut
import Derived.ShutString
import Derived.ChangeOld
import Derived.Below
import Derived.SizedLaws
namespace Go.Proofs.Ythoodnlihbaimaa.histLess
set_option linter.unusedVariables false
set_option linter.unusedSimpArgs false
open Go Go.SL Go.ChangeShapes Go.WideShapes Go.ChangeAt Go.RowKit
open Go.ChangeMaps (open_string shut_string)
theorem own : ownKnob Try.prog.godebug = none := by kernel_rfl
theorem laidOut : laidOutB Try.prog = true := by kernel_rfl
theorem nat_of_u {x : Int} (h : (Lit.int .u64 x).wf = true) : ∃ n : Nat, x = n := by
  have : 0 ≤ x := by simp [Lit.wf, IntKind.min, IntKind.signed] at h; omega
  exact ⟨x.toNat, by omega⟩
theorem flat34 : flatT Try.prog 8 34 = some [.i .i64, .i .i64, .i .i64, .i .i64, .i .i64, .i .i64, .i .u64, .i .i64, .i .i64, .i .i64, .i .i64, .i .u64, .i .i64, .i .u64, .i .i64, .i .i64, .i .i64, .i .i64] := by kernel_rfl
theorem of34 (φ : Phi) {cs : List Value} (h : Mat [.i .i64, .i .i64, .i .i64, .i .i64, .i .i64, .i .i64, .i .u64, .i .i64, .i .i64, .i .i64, .i .i64, .i .u64, .i .i64, .i .u64, .i .i64, .i .i64, .i .i64, .i .i64] cs) : ∃ s : Told, denL φ s.cs = some cs := by
  obtain ⟨x1, _, rfl, _, h1⟩ := h.i
  obtain ⟨x2, _, rfl, _, h2⟩ := h1.i
  obtain ⟨x3, _, rfl, _, h3⟩ := h2.i
  obtain ⟨x4, _, rfl, _, h4⟩ := h3.i
  obtain ⟨x5, _, rfl, _, h5⟩ := h4.i
  obtain ⟨x6, _, rfl, _, h6⟩ := h5.i
  obtain ⟨y7, _, rfl, w7, h7⟩ := h6.i
  obtain ⟨x7, rfl⟩ := nat_of_u w7
  obtain ⟨x8, _, rfl, _, h8⟩ := h7.i
  obtain ⟨x9, _, rfl, _, h9⟩ := h8.i
  obtain ⟨x10, _, rfl, _, h10⟩ := h9.i
  obtain ⟨x11, _, rfl, _, h11⟩ := h10.i
  obtain ⟨y12, _, rfl, w12, h12⟩ := h11.i
  obtain ⟨x12, rfl⟩ := nat_of_u w12
  obtain ⟨x13, _, rfl, _, h13⟩ := h12.i
  obtain ⟨y14, _, rfl, w14, h14⟩ := h13.i
  obtain ⟨x14, rfl⟩ := nat_of_u w14
  obtain ⟨x15, _, rfl, _, h15⟩ := h14.i
  obtain ⟨x16, _, rfl, _, h16⟩ := h15.i
  obtain ⟨x17, _, rfl, _, h17⟩ := h16.i
  obtain ⟨x18, _, rfl, _, h18⟩ := h17.i
  obtain rfl := h18.nil
  exact ⟨⟨x1, x2, x3, x4, x5, x6, x7, x8, x9, x10, x11, x12, x13, x14, x15, x16, x17, x18⟩, by simp [Told.cs, denL, den]⟩
set_option maxRecDepth 100000 in
theorem lifted (os : Os) (started : os.Started) (H : Type) (enc : TypeId × Value → H) :
    ReturnsInHanded {} Try.checked os 6 .any (Rows.histLessSpec.pre6 enc Try.prog Try.f6 Rows.histLessRow.domain false) (Rows.histLessSpec.post enc Try.prog Try.f6 false true false false) := by
  refine returnsInHanded_of_change_sized (C := Try.checked) own started (by kernel_rfl) Try.func6
    (ChangeSpec.witness6 (enc := enc) (C := Try.checked) false ⟨#[], #[.slice none 0 0], []⟩ 8 (by kernel_rfl) (by kernel_rfl) (by kernel_rfl) (by kernel_rfl)) ?_
  intro W base args ds gs before hval0 hW hcnd hsz0 _
  have hval : ∀ (j : Nat) t v, Try.f6.params[j]? = some t → args[j]? = some v → Value.okWide Try.prog W .any base t v := hval0
  have hW' := hW
  obtain ⟨p, q, hA0, hV, rfl, hfz, hnd⟩ := hW
  have hA : DataW.TrodAll enc Try.prog W 0 (fun _ => true) true Try.f6.params.toList args.toList ds p := hA0
  rw [Try.params6] at hA hval
  obtain ⟨v0, vs0, d0, ds0, p0, q0, hargs, rfl, rfl, h0, r0⟩ := trodAll_cons hA
  obtain ⟨rfl, rfl, rfl⟩ := trodAll_nil r0
  obtain rfl : args = #[v0] := by cases args; simp_all
  obtain ⟨rfl, rfl⟩ := trodVars_none hV
  have k0 := h0
  have lt0 : ∀ x ∈ p0, x.block < W.heap.size := by obtain ⟨m, hm⟩ := k0; exact DataW.trod_lt m _ _ _ hm
  obtain ⟨oid0, l0, cap0, q0, ho0, E0, hd0⟩ := open_rows (P := Try.prog) (f := Told.cs) (Emb.nil (W := W)) (fun cs h => of34 _ h) (fun a => rfl) Try.underlying22 flat34 (by kernel_rfl) (hval 0 22 v0 rfl rfl) h0
  refine ((HistLess_ev l0 oid0 cap0 ho0).law (by first | exact fun _ _ h => h | exact fun _ _ h => h.1) (E0) (denL_cons.2 ⟨_, _, hd0, rfl, rfl⟩)).mono fun e W' ⟨he, bel⟩ => ?_
  subst he
  exact ⟨_, rfl, _, _, _, [], _, [], hW', trodAll_mk1 (shut_bool Try.underlying4 _), (trodAll_cons_mk (Below.trod laidOut (by kernel_rfl) (of_decide_eq_true (by kernel_rfl)) k0 bel lt0) trodAll_mk0), rfl, bel.frame _, fun h => by cases h⟩
theorem closed : joinedFacts Try.prog 6 Try.f6 Rows.histLessSpec Rows.histLessRow = true := by
  unfold joinedFacts
  rw [make_ok, lift_ok, may_ok]
  kernel_rfl
theorem over : Rows.histLessRow.holds Try.pinned (OpenSpec.ofChange Rows.histLessSpec) :=
  OpenClaim.holds_of_wide 6 Try.f6 rfl rfl rfl rfl rfl rfl rfl ⟨rfl, rfl, rfl, rfl, rfl⟩ rfl rfl rfl rfl rfl (by kernel_rfl) Try.func6 closed
    (of_decide_eq_true (by kernel_rfl)) (by unfold Func.isWrapper; first | (rw [if_pos (by decide +kernel)]; kernel_rfl) | (rw [if_neg (by decide +kernel)]; exact ⟨rfl, rfl⟩))
    (fun os started H enc _ => lifted os started H enc)
theorem proved : Rows.HistLessSaid := over
#print axioms proved
end Go.Proofs.Ythoodnlihbaimaa.histLess
namespace Go.Proofs.Ythoodnlihbaimaa
/-- The row, under a short name, for the claim. -/
theorem histLess_holds : Rows.HistLessSaid := histLess.proved
end Go.Proofs.Ythoodnlihbaimaa
