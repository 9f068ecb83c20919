/-
  No cell of these rows narrows 'for every input' (looked for: loops, veiled, ifaces, maps, wideKeys, modest, calm, conditions, laid).
  DERIVED. THE GIVEN ROWS OF THIS SEAT. 9 by the template 'for every input the law returns true; each argument reads behind the call as it read before'; 0 by the template 'total and deterministic' (their statements: YtebeabcbbcbdhaaTotals.lean).
  GIVEN WITH THE SEED: the statements are not yours to turn. If you find one false, say at which input.
  Laid BY PROGRAM, IN A SANDBOX (cutbox-rows.mjs): the forced cells as the released guide's own fill.sh prints them over the translation e9ad4ad78df5010a… (all of the seat's roots in one cut). By AI agents, Wed Nov 11 2026. No macro, syntax, notation, axiom, sorry.
-/
import Derived.Test.YtebeabcbbcbdhaaChecked
import GoSem.Claim
import GoSem.ClaimJoined
import GoSem.ClaimMapViews
import Derived.JoinedTies
import Derived.KernelRfl
namespace Go.Proofs.Ytebeabcbbcbdhaa
/- THE CELL 'sum', in the pinned program and in every row, IS THE sha256 OF THE DUMP (.gsa) THAT YtebeabcbbcbdhaaProg.lean LOADS. Nothing in Lean hashes anything: it is a label: what it is worth is what the hold of that sum in a sandbox is worth. -/
noncomputable def Try.pinned : Pinned := { name := "ytebeabcbbcbdhaa", sum := "e9ad4ad78df5010a4cf64f1e9a6fe97012cb84da72a6630f5ae28ac79cff3b60", checked := Try.checked }
namespace Rows
def none {H : Type} : Left H := { results := [], args := [] }

/-- 'footlockerlaw12.PolicyMay': WHATEVER THE INPUT: true; the input reads as it did. -/
def policyMaySpec : ChangeSpec := { name := "policyMay", fn := fun _ => fun
  | [d1, d2] => { results := [.lit (.bool true)], args := [d1, d2] }
  | _ => none }
def policyMayRow : OpenClaim := { program := "ytebeabcbbcbdhaa", sum := "e9ad4ad78df5010a4cf64f1e9a6fe97012cb84da72a6630f5ae28ac79cff3b60", func := "footlocker/footlockerlaw12.PolicyMay", spec := "policyMay", apart := false }
def PolicyMaySaid : Prop := policyMayRow.holds Try.pinned (OpenSpec.ofChange policyMaySpec)

/-- ITS FALSE NEIGHBOUR: 'it returns false'. Refute it at one input. -/
def policyMayWrong : ChangeSpec := { name := "policyMay", fn := fun _ => fun
  | [d1, d2] => { results := [.lit (.bool false)], args := [d1, d2] }
  | _ => none }
def PolicyMayWrongFalsely : Prop := policyMayRow.holds Try.pinned (OpenSpec.ofChange policyMayWrong)

/-- 'footlockerlaw12.PolicyChoose': WHATEVER THE INPUT: true; the input reads as it did. -/
def policyChooseSpec : ChangeSpec := { name := "policyChoose", fn := fun _ => fun
  | [d1, d2] => { results := [.lit (.bool true)], args := [d1, d2] }
  | _ => none }
def policyChooseRow : OpenClaim := { program := "ytebeabcbbcbdhaa", sum := "e9ad4ad78df5010a4cf64f1e9a6fe97012cb84da72a6630f5ae28ac79cff3b60", func := "footlocker/footlockerlaw12.PolicyChoose", spec := "policyChoose", apart := false }
def PolicyChooseSaid : Prop := policyChooseRow.holds Try.pinned (OpenSpec.ofChange policyChooseSpec)

/-- ITS FALSE NEIGHBOUR: 'it returns false'. Refute it at one input. -/
def policyChooseWrong : ChangeSpec := { name := "policyChoose", fn := fun _ => fun
  | [d1, d2] => { results := [.lit (.bool false)], args := [d1, d2] }
  | _ => none }
def PolicyChooseWrongFalsely : Prop := policyChooseRow.holds Try.pinned (OpenSpec.ofChange policyChooseWrong)

/-- 'footlockerlaw12.PolicyDense': WHATEVER THE INPUT: true; the input reads as it did. -/
def policyDenseSpec : ChangeSpec := { name := "policyDense", fn := fun _ => fun
  | [d1, d2] => { results := [.lit (.bool true)], args := [d1, d2] }
  | _ => none }
def policyDenseRow : OpenClaim := { program := "ytebeabcbbcbdhaa", sum := "e9ad4ad78df5010a4cf64f1e9a6fe97012cb84da72a6630f5ae28ac79cff3b60", func := "footlocker/footlockerlaw12.PolicyDense", spec := "policyDense", apart := false }
def PolicyDenseSaid : Prop := policyDenseRow.holds Try.pinned (OpenSpec.ofChange policyDenseSpec)

/-- ITS FALSE NEIGHBOUR: 'it returns false'. Refute it at one input. -/
def policyDenseWrong : ChangeSpec := { name := "policyDense", fn := fun _ => fun
  | [d1, d2] => { results := [.lit (.bool false)], args := [d1, d2] }
  | _ => none }
def PolicyDenseWrongFalsely : Prop := policyDenseRow.holds Try.pinned (OpenSpec.ofChange policyDenseWrong)

/-- 'footlockerlaw12.PolicyOrder': WHATEVER THE INPUT: true; the input reads as it did. -/
def policyOrderSpec : ChangeSpec := { name := "policyOrder", fn := fun _ => fun
  | [d1, d2] => { results := [.lit (.bool true)], args := [d1, d2] }
  | _ => none }
def policyOrderRow : OpenClaim := { program := "ytebeabcbbcbdhaa", sum := "e9ad4ad78df5010a4cf64f1e9a6fe97012cb84da72a6630f5ae28ac79cff3b60", func := "footlocker/footlockerlaw12.PolicyOrder", spec := "policyOrder", apart := false }
def PolicyOrderSaid : Prop := policyOrderRow.holds Try.pinned (OpenSpec.ofChange policyOrderSpec)

/-- ITS FALSE NEIGHBOUR: 'it returns false'. Refute it at one input. -/
def policyOrderWrong : ChangeSpec := { name := "policyOrder", fn := fun _ => fun
  | [d1, d2] => { results := [.lit (.bool false)], args := [d1, d2] }
  | _ => none }
def PolicyOrderWrongFalsely : Prop := policyOrderRow.holds Try.pinned (OpenSpec.ofChange policyOrderWrong)

/-- 'footlockerlaw12.PolicyMore': WHATEVER THE INPUT: true; the input reads as it did. -/
def policyMoreSpec : ChangeSpec := { name := "policyMore", fn := fun _ => fun
  | [d1, d2, d3] => { results := [.lit (.bool true)], args := [d1, d2, d3] }
  | _ => none }
def policyMoreRow : OpenClaim := { program := "ytebeabcbbcbdhaa", sum := "e9ad4ad78df5010a4cf64f1e9a6fe97012cb84da72a6630f5ae28ac79cff3b60", func := "footlocker/footlockerlaw12.PolicyMore", spec := "policyMore", apart := false }
def PolicyMoreSaid : Prop := policyMoreRow.holds Try.pinned (OpenSpec.ofChange policyMoreSpec)

/-- ITS FALSE NEIGHBOUR: 'it returns false'. Refute it at one input. -/
def policyMoreWrong : ChangeSpec := { name := "policyMore", fn := fun _ => fun
  | [d1, d2, d3] => { results := [.lit (.bool false)], args := [d1, d2, d3] }
  | _ => none }
def PolicyMoreWrongFalsely : Prop := policyMoreRow.holds Try.pinned (OpenSpec.ofChange policyMoreWrong)

/-- 'footlockerlaw03.QueuePlays': WHATEVER THE INPUT: true; the input reads as it did. -/
def queuePlaysSpec : ChangeSpec := { name := "queuePlays", fn := fun _ => fun
  | [d1, d2] => { results := [.lit (.bool true)], args := [d1, d2] }
  | _ => none }
def queuePlaysRow : OpenClaim := { program := "ytebeabcbbcbdhaa", sum := "e9ad4ad78df5010a4cf64f1e9a6fe97012cb84da72a6630f5ae28ac79cff3b60", func := "footlocker/footlockerlaw03.QueuePlays", spec := "queuePlays", apart := false }
def QueuePlaysSaid : Prop := queuePlaysRow.holds Try.pinned (OpenSpec.ofChange queuePlaysSpec)

/-- ITS FALSE NEIGHBOUR: 'it returns false'. Refute it at one input. -/
def queuePlaysWrong : ChangeSpec := { name := "queuePlays", fn := fun _ => fun
  | [d1, d2] => { results := [.lit (.bool false)], args := [d1, d2] }
  | _ => none }
def QueuePlaysWrongFalsely : Prop := queuePlaysRow.holds Try.pinned (OpenSpec.ofChange queuePlaysWrong)

/-- 'footlockerlaw03.QueueAll': WHATEVER THE INPUT: true; the input reads as it did. -/
def queueAllSpec : ChangeSpec := { name := "queueAll", fn := fun _ => fun
  | [d] => { results := [.lit (.bool true)], args := [d] }
  | _ => none }
def queueAllRow : OpenClaim := { program := "ytebeabcbbcbdhaa", sum := "e9ad4ad78df5010a4cf64f1e9a6fe97012cb84da72a6630f5ae28ac79cff3b60", func := "footlocker/footlockerlaw03.QueueAll", spec := "queueAll", apart := false }
def QueueAllSaid : Prop := queueAllRow.holds Try.pinned (OpenSpec.ofChange queueAllSpec)

/-- ITS FALSE NEIGHBOUR: 'it returns false'. Refute it at one input. -/
def queueAllWrong : ChangeSpec := { name := "queueAll", fn := fun _ => fun
  | [d] => { results := [.lit (.bool false)], args := [d] }
  | _ => none }
def QueueAllWrongFalsely : Prop := queueAllRow.holds Try.pinned (OpenSpec.ofChange queueAllWrong)

/-- 'footlockerlaw03.QueueNone': WHATEVER THE INPUT: true; the input reads as it did. -/
def queueNoneSpec : ChangeSpec := { name := "queueNone", fn := fun _ => fun
  | [d1, d2] => { results := [.lit (.bool true)], args := [d1, d2] }
  | _ => none }
def queueNoneRow : OpenClaim := { program := "ytebeabcbbcbdhaa", sum := "e9ad4ad78df5010a4cf64f1e9a6fe97012cb84da72a6630f5ae28ac79cff3b60", func := "footlocker/footlockerlaw03.QueueNone", spec := "queueNone", apart := false }
def QueueNoneSaid : Prop := queueNoneRow.holds Try.pinned (OpenSpec.ofChange queueNoneSpec)

/-- ITS FALSE NEIGHBOUR: 'it returns false'. Refute it at one input. -/
def queueNoneWrong : ChangeSpec := { name := "queueNone", fn := fun _ => fun
  | [d1, d2] => { results := [.lit (.bool false)], args := [d1, d2] }
  | _ => none }
def QueueNoneWrongFalsely : Prop := queueNoneRow.holds Try.pinned (OpenSpec.ofChange queueNoneWrong)

/-- 'footlockerlaw03.QueueTurns': WHATEVER THE INPUT: true; the input reads as it did. -/
def queueTurnsSpec : ChangeSpec := { name := "queueTurns", fn := fun _ => fun
  | [d1, d2] => { results := [.lit (.bool true)], args := [d1, d2] }
  | _ => none }
def queueTurnsRow : OpenClaim := { program := "ytebeabcbbcbdhaa", sum := "e9ad4ad78df5010a4cf64f1e9a6fe97012cb84da72a6630f5ae28ac79cff3b60", func := "footlocker/footlockerlaw03.QueueTurns", spec := "queueTurns", apart := false }
def QueueTurnsSaid : Prop := queueTurnsRow.holds Try.pinned (OpenSpec.ofChange queueTurnsSpec)

/-- ITS FALSE NEIGHBOUR: 'it returns false'. Refute it at one input. -/
def queueTurnsWrong : ChangeSpec := { name := "queueTurns", fn := fun _ => fun
  | [d1, d2] => { results := [.lit (.bool false)], args := [d1, d2] }
  | _ => none }
def QueueTurnsWrongFalsely : Prop := queueTurnsRow.holds Try.pinned (OpenSpec.ofChange queueTurnsWrong)

/- THE SECOND FORM. 'bulk': how many values and letters a reading holds, each counted each time it is reached (what is shared counts as often as it is met; a slice's spare places count too). A statement '..UptoSaid' is the law's where the arguments, and the package variables that the reading takes, are together of bulk at most 1048576: NARROWER than '..Said'. Prove '..Said' where nothing that the law and all that it calls make is longer than what came in: it says more and counts as full. Else prove '..UptoSaid'. A law counts once. -/
mutual
def uptoBulk {H : Type} : DataW H → Nat
  | .lit (.string bytes) => bytes.length + 1
  | .lit _ => 1
  | .nil => 1
  | .ptr d => uptoBulk d + 1
  | .slice elems spare => uptoBulkAll elems + uptoBulkAll spare + 1
  | .agg parts => uptoBulkAll parts + 1
  | .iface _ d => uptoBulk d + 1
  | .map entries => uptoBulkEntries entries + 1
  | .held _ => 1
def uptoBulkAll {H : Type} : List (DataW H) → Nat
  | [] => 0
  | d :: r => uptoBulk d + uptoBulkAll r
def uptoBulkEntries {H : Type} : List (Lit × DataW H) → Nat
  | [] => 0
  | x :: r => uptoBulkEntry x + uptoBulkEntries r
def uptoBulkEntry {H : Type} : Lit × DataW H → Nat
  | (.string bytes, d) => bytes.length + uptoBulk d + 1
  | (_, d) => uptoBulk d + 1
 end
def uptoSmall : (H : Type) → List (DataW H) → Bool := fun _ ds => decide (uptoBulkAll ds ≤ 1048576)
def OpenSpec.upto (s : _root_.Go.ChangeSpec) : _root_.Go.OpenSpec := { _root_.Go.OpenSpec.ofChange s with cond := some uptoSmall }

/-- 'footlockerlaw12.PolicyMay', WHERE WHAT IT READS IS OF BULK AT MOST 1048576: true; the input reads as it did. -/
def policyMayUptoRow : OpenClaim := { program := "ytebeabcbbcbdhaa", sum := "e9ad4ad78df5010a4cf64f1e9a6fe97012cb84da72a6630f5ae28ac79cff3b60", func := "footlocker/footlockerlaw12.PolicyMay", spec := "policyMay", apart := false, narrowed := true }
def PolicyMayUptoSaid : Prop := policyMayUptoRow.holds Try.pinned (OpenSpec.upto policyMaySpec)

/-- 'footlockerlaw12.PolicyChoose', WHERE WHAT IT READS IS OF BULK AT MOST 1048576: true; the input reads as it did. -/
def policyChooseUptoRow : OpenClaim := { program := "ytebeabcbbcbdhaa", sum := "e9ad4ad78df5010a4cf64f1e9a6fe97012cb84da72a6630f5ae28ac79cff3b60", func := "footlocker/footlockerlaw12.PolicyChoose", spec := "policyChoose", apart := false, narrowed := true }
def PolicyChooseUptoSaid : Prop := policyChooseUptoRow.holds Try.pinned (OpenSpec.upto policyChooseSpec)

/-- 'footlockerlaw12.PolicyDense', WHERE WHAT IT READS IS OF BULK AT MOST 1048576: true; the input reads as it did. -/
def policyDenseUptoRow : OpenClaim := { program := "ytebeabcbbcbdhaa", sum := "e9ad4ad78df5010a4cf64f1e9a6fe97012cb84da72a6630f5ae28ac79cff3b60", func := "footlocker/footlockerlaw12.PolicyDense", spec := "policyDense", apart := false, narrowed := true }
def PolicyDenseUptoSaid : Prop := policyDenseUptoRow.holds Try.pinned (OpenSpec.upto policyDenseSpec)

/-- 'footlockerlaw12.PolicyOrder', WHERE WHAT IT READS IS OF BULK AT MOST 1048576: true; the input reads as it did. -/
def policyOrderUptoRow : OpenClaim := { program := "ytebeabcbbcbdhaa", sum := "e9ad4ad78df5010a4cf64f1e9a6fe97012cb84da72a6630f5ae28ac79cff3b60", func := "footlocker/footlockerlaw12.PolicyOrder", spec := "policyOrder", apart := false, narrowed := true }
def PolicyOrderUptoSaid : Prop := policyOrderUptoRow.holds Try.pinned (OpenSpec.upto policyOrderSpec)

/-- 'footlockerlaw12.PolicyMore', WHERE WHAT IT READS IS OF BULK AT MOST 1048576: true; the input reads as it did. -/
def policyMoreUptoRow : OpenClaim := { program := "ytebeabcbbcbdhaa", sum := "e9ad4ad78df5010a4cf64f1e9a6fe97012cb84da72a6630f5ae28ac79cff3b60", func := "footlocker/footlockerlaw12.PolicyMore", spec := "policyMore", apart := false, narrowed := true }
def PolicyMoreUptoSaid : Prop := policyMoreUptoRow.holds Try.pinned (OpenSpec.upto policyMoreSpec)

/-- 'footlockerlaw03.QueuePlays', WHERE WHAT IT READS IS OF BULK AT MOST 1048576: true; the input reads as it did. -/
def queuePlaysUptoRow : OpenClaim := { program := "ytebeabcbbcbdhaa", sum := "e9ad4ad78df5010a4cf64f1e9a6fe97012cb84da72a6630f5ae28ac79cff3b60", func := "footlocker/footlockerlaw03.QueuePlays", spec := "queuePlays", apart := false, narrowed := true }
def QueuePlaysUptoSaid : Prop := queuePlaysUptoRow.holds Try.pinned (OpenSpec.upto queuePlaysSpec)

/-- 'footlockerlaw03.QueueAll', WHERE WHAT IT READS IS OF BULK AT MOST 1048576: true; the input reads as it did. -/
def queueAllUptoRow : OpenClaim := { program := "ytebeabcbbcbdhaa", sum := "e9ad4ad78df5010a4cf64f1e9a6fe97012cb84da72a6630f5ae28ac79cff3b60", func := "footlocker/footlockerlaw03.QueueAll", spec := "queueAll", apart := false, narrowed := true }
def QueueAllUptoSaid : Prop := queueAllUptoRow.holds Try.pinned (OpenSpec.upto queueAllSpec)

/-- 'footlockerlaw03.QueueNone', WHERE WHAT IT READS IS OF BULK AT MOST 1048576: true; the input reads as it did. -/
def queueNoneUptoRow : OpenClaim := { program := "ytebeabcbbcbdhaa", sum := "e9ad4ad78df5010a4cf64f1e9a6fe97012cb84da72a6630f5ae28ac79cff3b60", func := "footlocker/footlockerlaw03.QueueNone", spec := "queueNone", apart := false, narrowed := true }
def QueueNoneUptoSaid : Prop := queueNoneUptoRow.holds Try.pinned (OpenSpec.upto queueNoneSpec)

/-- 'footlockerlaw03.QueueTurns', WHERE WHAT IT READS IS OF BULK AT MOST 1048576: true; the input reads as it did. -/
def queueTurnsUptoRow : OpenClaim := { program := "ytebeabcbbcbdhaa", sum := "e9ad4ad78df5010a4cf64f1e9a6fe97012cb84da72a6630f5ae28ac79cff3b60", func := "footlocker/footlockerlaw03.QueueTurns", spec := "queueTurns", apart := false, narrowed := true }
def QueueTurnsUptoSaid : Prop := queueTurnsUptoRow.holds Try.pinned (OpenSpec.upto queueTurnsSpec)

end Rows
end Go.Proofs.Ytebeabcbbcbdhaa
