/-
  No cell of these rows narrows 'for every input' (looked for: loops, veiled, ifaces, maps, wideKeys, modest, calm, conditions, laid).
  DERIVED. THE GIVEN ROWS OF THIS SEAT. 7 by the template 'for every input the law returns true; each argument reads behind the call as it read before'; 0 by the template 'total and deterministic' (their statements: YthoodnlihbaimaaTotals.lean).
  GIVEN WITH THE SEED: the statements are not yours to turn. If you find one false, say at which input.
  Laid BY PROGRAM, IN A SANDBOX (cutbox-rows.mjs): the forced cells as the released guide's own fill.sh prints them over the translation f97d493eba7f2804… (all of the seat's roots in one cut). By AI agents, Wed Nov 11 2026. No macro, syntax, notation, axiom, sorry.
-/
import Derived.Test.YthoodnlihbaimaaChecked
import GoSem.Claim
import GoSem.ClaimJoined
import GoSem.ClaimMapViews
import Derived.JoinedTies
import Derived.KernelRfl
namespace Go.Proofs.Ythoodnlihbaimaa
/- THE CELL 'sum', in the pinned program and in every row, IS THE sha256 OF THE DUMP (.gsa) THAT YthoodnlihbaimaaProg.lean LOADS. Nothing in Lean hashes anything: it is a label: what it is worth is what the hold of that sum in a sandbox is worth. -/
noncomputable def Try.pinned : Pinned := { name := "ythoodnlihbaimaa", sum := "f97d493eba7f2804674aa21a2eb4653183fca9de5b54ffc7ad3d655bfbe76bb7", checked := Try.checked }
namespace Rows
def none {H : Type} : Left H := { results := [], args := [] }

/-- 'footlockerlaw20.HistOrder': WHATEVER THE INPUT: true; the input reads as it did. -/
def histOrderSpec : ChangeSpec := { name := "histOrder", fn := fun _ => fun
  | [d] => { results := [.lit (.bool true)], args := [d] }
  | _ => none }
def histOrderRow : OpenClaim := { program := "ythoodnlihbaimaa", sum := "f97d493eba7f2804674aa21a2eb4653183fca9de5b54ffc7ad3d655bfbe76bb7", func := "footlocker/footlockerlaw20.HistOrder", spec := "histOrder", unfollowed := true, recurses := true, apart := false }
def HistOrderSaid : Prop := histOrderRow.holds Try.pinned (OpenSpec.ofChange histOrderSpec)

/-- ITS FALSE NEIGHBOUR: 'it returns false'. Refute it at one input. -/
def histOrderWrong : ChangeSpec := { name := "histOrder", fn := fun _ => fun
  | [d] => { results := [.lit (.bool false)], args := [d] }
  | _ => none }
def HistOrderWrongFalsely : Prop := histOrderRow.holds Try.pinned (OpenSpec.ofChange histOrderWrong)

/-- 'footlockerlaw20.HistWithin': WHATEVER THE INPUT: true; the input reads as it did. -/
def histWithinSpec : ChangeSpec := { name := "histWithin", fn := fun _ => fun
  | [d] => { results := [.lit (.bool true)], args := [d] }
  | _ => none }
def histWithinRow : OpenClaim := { program := "ythoodnlihbaimaa", sum := "f97d493eba7f2804674aa21a2eb4653183fca9de5b54ffc7ad3d655bfbe76bb7", func := "footlocker/footlockerlaw20.HistWithin", spec := "histWithin", unfollowed := true, recurses := true, apart := false }
def HistWithinSaid : Prop := histWithinRow.holds Try.pinned (OpenSpec.ofChange histWithinSpec)

/-- ITS FALSE NEIGHBOUR: 'it returns false'. Refute it at one input. -/
def histWithinWrong : ChangeSpec := { name := "histWithin", fn := fun _ => fun
  | [d] => { results := [.lit (.bool false)], args := [d] }
  | _ => none }
def HistWithinWrongFalsely : Prop := histWithinRow.holds Try.pinned (OpenSpec.ofChange histWithinWrong)

/-- 'footlockerlaw20.HistTime': WHATEVER THE INPUT: true; the input reads as it did. -/
def histTimeSpec : ChangeSpec := { name := "histTime", fn := fun _ => fun
  | [d] => { results := [.lit (.bool true)], args := [d] }
  | _ => none }
def histTimeRow : OpenClaim := { program := "ythoodnlihbaimaa", sum := "f97d493eba7f2804674aa21a2eb4653183fca9de5b54ffc7ad3d655bfbe76bb7", func := "footlocker/footlockerlaw20.HistTime", spec := "histTime", unfollowed := true, recurses := true, apart := false }
def HistTimeSaid : Prop := histTimeRow.holds Try.pinned (OpenSpec.ofChange histTimeSpec)

/-- ITS FALSE NEIGHBOUR: 'it returns false'. Refute it at one input. -/
def histTimeWrong : ChangeSpec := { name := "histTime", fn := fun _ => fun
  | [d] => { results := [.lit (.bool false)], args := [d] }
  | _ => none }
def HistTimeWrongFalsely : Prop := histTimeRow.holds Try.pinned (OpenSpec.ofChange histTimeWrong)

/-- 'footlockerlaw20.HistLess': WHATEVER THE INPUT: true; the input reads as it did. -/
def histLessSpec : ChangeSpec := { name := "histLess", fn := fun _ => fun
  | [d] => { results := [.lit (.bool true)], args := [d] }
  | _ => none }
def histLessRow : OpenClaim := { program := "ythoodnlihbaimaa", sum := "f97d493eba7f2804674aa21a2eb4653183fca9de5b54ffc7ad3d655bfbe76bb7", func := "footlocker/footlockerlaw20.HistLess", spec := "histLess", unfollowed := true, recurses := true, apart := false }
def HistLessSaid : Prop := histLessRow.holds Try.pinned (OpenSpec.ofChange histLessSpec)

/-- ITS FALSE NEIGHBOUR: 'it returns false'. Refute it at one input. -/
def histLessWrong : ChangeSpec := { name := "histLess", fn := fun _ => fun
  | [d] => { results := [.lit (.bool false)], args := [d] }
  | _ => none }
def HistLessWrongFalsely : Prop := histLessRow.holds Try.pinned (OpenSpec.ofChange histLessWrong)

/-- 'footlockerlaw19.ModelRoom': WHATEVER THE INPUT: true; the input reads as it did. -/
def modelRoomSpec : ChangeSpec := { name := "modelRoom", fn := fun _ => fun
  | [d1, d2, d3] => { results := [.lit (.bool true)], args := [d1, d2, d3] }
  | _ => none }
def modelRoomRow : OpenClaim := { program := "ythoodnlihbaimaa", sum := "f97d493eba7f2804674aa21a2eb4653183fca9de5b54ffc7ad3d655bfbe76bb7", func := "footlocker/footlockerlaw19.ModelRoom", spec := "modelRoom", unfollowed := true, recurses := true, apart := false }
def ModelRoomSaid : Prop := modelRoomRow.holds Try.pinned (OpenSpec.ofChange modelRoomSpec)

/-- ITS FALSE NEIGHBOUR: 'it returns false'. Refute it at one input. -/
def modelRoomWrong : ChangeSpec := { name := "modelRoom", fn := fun _ => fun
  | [d1, d2, d3] => { results := [.lit (.bool false)], args := [d1, d2, d3] }
  | _ => none }
def ModelRoomWrongFalsely : Prop := modelRoomRow.holds Try.pinned (OpenSpec.ofChange modelRoomWrong)

/-- 'footlockerlaw19.ModelNone': WHATEVER THE INPUT: true; the input reads as it did. -/
def modelNoneSpec : ChangeSpec := { name := "modelNone", fn := fun _ => fun
  | [d] => { results := [.lit (.bool true)], args := [d] }
  | _ => none }
def modelNoneRow : OpenClaim := { program := "ythoodnlihbaimaa", sum := "f97d493eba7f2804674aa21a2eb4653183fca9de5b54ffc7ad3d655bfbe76bb7", func := "footlocker/footlockerlaw19.ModelNone", spec := "modelNone", unfollowed := true, recurses := true, apart := false }
def ModelNoneSaid : Prop := modelNoneRow.holds Try.pinned (OpenSpec.ofChange modelNoneSpec)

/-- ITS FALSE NEIGHBOUR: 'it returns false'. Refute it at one input. -/
def modelNoneWrong : ChangeSpec := { name := "modelNone", fn := fun _ => fun
  | [d] => { results := [.lit (.bool false)], args := [d] }
  | _ => none }
def ModelNoneWrongFalsely : Prop := modelNoneRow.holds Try.pinned (OpenSpec.ofChange modelNoneWrong)

/-- 'footlockerlaw19.ModelApart': WHATEVER THE INPUT: true; the input reads as it did. -/
def modelApartSpec : ChangeSpec := { name := "modelApart", fn := fun _ => fun
  | [d1, d2] => { results := [.lit (.bool true)], args := [d1, d2] }
  | _ => none }
def modelApartRow : OpenClaim := { program := "ythoodnlihbaimaa", sum := "f97d493eba7f2804674aa21a2eb4653183fca9de5b54ffc7ad3d655bfbe76bb7", func := "footlocker/footlockerlaw19.ModelApart", spec := "modelApart", unfollowed := true, recurses := true, apart := false }
def ModelApartSaid : Prop := modelApartRow.holds Try.pinned (OpenSpec.ofChange modelApartSpec)

/-- ITS FALSE NEIGHBOUR: 'it returns false'. Refute it at one input. -/
def modelApartWrong : ChangeSpec := { name := "modelApart", fn := fun _ => fun
  | [d1, d2] => { results := [.lit (.bool false)], args := [d1, d2] }
  | _ => none }
def ModelApartWrongFalsely : Prop := modelApartRow.holds Try.pinned (OpenSpec.ofChange modelApartWrong)

/- THE SECOND FORM. 'bulk': how many values and letters a reading holds, each counted each time it is reached (what is shared counts as often as it is met; a slice's spare places count too). A statement '..UptoSaid' is the law's where the arguments, and the package variables that the reading takes, are together of bulk at most 1048576: NARROWER than '..Said'. Prove '..Said' where nothing that the law and all that it calls make is longer than what came in: it says more and counts as full. Else prove '..UptoSaid'. A law counts once. -/
mutual
def uptoBulk {H : Type} : DataW H → Nat
  | .lit (.string bytes) => bytes.length + 1
  | .lit _ => 1
  | .nil => 1
  | .ptr d => uptoBulk d + 1
  | .slice elems spare => uptoBulkAll elems + uptoBulkAll spare + 1
  | .agg parts => uptoBulkAll parts + 1
  | .iface _ d => uptoBulk d + 1
  | .map entries => uptoBulkEntries entries + 1
  | .held _ => 1
def uptoBulkAll {H : Type} : List (DataW H) → Nat
  | [] => 0
  | d :: r => uptoBulk d + uptoBulkAll r
def uptoBulkEntries {H : Type} : List (Lit × DataW H) → Nat
  | [] => 0
  | x :: r => uptoBulkEntry x + uptoBulkEntries r
def uptoBulkEntry {H : Type} : Lit × DataW H → Nat
  | (.string bytes, d) => bytes.length + uptoBulk d + 1
  | (_, d) => uptoBulk d + 1
 end
def uptoSmall : (H : Type) → List (DataW H) → Bool := fun _ ds => decide (uptoBulkAll ds ≤ 1048576)
def OpenSpec.upto (s : _root_.Go.ChangeSpec) : _root_.Go.OpenSpec := { _root_.Go.OpenSpec.ofChange s with cond := some uptoSmall }

/-- 'footlockerlaw20.HistOrder', WHERE WHAT IT READS IS OF BULK AT MOST 1048576: true; the input reads as it did. -/
def histOrderUptoRow : OpenClaim := { program := "ythoodnlihbaimaa", sum := "f97d493eba7f2804674aa21a2eb4653183fca9de5b54ffc7ad3d655bfbe76bb7", func := "footlocker/footlockerlaw20.HistOrder", spec := "histOrder", unfollowed := true, recurses := true, apart := false, narrowed := true }
def HistOrderUptoSaid : Prop := histOrderUptoRow.holds Try.pinned (OpenSpec.upto histOrderSpec)

/-- 'footlockerlaw20.HistWithin', WHERE WHAT IT READS IS OF BULK AT MOST 1048576: true; the input reads as it did. -/
def histWithinUptoRow : OpenClaim := { program := "ythoodnlihbaimaa", sum := "f97d493eba7f2804674aa21a2eb4653183fca9de5b54ffc7ad3d655bfbe76bb7", func := "footlocker/footlockerlaw20.HistWithin", spec := "histWithin", unfollowed := true, recurses := true, apart := false, narrowed := true }
def HistWithinUptoSaid : Prop := histWithinUptoRow.holds Try.pinned (OpenSpec.upto histWithinSpec)

/-- 'footlockerlaw20.HistTime', WHERE WHAT IT READS IS OF BULK AT MOST 1048576: true; the input reads as it did. -/
def histTimeUptoRow : OpenClaim := { program := "ythoodnlihbaimaa", sum := "f97d493eba7f2804674aa21a2eb4653183fca9de5b54ffc7ad3d655bfbe76bb7", func := "footlocker/footlockerlaw20.HistTime", spec := "histTime", unfollowed := true, recurses := true, apart := false, narrowed := true }
def HistTimeUptoSaid : Prop := histTimeUptoRow.holds Try.pinned (OpenSpec.upto histTimeSpec)

/-- 'footlockerlaw20.HistLess', WHERE WHAT IT READS IS OF BULK AT MOST 1048576: true; the input reads as it did. -/
def histLessUptoRow : OpenClaim := { program := "ythoodnlihbaimaa", sum := "f97d493eba7f2804674aa21a2eb4653183fca9de5b54ffc7ad3d655bfbe76bb7", func := "footlocker/footlockerlaw20.HistLess", spec := "histLess", unfollowed := true, recurses := true, apart := false, narrowed := true }
def HistLessUptoSaid : Prop := histLessUptoRow.holds Try.pinned (OpenSpec.upto histLessSpec)

/-- 'footlockerlaw19.ModelRoom', WHERE WHAT IT READS IS OF BULK AT MOST 1048576: true; the input reads as it did. -/
def modelRoomUptoRow : OpenClaim := { program := "ythoodnlihbaimaa", sum := "f97d493eba7f2804674aa21a2eb4653183fca9de5b54ffc7ad3d655bfbe76bb7", func := "footlocker/footlockerlaw19.ModelRoom", spec := "modelRoom", unfollowed := true, recurses := true, apart := false, narrowed := true }
def ModelRoomUptoSaid : Prop := modelRoomUptoRow.holds Try.pinned (OpenSpec.upto modelRoomSpec)

/-- 'footlockerlaw19.ModelNone', WHERE WHAT IT READS IS OF BULK AT MOST 1048576: true; the input reads as it did. -/
def modelNoneUptoRow : OpenClaim := { program := "ythoodnlihbaimaa", sum := "f97d493eba7f2804674aa21a2eb4653183fca9de5b54ffc7ad3d655bfbe76bb7", func := "footlocker/footlockerlaw19.ModelNone", spec := "modelNone", unfollowed := true, recurses := true, apart := false, narrowed := true }
def ModelNoneUptoSaid : Prop := modelNoneUptoRow.holds Try.pinned (OpenSpec.upto modelNoneSpec)

/-- 'footlockerlaw19.ModelApart', WHERE WHAT IT READS IS OF BULK AT MOST 1048576: true; the input reads as it did. -/
def modelApartUptoRow : OpenClaim := { program := "ythoodnlihbaimaa", sum := "f97d493eba7f2804674aa21a2eb4653183fca9de5b54ffc7ad3d655bfbe76bb7", func := "footlocker/footlockerlaw19.ModelApart", spec := "modelApart", unfollowed := true, recurses := true, apart := false, narrowed := true }
def ModelApartUptoSaid : Prop := modelApartUptoRow.holds Try.pinned (OpenSpec.upto modelApartSpec)

end Rows
end Go.Proofs.Ythoodnlihbaimaa
