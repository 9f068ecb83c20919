/-
  No cell of these rows narrows 'for every input' (looked for: loops, veiled, ifaces, maps, wideKeys, modest, calm, conditions, laid).
  DERIVED. THE GIVEN ROWS OF THIS SEAT. 16 by the template 'for every input the law returns true; each argument reads behind the call as it read before'; 0 by the template 'total and deterministic' (their statements: YtglghdjpkecngaaGreatTotals.lean).
  GIVEN WITH THE SEED: the statements are not yours to turn. If you find one false, say at which input.
  Laid BY PROGRAM, IN A SANDBOX (cutbox-rows.mjs): the forced cells as the released guide's own fill.sh prints them over the translation 1ccf84c8953a659c… (all of the seat's roots in one cut). By AI agents, Wed Nov 11 2026. No macro, syntax, notation, axiom, sorry.
-/
import Derived.Test.YtglghdjpkecngaaGreatChecked
import GoSem.Claim
import GoSem.ClaimJoined
import GoSem.ClaimMapViews
import Derived.JoinedTies
import Derived.KernelRfl
namespace Go.Proofs.YtglghdjpkecngaaGreat
/- THE CELL 'sum', in the pinned program and in every row, IS THE sha256 OF THE DUMP (.gsa) THAT YtglghdjpkecngaaGreatProg.lean LOADS. Nothing in Lean hashes anything: it is a label: what it is worth is what the hold of that sum in a sandbox is worth. -/
noncomputable def Tryz.pinned : Pinned := { name := "ytglghdjpkecngaagreat", sum := "1ccf84c8953a659c4c0da5ccfa91973dbf74c1112a485339f39acb473728bc78", checked := Tryz.checked }
namespace Rows
def none {H : Type} : Left H := { results := [], args := [] }

/-- 'footlockerlaw16.ListLinks': WHATEVER THE INPUT: true; the input reads as it did. -/
def listLinksSpec : ChangeSpec := { name := "listLinks", fn := fun _ => fun
  | [d1, d2] => { results := [.lit (.bool true)], args := [d1, d2] }
  | _ => none }
def listLinksRow : OpenClaim := { program := "ytglghdjpkecngaagreat", sum := "1ccf84c8953a659c4c0da5ccfa91973dbf74c1112a485339f39acb473728bc78", func := "footlocker/footlockerlaw16.ListLinks", spec := "listLinks", unfollowed := true, recurses := true, apart := false }
def ListLinksSaid : Prop := listLinksRow.holds Tryz.pinned (OpenSpec.ofChange listLinksSpec)

/-- ITS FALSE NEIGHBOUR: 'it returns false'. Refute it at one input. -/
def listLinksWrong : ChangeSpec := { name := "listLinks", fn := fun _ => fun
  | [d1, d2] => { results := [.lit (.bool false)], args := [d1, d2] }
  | _ => none }
def ListLinksWrongFalsely : Prop := listLinksRow.holds Tryz.pinned (OpenSpec.ofChange listLinksWrong)

/-- 'footlockerlaw16.ListNone': WHATEVER THE INPUT: true; the input reads as it did. -/
def listNoneSpec : ChangeSpec := { name := "listNone", fn := fun _ => fun
  | [d1, d2, d3] => { results := [.lit (.bool true)], args := [d1, d2, d3] }
  | _ => none }
def listNoneRow : OpenClaim := { program := "ytglghdjpkecngaagreat", sum := "1ccf84c8953a659c4c0da5ccfa91973dbf74c1112a485339f39acb473728bc78", func := "footlocker/footlockerlaw16.ListNone", spec := "listNone", unfollowed := true, recurses := true, apart := false }
def ListNoneSaid : Prop := listNoneRow.holds Tryz.pinned (OpenSpec.ofChange listNoneSpec)

/-- ITS FALSE NEIGHBOUR: 'it returns false'. Refute it at one input. -/
def listNoneWrong : ChangeSpec := { name := "listNone", fn := fun _ => fun
  | [d1, d2, d3] => { results := [.lit (.bool false)], args := [d1, d2, d3] }
  | _ => none }
def ListNoneWrongFalsely : Prop := listNoneRow.holds Tryz.pinned (OpenSpec.ofChange listNoneWrong)

/-- 'footlockerlaw16.ListOnce': WHATEVER THE INPUT: true; the input reads as it did. -/
def listOnceSpec : ChangeSpec := { name := "listOnce", fn := fun _ => fun
  | [d1, d2, d3] => { results := [.lit (.bool true)], args := [d1, d2, d3] }
  | _ => none }
def listOnceRow : OpenClaim := { program := "ytglghdjpkecngaagreat", sum := "1ccf84c8953a659c4c0da5ccfa91973dbf74c1112a485339f39acb473728bc78", func := "footlocker/footlockerlaw16.ListOnce", spec := "listOnce", unfollowed := true, recurses := true, apart := false }
def ListOnceSaid : Prop := listOnceRow.holds Tryz.pinned (OpenSpec.ofChange listOnceSpec)

/-- ITS FALSE NEIGHBOUR: 'it returns false'. Refute it at one input. -/
def listOnceWrong : ChangeSpec := { name := "listOnce", fn := fun _ => fun
  | [d1, d2, d3] => { results := [.lit (.bool false)], args := [d1, d2, d3] }
  | _ => none }
def ListOnceWrongFalsely : Prop := listOnceRow.holds Tryz.pinned (OpenSpec.ofChange listOnceWrong)

/-- 'footlockerlaw16.ListStuck': WHATEVER THE INPUT: true; the input reads as it did. -/
def listStuckSpec : ChangeSpec := { name := "listStuck", fn := fun _ => fun
  | [d1, d2, d3] => { results := [.lit (.bool true)], args := [d1, d2, d3] }
  | _ => none }
def listStuckRow : OpenClaim := { program := "ytglghdjpkecngaagreat", sum := "1ccf84c8953a659c4c0da5ccfa91973dbf74c1112a485339f39acb473728bc78", func := "footlocker/footlockerlaw16.ListStuck", spec := "listStuck", unfollowed := true, recurses := true, apart := false }
def ListStuckSaid : Prop := listStuckRow.holds Tryz.pinned (OpenSpec.ofChange listStuckSpec)

/-- ITS FALSE NEIGHBOUR: 'it returns false'. Refute it at one input. -/
def listStuckWrong : ChangeSpec := { name := "listStuck", fn := fun _ => fun
  | [d1, d2, d3] => { results := [.lit (.bool false)], args := [d1, d2, d3] }
  | _ => none }
def ListStuckWrongFalsely : Prop := listStuckRow.holds Tryz.pinned (OpenSpec.ofChange listStuckWrong)

/-- 'footlockerlaw16.ListAlone': WHATEVER THE INPUT: true; the input reads as it did. -/
def listAloneSpec : ChangeSpec := { name := "listAlone", fn := fun _ => fun
  | [d] => { results := [.lit (.bool true)], args := [d] }
  | _ => none }
def listAloneRow : OpenClaim := { program := "ytglghdjpkecngaagreat", sum := "1ccf84c8953a659c4c0da5ccfa91973dbf74c1112a485339f39acb473728bc78", func := "footlocker/footlockerlaw16.ListAlone", spec := "listAlone", unfollowed := true, recurses := true, apart := false }
def ListAloneSaid : Prop := listAloneRow.holds Tryz.pinned (OpenSpec.ofChange listAloneSpec)

/-- ITS FALSE NEIGHBOUR: 'it returns false'. Refute it at one input. -/
def listAloneWrong : ChangeSpec := { name := "listAlone", fn := fun _ => fun
  | [d] => { results := [.lit (.bool false)], args := [d] }
  | _ => none }
def ListAloneWrongFalsely : Prop := listAloneRow.holds Tryz.pinned (OpenSpec.ofChange listAloneWrong)

/-- 'footlockerlaw16.ListShares': WHATEVER THE INPUT: true; the input reads as it did. -/
def listSharesSpec : ChangeSpec := { name := "listShares", fn := fun _ => fun
  | [d1, d2] => { results := [.lit (.bool true)], args := [d1, d2] }
  | _ => none }
def listSharesRow : OpenClaim := { program := "ytglghdjpkecngaagreat", sum := "1ccf84c8953a659c4c0da5ccfa91973dbf74c1112a485339f39acb473728bc78", func := "footlocker/footlockerlaw16.ListShares", spec := "listShares", unfollowed := true, recurses := true, apart := false }
def ListSharesSaid : Prop := listSharesRow.holds Tryz.pinned (OpenSpec.ofChange listSharesSpec)

/-- ITS FALSE NEIGHBOUR: 'it returns false'. Refute it at one input. -/
def listSharesWrong : ChangeSpec := { name := "listShares", fn := fun _ => fun
  | [d1, d2] => { results := [.lit (.bool false)], args := [d1, d2] }
  | _ => none }
def ListSharesWrongFalsely : Prop := listSharesRow.holds Tryz.pinned (OpenSpec.ofChange listSharesWrong)

/-- 'footlockerlaw16.ListFull': WHATEVER THE INPUT: true; the input reads as it did. -/
def listFullSpec : ChangeSpec := { name := "listFull", fn := fun _ => fun
  | [d1, d2] => { results := [.lit (.bool true)], args := [d1, d2] }
  | _ => none }
def listFullRow : OpenClaim := { program := "ytglghdjpkecngaagreat", sum := "1ccf84c8953a659c4c0da5ccfa91973dbf74c1112a485339f39acb473728bc78", func := "footlocker/footlockerlaw16.ListFull", spec := "listFull", unfollowed := true, recurses := true, apart := false }
def ListFullSaid : Prop := listFullRow.holds Tryz.pinned (OpenSpec.ofChange listFullSpec)

/-- ITS FALSE NEIGHBOUR: 'it returns false'. Refute it at one input. -/
def listFullWrong : ChangeSpec := { name := "listFull", fn := fun _ => fun
  | [d1, d2] => { results := [.lit (.bool false)], args := [d1, d2] }
  | _ => none }
def ListFullWrongFalsely : Prop := listFullRow.holds Tryz.pinned (OpenSpec.ofChange listFullWrong)

/-- 'footlockerlaw16.ListSteps': WHATEVER THE INPUT: true; the input reads as it did. -/
def listStepsSpec : ChangeSpec := { name := "listSteps", fn := fun _ => fun
  | [d] => { results := [.lit (.bool true)], args := [d] }
  | _ => none }
def listStepsRow : OpenClaim := { program := "ytglghdjpkecngaagreat", sum := "1ccf84c8953a659c4c0da5ccfa91973dbf74c1112a485339f39acb473728bc78", func := "footlocker/footlockerlaw16.ListSteps", spec := "listSteps", unfollowed := true, recurses := true, apart := false }
def ListStepsSaid : Prop := listStepsRow.holds Tryz.pinned (OpenSpec.ofChange listStepsSpec)

/-- ITS FALSE NEIGHBOUR: 'it returns false'. Refute it at one input. -/
def listStepsWrong : ChangeSpec := { name := "listSteps", fn := fun _ => fun
  | [d] => { results := [.lit (.bool false)], args := [d] }
  | _ => none }
def ListStepsWrongFalsely : Prop := listStepsRow.holds Tryz.pinned (OpenSpec.ofChange listStepsWrong)

/-- 'footlockerlaw17.ShelfSpreads': WHATEVER THE INPUT: true; the input reads as it did. -/
def shelfSpreadsSpec : ChangeSpec := { name := "shelfSpreads", fn := fun _ => fun
  | [d1, d2] => { results := [.lit (.bool true)], args := [d1, d2] }
  | _ => none }
def shelfSpreadsRow : OpenClaim := { program := "ytglghdjpkecngaagreat", sum := "1ccf84c8953a659c4c0da5ccfa91973dbf74c1112a485339f39acb473728bc78", func := "footlocker/footlockerlaw17.ShelfSpreads", spec := "shelfSpreads", unfollowed := true, recurses := true, apart := false }
def ShelfSpreadsSaid : Prop := shelfSpreadsRow.holds Tryz.pinned (OpenSpec.ofChange shelfSpreadsSpec)

/-- ITS FALSE NEIGHBOUR: 'it returns false'. Refute it at one input. -/
def shelfSpreadsWrong : ChangeSpec := { name := "shelfSpreads", fn := fun _ => fun
  | [d1, d2] => { results := [.lit (.bool false)], args := [d1, d2] }
  | _ => none }
def ShelfSpreadsWrongFalsely : Prop := shelfSpreadsRow.holds Tryz.pinned (OpenSpec.ofChange shelfSpreadsWrong)

/-- 'footlockerlaw17.ShelfNone': WHATEVER THE INPUT: true; the input reads as it did. -/
def shelfNoneSpec : ChangeSpec := { name := "shelfNone", fn := fun _ => fun
  | [d1, d2] => { results := [.lit (.bool true)], args := [d1, d2] }
  | _ => none }
def shelfNoneRow : OpenClaim := { program := "ytglghdjpkecngaagreat", sum := "1ccf84c8953a659c4c0da5ccfa91973dbf74c1112a485339f39acb473728bc78", func := "footlocker/footlockerlaw17.ShelfNone", spec := "shelfNone", unfollowed := true, recurses := true, apart := false }
def ShelfNoneSaid : Prop := shelfNoneRow.holds Tryz.pinned (OpenSpec.ofChange shelfNoneSpec)

/-- ITS FALSE NEIGHBOUR: 'it returns false'. Refute it at one input. -/
def shelfNoneWrong : ChangeSpec := { name := "shelfNone", fn := fun _ => fun
  | [d1, d2] => { results := [.lit (.bool false)], args := [d1, d2] }
  | _ => none }
def ShelfNoneWrongFalsely : Prop := shelfNoneRow.holds Tryz.pinned (OpenSpec.ofChange shelfNoneWrong)

/-- 'footlockerlaw17.ShelfApart': WHATEVER THE INPUT: true; the input reads as it did. -/
def shelfApartSpec : ChangeSpec := { name := "shelfApart", fn := fun _ => fun
  | [d1, d2] => { results := [.lit (.bool true)], args := [d1, d2] }
  | _ => none }
def shelfApartRow : OpenClaim := { program := "ytglghdjpkecngaagreat", sum := "1ccf84c8953a659c4c0da5ccfa91973dbf74c1112a485339f39acb473728bc78", func := "footlocker/footlockerlaw17.ShelfApart", spec := "shelfApart", unfollowed := true, recurses := true, apart := false }
def ShelfApartSaid : Prop := shelfApartRow.holds Tryz.pinned (OpenSpec.ofChange shelfApartSpec)

/-- ITS FALSE NEIGHBOUR: 'it returns false'. Refute it at one input. -/
def shelfApartWrong : ChangeSpec := { name := "shelfApart", fn := fun _ => fun
  | [d1, d2] => { results := [.lit (.bool false)], args := [d1, d2] }
  | _ => none }
def ShelfApartWrongFalsely : Prop := shelfApartRow.holds Tryz.pinned (OpenSpec.ofChange shelfApartWrong)

/-- 'footlockerlaw18.WorkerPlays': WHATEVER THE INPUT: true; the input reads as it did. -/
def workerPlaysSpec : ChangeSpec := { name := "workerPlays", fn := fun _ => fun
  | [d] => { results := [.lit (.bool true)], args := [d] }
  | _ => none }
def workerPlaysRow : OpenClaim := { program := "ytglghdjpkecngaagreat", sum := "1ccf84c8953a659c4c0da5ccfa91973dbf74c1112a485339f39acb473728bc78", func := "footlocker/footlockerlaw18.WorkerPlays", spec := "workerPlays", unfollowed := true, recurses := true, apart := false }
def WorkerPlaysSaid : Prop := workerPlaysRow.holds Tryz.pinned (OpenSpec.ofChange workerPlaysSpec)

/-- ITS FALSE NEIGHBOUR: 'it returns false'. Refute it at one input. -/
def workerPlaysWrong : ChangeSpec := { name := "workerPlays", fn := fun _ => fun
  | [d] => { results := [.lit (.bool false)], args := [d] }
  | _ => none }
def WorkerPlaysWrongFalsely : Prop := workerPlaysRow.holds Tryz.pinned (OpenSpec.ofChange workerPlaysWrong)

/-- 'footlockerlaw18.WorkerSteps': WHATEVER THE INPUT: true; the input reads as it did. -/
def workerStepsSpec : ChangeSpec := { name := "workerSteps", fn := fun _ => fun
  | [d] => { results := [.lit (.bool true)], args := [d] }
  | _ => none }
def workerStepsRow : OpenClaim := { program := "ytglghdjpkecngaagreat", sum := "1ccf84c8953a659c4c0da5ccfa91973dbf74c1112a485339f39acb473728bc78", func := "footlocker/footlockerlaw18.WorkerSteps", spec := "workerSteps", unfollowed := true, recurses := true, apart := false }
def WorkerStepsSaid : Prop := workerStepsRow.holds Tryz.pinned (OpenSpec.ofChange workerStepsSpec)

/-- ITS FALSE NEIGHBOUR: 'it returns false'. Refute it at one input. -/
def workerStepsWrong : ChangeSpec := { name := "workerSteps", fn := fun _ => fun
  | [d] => { results := [.lit (.bool false)], args := [d] }
  | _ => none }
def WorkerStepsWrongFalsely : Prop := workerStepsRow.holds Tryz.pinned (OpenSpec.ofChange workerStepsWrong)

/-- 'footlockerlaw18.WorkerChecks': WHATEVER THE INPUT: true; the input reads as it did. -/
def workerChecksSpec : ChangeSpec := { name := "workerChecks", fn := fun _ => fun
  | [d1, d2, d3] => { results := [.lit (.bool true)], args := [d1, d2, d3] }
  | _ => none }
def workerChecksRow : OpenClaim := { program := "ytglghdjpkecngaagreat", sum := "1ccf84c8953a659c4c0da5ccfa91973dbf74c1112a485339f39acb473728bc78", func := "footlocker/footlockerlaw18.WorkerChecks", spec := "workerChecks", unfollowed := true, recurses := true, apart := false }
def WorkerChecksSaid : Prop := workerChecksRow.holds Tryz.pinned (OpenSpec.ofChange workerChecksSpec)

/-- ITS FALSE NEIGHBOUR: 'it returns false'. Refute it at one input. -/
def workerChecksWrong : ChangeSpec := { name := "workerChecks", fn := fun _ => fun
  | [d1, d2, d3] => { results := [.lit (.bool false)], args := [d1, d2, d3] }
  | _ => none }
def WorkerChecksWrongFalsely : Prop := workerChecksRow.holds Tryz.pinned (OpenSpec.ofChange workerChecksWrong)

/-- 'footlockerlaw18.WorkerNone': WHATEVER THE INPUT: true; the input reads as it did. -/
def workerNoneSpec : ChangeSpec := { name := "workerNone", fn := fun _ => fun
  | [d] => { results := [.lit (.bool true)], args := [d] }
  | _ => none }
def workerNoneRow : OpenClaim := { program := "ytglghdjpkecngaagreat", sum := "1ccf84c8953a659c4c0da5ccfa91973dbf74c1112a485339f39acb473728bc78", func := "footlocker/footlockerlaw18.WorkerNone", spec := "workerNone", unfollowed := true, recurses := true, apart := false }
def WorkerNoneSaid : Prop := workerNoneRow.holds Tryz.pinned (OpenSpec.ofChange workerNoneSpec)

/-- ITS FALSE NEIGHBOUR: 'it returns false'. Refute it at one input. -/
def workerNoneWrong : ChangeSpec := { name := "workerNone", fn := fun _ => fun
  | [d] => { results := [.lit (.bool false)], args := [d] }
  | _ => none }
def WorkerNoneWrongFalsely : Prop := workerNoneRow.holds Tryz.pinned (OpenSpec.ofChange workerNoneWrong)

/-- 'footlockerlaw18.WorkerLater': WHATEVER THE INPUT: true; the input reads as it did. -/
def workerLaterSpec : ChangeSpec := { name := "workerLater", fn := fun _ => fun
  | [d1, d2] => { results := [.lit (.bool true)], args := [d1, d2] }
  | _ => none }
def workerLaterRow : OpenClaim := { program := "ytglghdjpkecngaagreat", sum := "1ccf84c8953a659c4c0da5ccfa91973dbf74c1112a485339f39acb473728bc78", func := "footlocker/footlockerlaw18.WorkerLater", spec := "workerLater", unfollowed := true, recurses := true, apart := false }
def WorkerLaterSaid : Prop := workerLaterRow.holds Tryz.pinned (OpenSpec.ofChange workerLaterSpec)

/-- ITS FALSE NEIGHBOUR: 'it returns false'. Refute it at one input. -/
def workerLaterWrong : ChangeSpec := { name := "workerLater", fn := fun _ => fun
  | [d1, d2] => { results := [.lit (.bool false)], args := [d1, d2] }
  | _ => none }
def WorkerLaterWrongFalsely : Prop := workerLaterRow.holds Tryz.pinned (OpenSpec.ofChange workerLaterWrong)

/- THE SECOND FORM. 'bulk': how many values and letters a reading holds, each counted each time it is reached (what is shared counts as often as it is met; a slice's spare places count too). A statement '..UptoSaid' is the law's where the arguments, and the package variables that the reading takes, are together of bulk at most 1048576: NARROWER than '..Said'. Prove '..Said' where nothing that the law and all that it calls make is longer than what came in: it says more and counts as full. Else prove '..UptoSaid'. A law counts once. -/
mutual
def uptoBulk {H : Type} : DataW H → Nat
  | .lit (.string bytes) => bytes.length + 1
  | .lit _ => 1
  | .nil => 1
  | .ptr d => uptoBulk d + 1
  | .slice elems spare => uptoBulkAll elems + uptoBulkAll spare + 1
  | .agg parts => uptoBulkAll parts + 1
  | .iface _ d => uptoBulk d + 1
  | .map entries => uptoBulkEntries entries + 1
  | .held _ => 1
def uptoBulkAll {H : Type} : List (DataW H) → Nat
  | [] => 0
  | d :: r => uptoBulk d + uptoBulkAll r
def uptoBulkEntries {H : Type} : List (Lit × DataW H) → Nat
  | [] => 0
  | x :: r => uptoBulkEntry x + uptoBulkEntries r
def uptoBulkEntry {H : Type} : Lit × DataW H → Nat
  | (.string bytes, d) => bytes.length + uptoBulk d + 1
  | (_, d) => uptoBulk d + 1
 end
def uptoSmall : (H : Type) → List (DataW H) → Bool := fun _ ds => decide (uptoBulkAll ds ≤ 1048576)
def OpenSpec.upto (s : _root_.Go.ChangeSpec) : _root_.Go.OpenSpec := { _root_.Go.OpenSpec.ofChange s with cond := some uptoSmall }

/-- 'footlockerlaw16.ListLinks', WHERE WHAT IT READS IS OF BULK AT MOST 1048576: true; the input reads as it did. -/
def listLinksUptoRow : OpenClaim := { program := "ytglghdjpkecngaagreat", sum := "1ccf84c8953a659c4c0da5ccfa91973dbf74c1112a485339f39acb473728bc78", func := "footlocker/footlockerlaw16.ListLinks", spec := "listLinks", unfollowed := true, recurses := true, apart := false, narrowed := true }
def ListLinksUptoSaid : Prop := listLinksUptoRow.holds Tryz.pinned (OpenSpec.upto listLinksSpec)

/-- 'footlockerlaw16.ListNone', WHERE WHAT IT READS IS OF BULK AT MOST 1048576: true; the input reads as it did. -/
def listNoneUptoRow : OpenClaim := { program := "ytglghdjpkecngaagreat", sum := "1ccf84c8953a659c4c0da5ccfa91973dbf74c1112a485339f39acb473728bc78", func := "footlocker/footlockerlaw16.ListNone", spec := "listNone", unfollowed := true, recurses := true, apart := false, narrowed := true }
def ListNoneUptoSaid : Prop := listNoneUptoRow.holds Tryz.pinned (OpenSpec.upto listNoneSpec)

/-- 'footlockerlaw16.ListOnce', WHERE WHAT IT READS IS OF BULK AT MOST 1048576: true; the input reads as it did. -/
def listOnceUptoRow : OpenClaim := { program := "ytglghdjpkecngaagreat", sum := "1ccf84c8953a659c4c0da5ccfa91973dbf74c1112a485339f39acb473728bc78", func := "footlocker/footlockerlaw16.ListOnce", spec := "listOnce", unfollowed := true, recurses := true, apart := false, narrowed := true }
def ListOnceUptoSaid : Prop := listOnceUptoRow.holds Tryz.pinned (OpenSpec.upto listOnceSpec)

/-- 'footlockerlaw16.ListStuck', WHERE WHAT IT READS IS OF BULK AT MOST 1048576: true; the input reads as it did. -/
def listStuckUptoRow : OpenClaim := { program := "ytglghdjpkecngaagreat", sum := "1ccf84c8953a659c4c0da5ccfa91973dbf74c1112a485339f39acb473728bc78", func := "footlocker/footlockerlaw16.ListStuck", spec := "listStuck", unfollowed := true, recurses := true, apart := false, narrowed := true }
def ListStuckUptoSaid : Prop := listStuckUptoRow.holds Tryz.pinned (OpenSpec.upto listStuckSpec)

/-- 'footlockerlaw16.ListAlone', WHERE WHAT IT READS IS OF BULK AT MOST 1048576: true; the input reads as it did. -/
def listAloneUptoRow : OpenClaim := { program := "ytglghdjpkecngaagreat", sum := "1ccf84c8953a659c4c0da5ccfa91973dbf74c1112a485339f39acb473728bc78", func := "footlocker/footlockerlaw16.ListAlone", spec := "listAlone", unfollowed := true, recurses := true, apart := false, narrowed := true }
def ListAloneUptoSaid : Prop := listAloneUptoRow.holds Tryz.pinned (OpenSpec.upto listAloneSpec)

/-- 'footlockerlaw16.ListShares', WHERE WHAT IT READS IS OF BULK AT MOST 1048576: true; the input reads as it did. -/
def listSharesUptoRow : OpenClaim := { program := "ytglghdjpkecngaagreat", sum := "1ccf84c8953a659c4c0da5ccfa91973dbf74c1112a485339f39acb473728bc78", func := "footlocker/footlockerlaw16.ListShares", spec := "listShares", unfollowed := true, recurses := true, apart := false, narrowed := true }
def ListSharesUptoSaid : Prop := listSharesUptoRow.holds Tryz.pinned (OpenSpec.upto listSharesSpec)

/-- 'footlockerlaw16.ListFull', WHERE WHAT IT READS IS OF BULK AT MOST 1048576: true; the input reads as it did. -/
def listFullUptoRow : OpenClaim := { program := "ytglghdjpkecngaagreat", sum := "1ccf84c8953a659c4c0da5ccfa91973dbf74c1112a485339f39acb473728bc78", func := "footlocker/footlockerlaw16.ListFull", spec := "listFull", unfollowed := true, recurses := true, apart := false, narrowed := true }
def ListFullUptoSaid : Prop := listFullUptoRow.holds Tryz.pinned (OpenSpec.upto listFullSpec)

/-- 'footlockerlaw16.ListSteps', WHERE WHAT IT READS IS OF BULK AT MOST 1048576: true; the input reads as it did. -/
def listStepsUptoRow : OpenClaim := { program := "ytglghdjpkecngaagreat", sum := "1ccf84c8953a659c4c0da5ccfa91973dbf74c1112a485339f39acb473728bc78", func := "footlocker/footlockerlaw16.ListSteps", spec := "listSteps", unfollowed := true, recurses := true, apart := false, narrowed := true }
def ListStepsUptoSaid : Prop := listStepsUptoRow.holds Tryz.pinned (OpenSpec.upto listStepsSpec)

/-- 'footlockerlaw17.ShelfSpreads', WHERE WHAT IT READS IS OF BULK AT MOST 1048576: true; the input reads as it did. -/
def shelfSpreadsUptoRow : OpenClaim := { program := "ytglghdjpkecngaagreat", sum := "1ccf84c8953a659c4c0da5ccfa91973dbf74c1112a485339f39acb473728bc78", func := "footlocker/footlockerlaw17.ShelfSpreads", spec := "shelfSpreads", unfollowed := true, recurses := true, apart := false, narrowed := true }
def ShelfSpreadsUptoSaid : Prop := shelfSpreadsUptoRow.holds Tryz.pinned (OpenSpec.upto shelfSpreadsSpec)

/-- 'footlockerlaw17.ShelfNone', WHERE WHAT IT READS IS OF BULK AT MOST 1048576: true; the input reads as it did. -/
def shelfNoneUptoRow : OpenClaim := { program := "ytglghdjpkecngaagreat", sum := "1ccf84c8953a659c4c0da5ccfa91973dbf74c1112a485339f39acb473728bc78", func := "footlocker/footlockerlaw17.ShelfNone", spec := "shelfNone", unfollowed := true, recurses := true, apart := false, narrowed := true }
def ShelfNoneUptoSaid : Prop := shelfNoneUptoRow.holds Tryz.pinned (OpenSpec.upto shelfNoneSpec)

/-- 'footlockerlaw17.ShelfApart', WHERE WHAT IT READS IS OF BULK AT MOST 1048576: true; the input reads as it did. -/
def shelfApartUptoRow : OpenClaim := { program := "ytglghdjpkecngaagreat", sum := "1ccf84c8953a659c4c0da5ccfa91973dbf74c1112a485339f39acb473728bc78", func := "footlocker/footlockerlaw17.ShelfApart", spec := "shelfApart", unfollowed := true, recurses := true, apart := false, narrowed := true }
def ShelfApartUptoSaid : Prop := shelfApartUptoRow.holds Tryz.pinned (OpenSpec.upto shelfApartSpec)

/-- 'footlockerlaw18.WorkerPlays', WHERE WHAT IT READS IS OF BULK AT MOST 1048576: true; the input reads as it did. -/
def workerPlaysUptoRow : OpenClaim := { program := "ytglghdjpkecngaagreat", sum := "1ccf84c8953a659c4c0da5ccfa91973dbf74c1112a485339f39acb473728bc78", func := "footlocker/footlockerlaw18.WorkerPlays", spec := "workerPlays", unfollowed := true, recurses := true, apart := false, narrowed := true }
def WorkerPlaysUptoSaid : Prop := workerPlaysUptoRow.holds Tryz.pinned (OpenSpec.upto workerPlaysSpec)

/-- 'footlockerlaw18.WorkerSteps', WHERE WHAT IT READS IS OF BULK AT MOST 1048576: true; the input reads as it did. -/
def workerStepsUptoRow : OpenClaim := { program := "ytglghdjpkecngaagreat", sum := "1ccf84c8953a659c4c0da5ccfa91973dbf74c1112a485339f39acb473728bc78", func := "footlocker/footlockerlaw18.WorkerSteps", spec := "workerSteps", unfollowed := true, recurses := true, apart := false, narrowed := true }
def WorkerStepsUptoSaid : Prop := workerStepsUptoRow.holds Tryz.pinned (OpenSpec.upto workerStepsSpec)

/-- 'footlockerlaw18.WorkerChecks', WHERE WHAT IT READS IS OF BULK AT MOST 1048576: true; the input reads as it did. -/
def workerChecksUptoRow : OpenClaim := { program := "ytglghdjpkecngaagreat", sum := "1ccf84c8953a659c4c0da5ccfa91973dbf74c1112a485339f39acb473728bc78", func := "footlocker/footlockerlaw18.WorkerChecks", spec := "workerChecks", unfollowed := true, recurses := true, apart := false, narrowed := true }
def WorkerChecksUptoSaid : Prop := workerChecksUptoRow.holds Tryz.pinned (OpenSpec.upto workerChecksSpec)

/-- 'footlockerlaw18.WorkerNone', WHERE WHAT IT READS IS OF BULK AT MOST 1048576: true; the input reads as it did. -/
def workerNoneUptoRow : OpenClaim := { program := "ytglghdjpkecngaagreat", sum := "1ccf84c8953a659c4c0da5ccfa91973dbf74c1112a485339f39acb473728bc78", func := "footlocker/footlockerlaw18.WorkerNone", spec := "workerNone", unfollowed := true, recurses := true, apart := false, narrowed := true }
def WorkerNoneUptoSaid : Prop := workerNoneUptoRow.holds Tryz.pinned (OpenSpec.upto workerNoneSpec)

/-- 'footlockerlaw18.WorkerLater', WHERE WHAT IT READS IS OF BULK AT MOST 1048576: true; the input reads as it did. -/
def workerLaterUptoRow : OpenClaim := { program := "ytglghdjpkecngaagreat", sum := "1ccf84c8953a659c4c0da5ccfa91973dbf74c1112a485339f39acb473728bc78", func := "footlocker/footlockerlaw18.WorkerLater", spec := "workerLater", unfollowed := true, recurses := true, apart := false, narrowed := true }
def WorkerLaterUptoSaid : Prop := workerLaterUptoRow.holds Tryz.pinned (OpenSpec.upto workerLaterSpec)

end Rows
end Go.Proofs.YtglghdjpkecngaaGreat
