/- list: somebody who asks something of a sorted list. -/
import Derived.Test.YtmkoagmnkogeoaaAT
namespace Go.Proofs.Ytmkoagmnkogeoaa
set_option linter.unusedVariables false
set_option linter.unusedSimpArgs false
open Go Go.SL Go.FL
set_option maxRecDepth 100000
def listC (s : ListS) (va : VV) : VB := .cells [.int .i64 s.kind, .int .i64 s.key, .int .u64 s.head, .int .i64 s.pc, va, .int .u64 s.pred, .int .u64 s.curr, .int .i64 s.link, .int .u64 s.node, .int .i64 s.seen,
  .int .i64 s.out.e, .int .u64 s.out.h, .int .i64 s.out.v, .int .i64 s.out.s]
def listU (W0 : World) (s : ListS) : List VB := [listC s (optP 1 s.a), optB W0 (actU W0) s.a]
theorem ReV.list0 {W0 : World} {Q : VV → List VB → Prop} {v : VV} {s : ListS} {rest : List VB} (hv : ∀ n, rn (rho [0] n) v = v) (hq : Q v [listC s .nilPtr]) : ReV W0 1 Q v (listC s .nilPtr :: rest) :=
  ReV.ren [0] v [listC s .nilPtr] rfl rfl (hv _).symm ⟨.inr rfl, trivial⟩ hq
theorem at_link (s : ListS) (pr : Nat) (n st : Int) : (s.at pr n st).2.link = s.link := by
  simp only [ListS.at, ListS.absent, ListS.fin]
  repeat' split
  all_goals rfl
end Go.Proofs.Ytmkoagmnkogeoaa
