/- shelf: none, and without lists. -/
import Derived.Test.YtglghdjpkecngaaGreatBL
namespace Go.Proofs.YtglghdjpkecngaaGreat
set_option linter.unusedVariables false
set_option linter.unusedSimpArgs false
open Go Go.SL Go.FL
set_option maxRecDepth 100000
theorem shelfNew_ev {W0 : World} (l : List Nat) (hn : l ≠ []) (hl : l.length ≤ 65535) (kind key : Int) : Ev Tryz.prog W0 39 [.ptr 0 0, .int .i64 kind, .int .i64 key] [bx W0 (shelfU l)]
    (fun v V' => if checkList kind key then v = .tup [.ptr 1 0, .int .i64 0] ∧ V' = [bx W0 (shelfU l), bx W0 (listU W0 (newList kind key (l[(ofS key l.length).toNat]?.getD 0)))] else v = .tup [.nilPtr, .int .i64 1] ∧ V' = [bx W0 (shelfU l)]) := by
  refine Ev.out fun Q' hQ => ev39 rfl fun o => ?_
  have hL := shelfHead_ev (W0 := W0) l hn hl key
  generalize (l[(ofS key l.length).toNat]?.getD 0) = hd at *
  generalize hS : bx W0 (shelfU l) = S at *
  have hN := listNew_ev (W0 := W0) kind key hd
  cbv
  refine Ops.call _ [0] hL rfl rfl rfl ⟨.inr (by rw [← hS]; rfl), trivial⟩ ?_
  rintro v V' ⟨rfl, rfl⟩
  simp only [layB, lset, lapp, List.map_nil, List.map_cons, ← hS, rnB_bx]
  rw [hS]
  (cbv; repeat' (first | (refine mt (fun h => ?_) (fun h => ?_) <;> first | (exfalso; simp [Ops.cmp_eq, Ops.not_eq, icmp] at h; done) | (try cbv)) | fail))
  refine Ops.call _ [] hN rfl rfl rfl trivial ?_
  intro v V' hr
  generalize hc : checkList kind key = c at *
  cases c with
  | false =>
    simp only [Bool.false_eq_true, if_false] at hr hQ
    obtain ⟨rfl, rfl⟩ := hr
    simp only [layB, lapp, List.map_nil]
    cbv
    exact hQ _ _ (ReV.ren [0] (.tup [.nilPtr, .int .i64 1]) [S] rfl rfl rfl ⟨.inr (by rw [← hS]; rfl), trivial⟩ ⟨rfl, rfl⟩)
  | true =>
    simp only [if_true] at hr hQ
    obtain ⟨rfl, rfl⟩ := hr
    simp only [layB, lapp, List.map_nil, List.map_cons, rnB_bx]
    generalize hA : bx W0 (listU W0 (newList kind key hd)) = A at *
    cbv
    exact hQ _ _ (ReV.ren [0, 1] (.tup [.ptr 1 0, .int .i64 0]) [S, A] rfl rfl rfl ⟨.inr (by rw [← hS]; rfl), .inr (by rw [← hA]; rfl), trivial⟩ ⟨rfl, by first | rfl | rw [hA]⟩)
end Go.Proofs.YtglghdjpkecngaaGreat
