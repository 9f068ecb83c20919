/- list: a step of somebody who asks something of a list. -/
import Derived.Test.YtmkoagmnkogeoaaAU
namespace Go.Proofs.Ytmkoagmnkogeoaa
set_option linter.unusedVariables false
set_option linter.unusedSimpArgs false
open Go Go.SL Go.FL
set_option maxRecDepth 100000
theorem after_lo {s : ListS} {d : DoneS} (h : s.pc ≤ 2) : s.after d = s.looked d := by
  have : s.pc = 0 ∨ s.pc = 1 ∨ s.pc = 2 := by omega
  rcases this with e | e | e <;> simp [ListS.after, e]
theorem after_un {s : ListS} {d : DoneS} (h : s.pc = 3 ∨ s.pc = 4) : s.after d = s.unlinked d := by
  rcases h with e | e <;> simp [ListS.after, e]
theorem after_jo {s : ListS} {d : DoneS} (h0 : 5 ≤ s.pc) (h : s.pc ≤ 8) : s.after d = s.joined d := by
  have : s.pc = 5 ∨ s.pc = 6 ∨ s.pc = 7 ∨ s.pc = 8 := by omega
  rcases this with e | e | e | e <;> simp [ListS.after, e]
theorem after_re {s : ListS} {d : DoneS} (h : 9 ≤ s.pc) : s.after d = s.removed d := by
  unfold ListS.after
  split <;> first | omega | rfl
theorem fin_a (s : ListS) (x v st : Int) : (s.fin x v st).2.a = s.a := by
  simp only [ListS.fin]; split <;> rfl
theorem absent_a (s : ListS) : s.absent.2.a = s.a := by
  simp only [ListS.absent]; split
  · rw [fin_a]
  · rfl
theorem at_a (s : ListS) (pr : Nat) (n st : Int) : (s.at pr n st).2.a = s.a := by
  simp only [ListS.at]; split
  · rw [absent_a]
  · rfl
theorem present_a (s : ListS) (st : Int) : (s.present st).2.a = s.a := by
  simp only [ListS.present]; split
  · rfl
  · split <;> rw [fin_a]
theorem looked_a (s : ListS) (d : DoneS) : (s.looked d).2.a = s.a := by
  simp only [ListS.looked]
  repeat' split
  all_goals first | rfl | rw [fin_a] | rw [at_a] | rw [present_a] | rw [absent_a]
theorem unlinked_a (s : ListS) (d : DoneS) : (s.unlinked d).2.a = s.a := by
  simp only [ListS.unlinked]
  repeat' split
  all_goals first | rfl | rw [at_a]
theorem joined_a (s : ListS) (d : DoneS) : (s.joined d).2.a = s.a := by
  simp only [ListS.joined]
  repeat' split
  all_goals first | rfl | rw [fin_a]
theorem removed_a (s : ListS) (d : DoneS) : (s.removed d).2.a = s.a := by
  simp only [ListS.removed]
  repeat' split
  all_goals rfl
theorem listU_open {W0 : World} {M : VB} (s : ListS) : layB (rho [1] [M, bx W0 (listU W0 s)].length) [M, bx W0 (listU W0 s)] [1] (listU W0 s) = [M, listC s (optP 2 s.a), optB W0 (actU W0) s.a] := by
  simp only [layB, lset, lapp, listU, rnB_optB, List.map_cons, List.map_nil]
  simp only [listC, rnB, rnL, rn, rn_optP]
  rfl
theorem ReV.list {W0 : World} {Q : VV → List VB → Prop} {v : VV} {M : VB} {m : MemS} {s : ListS} {V : List VB} (q1 : Nat) (hM : bx W0 (memU m) = M) (h0 : lget V 0 = some M) (h1 : lget V 1 = some (listC s (optP q1 s.a)))
    (hd : nodupB [1, q1] = true) (hz : hasNat [1, q1] 0 = false) (hp : s.a = none ∨ lget V q1 = some (optB W0 (actU W0) s.a)) (hv : ∀ n, rn (rho [0, 1] n) v = v) (hq : Q v [bx W0 (memU m), bx W0 (listU W0 s)]) : ReV W0 2 Q v V := by
  subst hM
  have e0 : ∀ n, rho [1, q1] n 1 = q1 := fun _ => rfl
  have hl : 1 < V.length := by rw [lget_eq] at h1; exact (List.getElem?_eq_some_iff.1 h1).1
  refine ReV.shut 1 [q1] (listU W0 s) hd (by rw [h1]; rfl) ⟨.inr ?_, ?_, trivial⟩ ?_
  · rw [h1]
    simp only [listC, rnB, rnL, rn, rn_optP, e0]
  · rcases hp with hp | hp
    · left; rw [hp]; rfl
    · right; rw [hp, rnB_optB]
  · exact ReV.ren [0, 1] v [bx W0 (memU m), bx W0 (listU W0 s)] rfl rfl (hv _).symm ⟨.inr ((lget_emps hz).trans h0), .inr (lget_emps_at hd hl), trivial⟩ hq
end Go.Proofs.Ytmkoagmnkogeoaa
