/- list: a step of somebody who asks something of a list. -/
import Derived.Test.YtglghdjpkecngaaGreatAU
namespace Go.Proofs.YtglghdjpkecngaaGreat
set_option linter.unusedVariables false
set_option linter.unusedSimpArgs false
open Go Go.SL Go.FL
set_option maxRecDepth 100000
theorem want_ev {W0 : World} (s : ListS) : Ev Tryz.prog W0 60 [.ptr 0 0] [listC s .nilPtr] (fun r V' => r = actV s.want ∧ V' = [listC s .nilPtr]) := by
  generalize hR : s.want = R
  refine Ev.out fun Q' hQ => ev60 rfl fun o => ?_
  obtain ⟨kind, key, head, pc, a, pred, curr, link, node, seen, ⟨o1, o2, o3, o4⟩⟩ := s
  have fin : ∀ (x : ActX) (rest : List VB), R = x → Q' (actV x) (listC ⟨kind, key, head, pc, a, pred, curr, link, node, seen, ⟨o1, o2, o3, o4⟩⟩ .nilPtr :: rest) := by
    rintro x rest rfl
    exact hQ _ _ (ReV.list0 (s := ⟨kind, key, head, pc, a, pred, curr, link, node, seen, ⟨o1, o2, o3, o4⟩⟩) (fun _ => rfl) ⟨rfl, rfl⟩)
  have hpc : pc = 0 ∨ pc = 1 ∨ pc = 2 ∨ pc = 3 ∨ pc = 4 ∨ pc = 5 ∨ pc = 6 ∨ pc = 7 ∨ pc = 8 ∨ pc = 9 ∨ pc = 10 ∨ pc = 11 ∨ ∃ n, pc = n + 12 := by rcases pc with _ | _ | _ | _ | _ | _ | _ | _ | _ | _ | _ | _ | n <;> simp
  rcases hpc with rfl | rfl | rfl | rfl | rfl | rfl | rfl | rfl | rfl | rfl | rfl | rfl | ⟨n, rfl⟩
  · (cbv; repeat' (first | (refine mt (fun h => ?_) (fun h => ?_) <;> first | (exfalso; simp [Ops.cmp_eq, Ops.not_eq, icmp] at h; done) | (try cbv)) | fail))
    exact fin ⟨3, 0, head, 1, 0, 0, true⟩ _ (by rw [← hR]; rfl)
  · (cbv; repeat' (first | (refine mt (fun h => ?_) (fun h => ?_) <;> first | (exfalso; simp [Ops.cmp_eq, Ops.not_eq, icmp] at h; done) | (try cbv)) | fail))
    exact fin ⟨3, 0, curr, 1, 0, 0, true⟩ _ (by rw [← hR]; rfl)
  · (cbv; repeat' (first | (refine mt (fun h => ?_) (fun h => ?_) <;> first | (exfalso; simp [Ops.cmp_eq, Ops.not_eq, icmp] at h; done) | (try cbv)) | fail))
    exact fin ⟨3, 0, curr, 0, 0, 0, true⟩ _ (by rw [← hR]; rfl)
  · (cbv; repeat' (first | (refine mt (fun h => ?_) (fun h => ?_) <;> first | (exfalso; simp [Ops.cmp_eq, Ops.not_eq, icmp] at h; done) | (try cbv)) | fail))
    refine Ops.call0 _ (Link_ev link) rfl ?_; rintro v V' ⟨rfl, rfl⟩; simp only [lapp, List.map_nil, rn, rnL]
    generalize hl : linkNext link = ln at *
    generalize linkGone link = lg at *
    cbv
    refine Ops.call0 _ (PutLink_ev ln false) rfl ?_; rintro v V' ⟨rfl, rfl⟩; simp only [lapp, List.map_nil, rn, rnL]
    generalize hp : putLink ln false = p at *
    cbv
    simp only [Ops.wr_eq]
    exact fin ⟨5, 0, pred, 1, p, w64 curr, true⟩ _ (by rw [← hR]; simp [ListS.want, hl, hp])
  · (cbv; repeat' (first | (refine mt (fun h => ?_) (fun h => ?_) <;> first | (exfalso; simp [Ops.cmp_eq, Ops.not_eq, icmp] at h; done) | (try cbv)) | fail))
    exact fin ⟨2, 0, curr, 0, 0, 0, true⟩ _ (by rw [← hR]; rfl)
  · (cbv; repeat' (first | (refine mt (fun h => ?_) (fun h => ?_) <;> first | (exfalso; simp [Ops.cmp_eq, Ops.not_eq, icmp] at h; done) | (try cbv)) | fail))
    exact fin ⟨1, 2, 0, 0, 0, 0, true⟩ _ (by rw [← hR]; rfl)
  · (cbv; repeat' (first | (refine mt (fun h => ?_) (fun h => ?_) <;> first | (exfalso; simp [Ops.cmp_eq, Ops.not_eq, icmp] at h; done) | (try cbv)) | fail))
    exact fin ⟨4, 0, node, 0, key, 0, true⟩ _ (by rw [← hR]; rfl)
  · (cbv; repeat' (first | (refine mt (fun h => ?_) (fun h => ?_) <;> first | (exfalso; simp [Ops.cmp_eq, Ops.not_eq, icmp] at h; done) | (try cbv)) | fail))
    simp only [Ops.wr_eq, Ops.ar_eq]
    exact fin ⟨4, 0, node, 1, w64 curr, 0, true⟩ _ (by rw [← hR]; rfl)
  · (cbv; repeat' (first | (refine mt (fun h => ?_) (fun h => ?_) <;> first | (exfalso; simp [Ops.cmp_eq, Ops.not_eq, icmp] at h; done) | (try cbv)) | fail))
    simp only [Ops.wr_eq, Ops.ar_eq]
    exact fin ⟨5, 0, pred, 1, w64 node, w64 curr, true⟩ _ (by rw [← hR]; rfl)
  · (cbv; repeat' (first | (refine mt (fun h => ?_) (fun h => ?_) <;> first | (exfalso; simp [Ops.cmp_eq, Ops.not_eq, icmp] at h; done) | (try cbv)) | fail))
    simp only [Ops.wr_eq, Ops.ar_eq]
    exact fin ⟨5, 0, curr, 1, arith .or .i64 link 4294967296, link, true⟩ _ (by rw [← hR]; rfl)
  · (cbv; repeat' (first | (refine mt (fun h => ?_) (fun h => ?_) <;> first | (exfalso; simp [Ops.cmp_eq, Ops.not_eq, icmp] at h; done) | (try cbv)) | fail))
    refine Ops.call0 _ (Link_ev link) rfl ?_; rintro v V' ⟨rfl, rfl⟩; simp only [lapp, List.map_nil, rn, rnL]
    generalize hl : linkNext link = ln at *
    generalize linkGone link = lg at *
    cbv
    refine Ops.call0 _ (PutLink_ev ln false) rfl ?_; rintro v V' ⟨rfl, rfl⟩; simp only [lapp, List.map_nil, rn, rnL]
    generalize hp : putLink ln false = p at *
    cbv
    simp only [Ops.wr_eq]
    exact fin ⟨5, 0, pred, 1, p, w64 curr, true⟩ _ (by rw [← hR]; simp [ListS.want, hl, hp])
  · (cbv; repeat' (first | (refine mt (fun h => ?_) (fun h => ?_) <;> first | (exfalso; simp [Ops.cmp_eq, Ops.not_eq, icmp] at h; done) | (try cbv)) | fail))
    · simp only [Ops.cmp_eq, icmp] at h
      (try simp only [cfix] at *); (try simp only [Int.ofNat_eq_natCast] at *)
      have hb : Nat.beq node 0 = false := by rw [bne_nato] at h; simpa using h
      exact fin ⟨2, 0, node, 0, 0, 0, true⟩ _ (by rw [← hR]; simp only [ListS.want, hb]; rfl)
    · simp only [Ops.cmp_eq, icmp] at h
      (try simp only [cfix] at *); (try simp only [Int.ofNat_eq_natCast] at *)
      have hb : Nat.beq node 0 = true := by rw [bne_nato] at h; simpa using h
      exact fin ⟨2, 0, curr, 0, 0, 0, true⟩ _ (by rw [← hR]; simp only [ListS.want, hb]; rfl)
  · (cbv; repeat' (first | (refine mt (fun h => ?_) (fun h => ?_) <;> first | (exfalso; simp [Ops.cmp_eq, icmp] at h; omega) | (try cbv)) | fail))
    exact fin ⟨3, 0, curr, 1, 0, 0, true⟩ _ (by rw [← hR]; rfl)
theorem after_lo {s : ListS} {d : DoneS} (h : s.pc ≤ 2) : s.after d = s.looked d := by
  have : s.pc = 0 ∨ s.pc = 1 ∨ s.pc = 2 := by omega
  rcases this with e | e | e <;> simp [ListS.after, e]
theorem after_un {s : ListS} {d : DoneS} (h : s.pc = 3 ∨ s.pc = 4) : s.after d = s.unlinked d := by
  rcases h with e | e <;> simp [ListS.after, e]
theorem after_jo {s : ListS} {d : DoneS} (h0 : 5 ≤ s.pc) (h : s.pc ≤ 8) : s.after d = s.joined d := by
  have : s.pc = 5 ∨ s.pc = 6 ∨ s.pc = 7 ∨ s.pc = 8 := by omega
  rcases this with e | e | e | e <;> simp [ListS.after, e]
theorem after_re {s : ListS} {d : DoneS} (h : 9 ≤ s.pc) : s.after d = s.removed d := by
  unfold ListS.after
  split <;> first | omega | rfl
theorem fin_a (s : ListS) (x v st : Int) : (s.fin x v st).2.a = s.a := by
  simp only [ListS.fin]; split <;> rfl
theorem absent_a (s : ListS) : s.absent.2.a = s.a := by
  simp only [ListS.absent]; split
  · rw [fin_a]
  · rfl
theorem at_a (s : ListS) (pr : Nat) (n st : Int) : (s.at pr n st).2.a = s.a := by
  simp only [ListS.at]; split
  · rw [absent_a]
  · rfl
theorem present_a (s : ListS) (st : Int) : (s.present st).2.a = s.a := by
  simp only [ListS.present]; split
  · rfl
  · split <;> rw [fin_a]
theorem looked_a (s : ListS) (d : DoneS) : (s.looked d).2.a = s.a := by
  simp only [ListS.looked]
  repeat' split
  all_goals first | rfl | rw [fin_a] | rw [at_a] | rw [present_a] | rw [absent_a]
theorem unlinked_a (s : ListS) (d : DoneS) : (s.unlinked d).2.a = s.a := by
  simp only [ListS.unlinked]
  repeat' split
  all_goals first | rfl | rw [at_a]
theorem joined_a (s : ListS) (d : DoneS) : (s.joined d).2.a = s.a := by
  simp only [ListS.joined]
  repeat' split
  all_goals first | rfl | rw [fin_a]
theorem removed_a (s : ListS) (d : DoneS) : (s.removed d).2.a = s.a := by
  simp only [ListS.removed]
  repeat' split
  all_goals rfl
theorem listU_open {W0 : World} {M : VB} (s : ListS) : layB (rho [1] [M, bx W0 (listU W0 s)].length) [M, bx W0 (listU W0 s)] [1] (listU W0 s) = [M, listC s (optP 2 s.a), optB W0 (actU W0) s.a] := by
  simp only [layB, lset, lapp, listU, rnB_optB, List.map_cons, List.map_nil]
  simp only [listC, rnB, rnL, rn, rn_optP]
  rfl
theorem ReV.list {W0 : World} {Q : VV → List VB → Prop} {v : VV} {M : VB} {m : MemS} {s : ListS} {V : List VB} (q1 : Nat) (hM : bx W0 (memU m) = M) (h0 : lget V 0 = some M) (h1 : lget V 1 = some (listC s (optP q1 s.a)))
    (hd : nodupB [1, q1] = true) (hz : hasNat [1, q1] 0 = false) (hp : s.a = none ∨ lget V q1 = some (optB W0 (actU W0) s.a)) (hv : ∀ n, rn (rho [0, 1] n) v = v) (hq : Q v [bx W0 (memU m), bx W0 (listU W0 s)]) : ReV W0 2 Q v V := by
  subst hM
  have e0 : ∀ n, rho [1, q1] n 1 = q1 := fun _ => rfl
  have hl : 1 < V.length := by rw [lget_eq] at h1; exact (List.getElem?_eq_some_iff.1 h1).1
  refine ReV.shut 1 [q1] (listU W0 s) hd (by rw [h1]; rfl) ⟨.inr ?_, ?_, trivial⟩ ?_
  · rw [h1]
    simp only [listC, rnB, rnL, rn, rn_optP, e0]
  · rcases hp with hp | hp
    · left; rw [hp]; rfl
    · right; rw [hp, rnB_optB]
  · exact ReV.ren [0, 1] v [bx W0 (memU m), bx W0 (listU W0 s)] rfl rfl (hv _).symm ⟨.inr ((lget_emps hz).trans h0), .inr (lget_emps_at hd hl), trivial⟩ hq
theorem ListStep_ev {W0 : World} (m : MemS) (e : EnvS) (s : ListS) (hw : ∀ a, s.a = some a → a.pc = 1 → a.work.wf e.c) :
    Ev Tryz.prog W0 25 [.ptr 1 0, e.v 0] [bx W0 (memU m), bx W0 (listU W0 s)] (fun v V' => v = .bool (s.step e m).1 ∧ V' = [bx W0 (memU (s.step e m).2.2), bx W0 (listU W0 (s.step e m).2.1)]) := by
  generalize hR : s.step e m = R
  refine Ev.outB 1 (U := listU W0 s) rfl fun Q' hQ => ?_
  generalize hM : bx W0 (memU m) = M at *
  rw [listU_open]
  refine ev25 rfl fun o => ?_
  obtain ⟨kind, key, head, pc, a, pred, curr, link, node, seen, ⟨o1, o2, o3, o4⟩⟩ := s
  cases a with
  | none =>
    simp only [optP, optB]
    cbv
    refine Ops.call _ [1] (want_ev ⟨kind, key, head, pc, none, pred, curr, link, node, seen, ⟨o1, o2, o3, o4⟩⟩) rfl rfl rfl ⟨.inr rfl, trivial⟩ ?_
    rintro r V' ⟨rfl, rfl⟩
    generalize hx : ListS.want ⟨kind, key, head, pc, none, pred, curr, link, node, seen, ⟨o1, o2, o3, o4⟩⟩ = x at *
    obtain ⟨x1, x2, x3, x4, x5, x6, x7⟩ := x
    cbv
    refine Ops.call _ [] (actNew_ev ⟨x1, x2, x3, x4, x5, x6, x7⟩) rfl rfl rfl trivial ?_
    rintro r V' hr
    generalize hc : checkAct ⟨x1, x2, x3, x4, x5, x6, x7⟩ = c at *
    cases c with
    | true =>
      obtain ⟨rfl, rfl⟩ := hr
      simp only [layB, lapp, List.map_cons, List.map_nil, rnB_bx]
      have hwa : (newAct ⟨x1, x2, x3, x4, x5, x6, x7⟩).pc = 1 → (newAct ⟨x1, x2, x3, x4, x5, x6, x7⟩).work.wf e.c := fun h => by cases h
      have hR1 : R = (let r := (newAct ⟨x1, x2, x3, x4, x5, x6, x7⟩).step e m
        if r.1 then let q := ListS.after ⟨kind, key, head, pc, none, pred, curr, link, node, seen, ⟨o1, o2, o3, o4⟩⟩ r.2.1.out; (q.1, q.2, r.2.2) else (false, ⟨kind, key, head, pc, some r.2.1, pred, curr, link, node, seen, ⟨o1, o2, o3, o4⟩⟩, r.2.2)) := by
        rw [← hR]; simp [ListS.step, ListS.acts, hx, hc]
      generalize newAct ⟨x1, x2, x3, x4, x5, x6, x7⟩ = a at *
      generalize hA : bx W0 (actU W0 a) = A
      cbv
      refine Ops.call _ [0, 4] (Act_ev m e a hwa) rfl rfl rfl ⟨.inr (by rw [← hM]; rfl), .inr (by rw [← hA]; rfl), trivial⟩ ?_
      rintro v V' ⟨rfl, rfl⟩
      generalize hr : a.step e m = r at *
      obtain ⟨rb, a', m'⟩ := r
      simp only [layB, lset, lapp, List.map_nil, List.map_cons, rnB_bx, rn]
      clear hM hA
      generalize hM : bx W0 (memU m') = M
      generalize hA : bx W0 (actU W0 a') = A
      cases rb with
      | false =>
        (cbv; repeat' (first | (refine mt (fun h => ?_) (fun h => ?_) <;> first | (exfalso; simp [Ops.cmp_eq, Ops.not_eq, icmp] at h; done) | (try cbv)) | fail))
        refine hQ _ _ (ReV.list (s := ⟨kind, key, head, pc, some a', pred, curr, link, node, seen, ⟨o1, o2, o3, o4⟩⟩) 4 hM rfl rfl rfl rfl (.inr (by rw [← hA]; rfl)) (fun _ => rfl) ⟨?_, ?_⟩)
        all_goals (rw [hR1]; simp)
      | true =>
        (cbv; repeat' (first | (refine mt (fun h => ?_) (fun h => ?_) <;> first | (exfalso; simp [Ops.cmp_eq, Ops.not_eq, icmp] at h; done) | (try cbv)) | fail))
        refine Ops.call _ [4] (actDone_ev a') rfl rfl rfl ⟨.inr (by rw [← hA]; rfl), trivial⟩ ?_
        rintro v V' ⟨rfl, rfl⟩
        simp only [layB, lset, lapp, List.map_nil, List.map_cons, rnB_bx, doneV, rn, rnL]
        rw [hA]
        simp only [if_true] at hR1
        generalize hout : a'.out = out at *
        obtain ⟨d1, d2, d3, d4⟩ := out
        have hcat : pc = 0 ∨ pc = 1 ∨ pc = 2 ∨ pc = 3 ∨ pc = 4 ∨ pc = 5 ∨ pc = 6 ∨ pc = 7 ∨ pc = 8 ∨ ∃ n, pc = n + 9 := by rcases pc with _ | _ | _ | _ | _ | _ | _ | _ | _ | n <;> simp
        rcases hcat with rfl | rfl | rfl | rfl | rfl | rfl | rfl | rfl | rfl | ⟨n, rfl⟩
        · have hR2 : R = ((ListS.looked ⟨kind, key, head, 0, none, pred, curr, link, node, seen, ⟨o1, o2, o3, o4⟩⟩ ⟨d1, d2, d3, d4⟩).1, (ListS.looked ⟨kind, key, head, 0, none, pred, curr, link, node, seen, ⟨o1, o2, o3, o4⟩⟩ ⟨d1, d2, d3, d4⟩).2, m') := by rw [hR1, after_lo (s := ⟨kind, key, head, 0, none, pred, curr, link, node, seen, ⟨o1, o2, o3, o4⟩⟩) (by simp)]
          have ha : (ListS.looked ⟨kind, key, head, 0, none, pred, curr, link, node, seen, ⟨o1, o2, o3, o4⟩⟩ ⟨d1, d2, d3, d4⟩).2.a = none := looked_a _ _
          (cbv; repeat' (first | (refine mt (fun h => ?_) (fun h => ?_) <;> first | (exfalso; simp [Ops.cmp_eq, Ops.not_eq, icmp] at h; done) | (try cbv)) | fail))
          refine Ops.call _ [1] (looked_ev ⟨kind, key, head, 0, none, pred, curr, link, node, seen, ⟨o1, o2, o3, o4⟩⟩ ⟨d1, d2, d3, d4⟩) rfl rfl rfl ⟨.inr rfl, trivial⟩ ?_
          rintro r V' ⟨rfl, rfl⟩
          generalize ListS.looked ⟨kind, key, head, 0, none, pred, curr, link, node, seen, ⟨o1, o2, o3, o4⟩⟩ ⟨d1, d2, d3, d4⟩ = q at *
          obtain ⟨b, ⟨s1, s2, s3, s4, s5, s6, s7, s8, s9, s10, ⟨p1, p2, p3, p4⟩⟩⟩ := q
          obtain rfl : s5 = none := ha
          simp only [layB, lset, lapp, List.map_nil, rn]
          cbv
          subst hR2
          refine hQ _ _ (ReV.list (s := ⟨s1, s2, s3, s4, none, s6, s7, s8, s9, s10, ⟨p1, p2, p3, p4⟩⟩) 7 hM rfl rfl rfl rfl (.inl rfl) (fun _ => rfl) ⟨rfl, rfl⟩)
        · have hR2 : R = ((ListS.looked ⟨kind, key, head, 1, none, pred, curr, link, node, seen, ⟨o1, o2, o3, o4⟩⟩ ⟨d1, d2, d3, d4⟩).1, (ListS.looked ⟨kind, key, head, 1, none, pred, curr, link, node, seen, ⟨o1, o2, o3, o4⟩⟩ ⟨d1, d2, d3, d4⟩).2, m') := by rw [hR1, after_lo (s := ⟨kind, key, head, 1, none, pred, curr, link, node, seen, ⟨o1, o2, o3, o4⟩⟩) (by simp)]
          have ha : (ListS.looked ⟨kind, key, head, 1, none, pred, curr, link, node, seen, ⟨o1, o2, o3, o4⟩⟩ ⟨d1, d2, d3, d4⟩).2.a = none := looked_a _ _
          (cbv; repeat' (first | (refine mt (fun h => ?_) (fun h => ?_) <;> first | (exfalso; simp [Ops.cmp_eq, Ops.not_eq, icmp] at h; done) | (try cbv)) | fail))
          refine Ops.call _ [1] (looked_ev ⟨kind, key, head, 1, none, pred, curr, link, node, seen, ⟨o1, o2, o3, o4⟩⟩ ⟨d1, d2, d3, d4⟩) rfl rfl rfl ⟨.inr rfl, trivial⟩ ?_
          rintro r V' ⟨rfl, rfl⟩
          generalize ListS.looked ⟨kind, key, head, 1, none, pred, curr, link, node, seen, ⟨o1, o2, o3, o4⟩⟩ ⟨d1, d2, d3, d4⟩ = q at *
          obtain ⟨b, ⟨s1, s2, s3, s4, s5, s6, s7, s8, s9, s10, ⟨p1, p2, p3, p4⟩⟩⟩ := q
          obtain rfl : s5 = none := ha
          simp only [layB, lset, lapp, List.map_nil, rn]
          cbv
          subst hR2
          refine hQ _ _ (ReV.list (s := ⟨s1, s2, s3, s4, none, s6, s7, s8, s9, s10, ⟨p1, p2, p3, p4⟩⟩) 7 hM rfl rfl rfl rfl (.inl rfl) (fun _ => rfl) ⟨rfl, rfl⟩)
        · have hR2 : R = ((ListS.looked ⟨kind, key, head, 2, none, pred, curr, link, node, seen, ⟨o1, o2, o3, o4⟩⟩ ⟨d1, d2, d3, d4⟩).1, (ListS.looked ⟨kind, key, head, 2, none, pred, curr, link, node, seen, ⟨o1, o2, o3, o4⟩⟩ ⟨d1, d2, d3, d4⟩).2, m') := by rw [hR1, after_lo (s := ⟨kind, key, head, 2, none, pred, curr, link, node, seen, ⟨o1, o2, o3, o4⟩⟩) (by simp)]
          have ha : (ListS.looked ⟨kind, key, head, 2, none, pred, curr, link, node, seen, ⟨o1, o2, o3, o4⟩⟩ ⟨d1, d2, d3, d4⟩).2.a = none := looked_a _ _
          (cbv; repeat' (first | (refine mt (fun h => ?_) (fun h => ?_) <;> first | (exfalso; simp [Ops.cmp_eq, Ops.not_eq, icmp] at h; done) | (try cbv)) | fail))
          refine Ops.call _ [1] (looked_ev ⟨kind, key, head, 2, none, pred, curr, link, node, seen, ⟨o1, o2, o3, o4⟩⟩ ⟨d1, d2, d3, d4⟩) rfl rfl rfl ⟨.inr rfl, trivial⟩ ?_
          rintro r V' ⟨rfl, rfl⟩
          generalize ListS.looked ⟨kind, key, head, 2, none, pred, curr, link, node, seen, ⟨o1, o2, o3, o4⟩⟩ ⟨d1, d2, d3, d4⟩ = q at *
          obtain ⟨b, ⟨s1, s2, s3, s4, s5, s6, s7, s8, s9, s10, ⟨p1, p2, p3, p4⟩⟩⟩ := q
          obtain rfl : s5 = none := ha
          simp only [layB, lset, lapp, List.map_nil, rn]
          cbv
          subst hR2
          refine hQ _ _ (ReV.list (s := ⟨s1, s2, s3, s4, none, s6, s7, s8, s9, s10, ⟨p1, p2, p3, p4⟩⟩) 7 hM rfl rfl rfl rfl (.inl rfl) (fun _ => rfl) ⟨rfl, rfl⟩)
        · have hR2 : R = ((ListS.unlinked ⟨kind, key, head, 3, none, pred, curr, link, node, seen, ⟨o1, o2, o3, o4⟩⟩ ⟨d1, d2, d3, d4⟩).1, (ListS.unlinked ⟨kind, key, head, 3, none, pred, curr, link, node, seen, ⟨o1, o2, o3, o4⟩⟩ ⟨d1, d2, d3, d4⟩).2, m') := by rw [hR1, after_un (s := ⟨kind, key, head, 3, none, pred, curr, link, node, seen, ⟨o1, o2, o3, o4⟩⟩) (by simp)]
          have ha : (ListS.unlinked ⟨kind, key, head, 3, none, pred, curr, link, node, seen, ⟨o1, o2, o3, o4⟩⟩ ⟨d1, d2, d3, d4⟩).2.a = none := unlinked_a _ _
          (cbv; repeat' (first | (refine mt (fun h => ?_) (fun h => ?_) <;> first | (exfalso; simp [Ops.cmp_eq, Ops.not_eq, icmp] at h; done) | (try cbv)) | fail))
          refine Ops.call _ [1] (unlinked_ev ⟨kind, key, head, 3, none, pred, curr, link, node, seen, ⟨o1, o2, o3, o4⟩⟩ ⟨d1, d2, d3, d4⟩) rfl rfl rfl ⟨.inr rfl, trivial⟩ ?_
          rintro r V' ⟨rfl, rfl⟩
          generalize ListS.unlinked ⟨kind, key, head, 3, none, pred, curr, link, node, seen, ⟨o1, o2, o3, o4⟩⟩ ⟨d1, d2, d3, d4⟩ = q at *
          obtain ⟨b, ⟨s1, s2, s3, s4, s5, s6, s7, s8, s9, s10, ⟨p1, p2, p3, p4⟩⟩⟩ := q
          obtain rfl : s5 = none := ha
          simp only [layB, lset, lapp, List.map_nil, rn]
          cbv
          subst hR2
          refine hQ _ _ (ReV.list (s := ⟨s1, s2, s3, s4, none, s6, s7, s8, s9, s10, ⟨p1, p2, p3, p4⟩⟩) 7 hM rfl rfl rfl rfl (.inl rfl) (fun _ => rfl) ⟨rfl, rfl⟩)
        · have hR2 : R = ((ListS.unlinked ⟨kind, key, head, 4, none, pred, curr, link, node, seen, ⟨o1, o2, o3, o4⟩⟩ ⟨d1, d2, d3, d4⟩).1, (ListS.unlinked ⟨kind, key, head, 4, none, pred, curr, link, node, seen, ⟨o1, o2, o3, o4⟩⟩ ⟨d1, d2, d3, d4⟩).2, m') := by rw [hR1, after_un (s := ⟨kind, key, head, 4, none, pred, curr, link, node, seen, ⟨o1, o2, o3, o4⟩⟩) (by simp)]
          have ha : (ListS.unlinked ⟨kind, key, head, 4, none, pred, curr, link, node, seen, ⟨o1, o2, o3, o4⟩⟩ ⟨d1, d2, d3, d4⟩).2.a = none := unlinked_a _ _
          (cbv; repeat' (first | (refine mt (fun h => ?_) (fun h => ?_) <;> first | (exfalso; simp [Ops.cmp_eq, Ops.not_eq, icmp] at h; done) | (try cbv)) | fail))
          refine Ops.call _ [1] (unlinked_ev ⟨kind, key, head, 4, none, pred, curr, link, node, seen, ⟨o1, o2, o3, o4⟩⟩ ⟨d1, d2, d3, d4⟩) rfl rfl rfl ⟨.inr rfl, trivial⟩ ?_
          rintro r V' ⟨rfl, rfl⟩
          generalize ListS.unlinked ⟨kind, key, head, 4, none, pred, curr, link, node, seen, ⟨o1, o2, o3, o4⟩⟩ ⟨d1, d2, d3, d4⟩ = q at *
          obtain ⟨b, ⟨s1, s2, s3, s4, s5, s6, s7, s8, s9, s10, ⟨p1, p2, p3, p4⟩⟩⟩ := q
          obtain rfl : s5 = none := ha
          simp only [layB, lset, lapp, List.map_nil, rn]
          cbv
          subst hR2
          refine hQ _ _ (ReV.list (s := ⟨s1, s2, s3, s4, none, s6, s7, s8, s9, s10, ⟨p1, p2, p3, p4⟩⟩) 7 hM rfl rfl rfl rfl (.inl rfl) (fun _ => rfl) ⟨rfl, rfl⟩)
        · have hR2 : R = ((ListS.joined ⟨kind, key, head, 5, none, pred, curr, link, node, seen, ⟨o1, o2, o3, o4⟩⟩ ⟨d1, d2, d3, d4⟩).1, (ListS.joined ⟨kind, key, head, 5, none, pred, curr, link, node, seen, ⟨o1, o2, o3, o4⟩⟩ ⟨d1, d2, d3, d4⟩).2, m') := by rw [hR1, after_jo (s := ⟨kind, key, head, 5, none, pred, curr, link, node, seen, ⟨o1, o2, o3, o4⟩⟩) (by simp) (by simp)]
          have ha : (ListS.joined ⟨kind, key, head, 5, none, pred, curr, link, node, seen, ⟨o1, o2, o3, o4⟩⟩ ⟨d1, d2, d3, d4⟩).2.a = none := joined_a _ _
          (cbv; repeat' (first | (refine mt (fun h => ?_) (fun h => ?_) <;> first | (exfalso; simp [Ops.cmp_eq, Ops.not_eq, icmp] at h; done) | (try cbv)) | fail))
          refine Ops.call _ [1] (joined_ev ⟨kind, key, head, 5, none, pred, curr, link, node, seen, ⟨o1, o2, o3, o4⟩⟩ ⟨d1, d2, d3, d4⟩) rfl rfl rfl ⟨.inr rfl, trivial⟩ ?_
          rintro r V' ⟨rfl, rfl⟩
          generalize ListS.joined ⟨kind, key, head, 5, none, pred, curr, link, node, seen, ⟨o1, o2, o3, o4⟩⟩ ⟨d1, d2, d3, d4⟩ = q at *
          obtain ⟨b, ⟨s1, s2, s3, s4, s5, s6, s7, s8, s9, s10, ⟨p1, p2, p3, p4⟩⟩⟩ := q
          obtain rfl : s5 = none := ha
          simp only [layB, lset, lapp, List.map_nil, rn]
          cbv
          subst hR2
          refine hQ _ _ (ReV.list (s := ⟨s1, s2, s3, s4, none, s6, s7, s8, s9, s10, ⟨p1, p2, p3, p4⟩⟩) 7 hM rfl rfl rfl rfl (.inl rfl) (fun _ => rfl) ⟨rfl, rfl⟩)
        · have hR2 : R = ((ListS.joined ⟨kind, key, head, 6, none, pred, curr, link, node, seen, ⟨o1, o2, o3, o4⟩⟩ ⟨d1, d2, d3, d4⟩).1, (ListS.joined ⟨kind, key, head, 6, none, pred, curr, link, node, seen, ⟨o1, o2, o3, o4⟩⟩ ⟨d1, d2, d3, d4⟩).2, m') := by rw [hR1, after_jo (s := ⟨kind, key, head, 6, none, pred, curr, link, node, seen, ⟨o1, o2, o3, o4⟩⟩) (by simp) (by simp)]
          have ha : (ListS.joined ⟨kind, key, head, 6, none, pred, curr, link, node, seen, ⟨o1, o2, o3, o4⟩⟩ ⟨d1, d2, d3, d4⟩).2.a = none := joined_a _ _
          (cbv; repeat' (first | (refine mt (fun h => ?_) (fun h => ?_) <;> first | (exfalso; simp [Ops.cmp_eq, Ops.not_eq, icmp] at h; done) | (try cbv)) | fail))
          refine Ops.call _ [1] (joined_ev ⟨kind, key, head, 6, none, pred, curr, link, node, seen, ⟨o1, o2, o3, o4⟩⟩ ⟨d1, d2, d3, d4⟩) rfl rfl rfl ⟨.inr rfl, trivial⟩ ?_
          rintro r V' ⟨rfl, rfl⟩
          generalize ListS.joined ⟨kind, key, head, 6, none, pred, curr, link, node, seen, ⟨o1, o2, o3, o4⟩⟩ ⟨d1, d2, d3, d4⟩ = q at *
          obtain ⟨b, ⟨s1, s2, s3, s4, s5, s6, s7, s8, s9, s10, ⟨p1, p2, p3, p4⟩⟩⟩ := q
          obtain rfl : s5 = none := ha
          simp only [layB, lset, lapp, List.map_nil, rn]
          cbv
          subst hR2
          refine hQ _ _ (ReV.list (s := ⟨s1, s2, s3, s4, none, s6, s7, s8, s9, s10, ⟨p1, p2, p3, p4⟩⟩) 7 hM rfl rfl rfl rfl (.inl rfl) (fun _ => rfl) ⟨rfl, rfl⟩)
        · have hR2 : R = ((ListS.joined ⟨kind, key, head, 7, none, pred, curr, link, node, seen, ⟨o1, o2, o3, o4⟩⟩ ⟨d1, d2, d3, d4⟩).1, (ListS.joined ⟨kind, key, head, 7, none, pred, curr, link, node, seen, ⟨o1, o2, o3, o4⟩⟩ ⟨d1, d2, d3, d4⟩).2, m') := by rw [hR1, after_jo (s := ⟨kind, key, head, 7, none, pred, curr, link, node, seen, ⟨o1, o2, o3, o4⟩⟩) (by simp) (by simp)]
          have ha : (ListS.joined ⟨kind, key, head, 7, none, pred, curr, link, node, seen, ⟨o1, o2, o3, o4⟩⟩ ⟨d1, d2, d3, d4⟩).2.a = none := joined_a _ _
          (cbv; repeat' (first | (refine mt (fun h => ?_) (fun h => ?_) <;> first | (exfalso; simp [Ops.cmp_eq, Ops.not_eq, icmp] at h; done) | (try cbv)) | fail))
          refine Ops.call _ [1] (joined_ev ⟨kind, key, head, 7, none, pred, curr, link, node, seen, ⟨o1, o2, o3, o4⟩⟩ ⟨d1, d2, d3, d4⟩) rfl rfl rfl ⟨.inr rfl, trivial⟩ ?_
          rintro r V' ⟨rfl, rfl⟩
          generalize ListS.joined ⟨kind, key, head, 7, none, pred, curr, link, node, seen, ⟨o1, o2, o3, o4⟩⟩ ⟨d1, d2, d3, d4⟩ = q at *
          obtain ⟨b, ⟨s1, s2, s3, s4, s5, s6, s7, s8, s9, s10, ⟨p1, p2, p3, p4⟩⟩⟩ := q
          obtain rfl : s5 = none := ha
          simp only [layB, lset, lapp, List.map_nil, rn]
          cbv
          subst hR2
          refine hQ _ _ (ReV.list (s := ⟨s1, s2, s3, s4, none, s6, s7, s8, s9, s10, ⟨p1, p2, p3, p4⟩⟩) 7 hM rfl rfl rfl rfl (.inl rfl) (fun _ => rfl) ⟨rfl, rfl⟩)
        · have hR2 : R = ((ListS.joined ⟨kind, key, head, 8, none, pred, curr, link, node, seen, ⟨o1, o2, o3, o4⟩⟩ ⟨d1, d2, d3, d4⟩).1, (ListS.joined ⟨kind, key, head, 8, none, pred, curr, link, node, seen, ⟨o1, o2, o3, o4⟩⟩ ⟨d1, d2, d3, d4⟩).2, m') := by rw [hR1, after_jo (s := ⟨kind, key, head, 8, none, pred, curr, link, node, seen, ⟨o1, o2, o3, o4⟩⟩) (by simp) (by simp)]
          have ha : (ListS.joined ⟨kind, key, head, 8, none, pred, curr, link, node, seen, ⟨o1, o2, o3, o4⟩⟩ ⟨d1, d2, d3, d4⟩).2.a = none := joined_a _ _
          (cbv; repeat' (first | (refine mt (fun h => ?_) (fun h => ?_) <;> first | (exfalso; simp [Ops.cmp_eq, Ops.not_eq, icmp] at h; done) | (try cbv)) | fail))
          refine Ops.call _ [1] (joined_ev ⟨kind, key, head, 8, none, pred, curr, link, node, seen, ⟨o1, o2, o3, o4⟩⟩ ⟨d1, d2, d3, d4⟩) rfl rfl rfl ⟨.inr rfl, trivial⟩ ?_
          rintro r V' ⟨rfl, rfl⟩
          generalize ListS.joined ⟨kind, key, head, 8, none, pred, curr, link, node, seen, ⟨o1, o2, o3, o4⟩⟩ ⟨d1, d2, d3, d4⟩ = q at *
          obtain ⟨b, ⟨s1, s2, s3, s4, s5, s6, s7, s8, s9, s10, ⟨p1, p2, p3, p4⟩⟩⟩ := q
          obtain rfl : s5 = none := ha
          simp only [layB, lset, lapp, List.map_nil, rn]
          cbv
          subst hR2
          refine hQ _ _ (ReV.list (s := ⟨s1, s2, s3, s4, none, s6, s7, s8, s9, s10, ⟨p1, p2, p3, p4⟩⟩) 7 hM rfl rfl rfl rfl (.inl rfl) (fun _ => rfl) ⟨rfl, rfl⟩)
        · have hR2 : R = ((ListS.removed ⟨kind, key, head, n + 9, none, pred, curr, link, node, seen, ⟨o1, o2, o3, o4⟩⟩ ⟨d1, d2, d3, d4⟩).1, (ListS.removed ⟨kind, key, head, n + 9, none, pred, curr, link, node, seen, ⟨o1, o2, o3, o4⟩⟩ ⟨d1, d2, d3, d4⟩).2, m') := by rw [hR1, after_re (s := ⟨kind, key, head, n + 9, none, pred, curr, link, node, seen, ⟨o1, o2, o3, o4⟩⟩) (by simp)]
          have ha : (ListS.removed ⟨kind, key, head, n + 9, none, pred, curr, link, node, seen, ⟨o1, o2, o3, o4⟩⟩ ⟨d1, d2, d3, d4⟩).2.a = none := removed_a _ _
          (cbv; repeat' (first | (refine mt (fun h => ?_) (fun h => ?_) <;> first | (exfalso; simp [Ops.cmp_eq, icmp] at h; omega) | (try cbv)) | fail))
          refine Ops.call _ [1] (removed_ev ⟨kind, key, head, n + 9, none, pred, curr, link, node, seen, ⟨o1, o2, o3, o4⟩⟩ ⟨d1, d2, d3, d4⟩) rfl rfl rfl ⟨.inr rfl, trivial⟩ ?_
          rintro r V' ⟨rfl, rfl⟩
          generalize ListS.removed ⟨kind, key, head, n + 9, none, pred, curr, link, node, seen, ⟨o1, o2, o3, o4⟩⟩ ⟨d1, d2, d3, d4⟩ = q at *
          obtain ⟨b, ⟨s1, s2, s3, s4, s5, s6, s7, s8, s9, s10, ⟨p1, p2, p3, p4⟩⟩⟩ := q
          obtain rfl : s5 = none := ha
          simp only [layB, lset, lapp, List.map_nil, rn]
          cbv
          subst hR2
          refine hQ _ _ (ReV.list (s := ⟨s1, s2, s3, s4, none, s6, s7, s8, s9, s10, ⟨p1, p2, p3, p4⟩⟩) 7 hM rfl rfl rfl rfl (.inl rfl) (fun _ => rfl) ⟨rfl, rfl⟩)
    | false =>
      simp only [Bool.false_eq_true, if_false] at hr
      obtain ⟨rfl, rfl⟩ := hr
      have hR1 : R = (let q := ListS.after ⟨kind, key, head, pc, none, pred, curr, link, node, seen, ⟨o1, o2, o3, o4⟩⟩ ⟨1, 0, 0, 0⟩; (q.1, q.2, m)) := by
        rw [← hR]; simp [ListS.step, ListS.acts, hx, hc]
      simp only at hR1
      cbv
      refine Ops.call _ [0] (Act0_ev m e) rfl rfl rfl ⟨.inr (by rw [← hM]; rfl), trivial⟩ ?_; rintro v V' ⟨rfl, rfl⟩; simp only [layB, lset, lapp, List.map_nil, List.map_cons, rnB_bx, rn, rnL]; clear hM; generalize hM : bx W0 (memU _) = M
      (cbv; repeat' (first | (refine mt (fun h => ?_) (fun h => ?_) <;> first | (exfalso; simp [Ops.cmp_eq, Ops.not_eq, icmp] at h; done) | (try cbv)) | fail))
      refine Ops.call0 _ (actDone0_ev) rfl ?_; rintro v V' ⟨rfl, rfl⟩; simp only [lapp, List.map_nil, rn, rnL]
      simp only [doneV, rn, rnL]
      have hcat : pc = 0 ∨ pc = 1 ∨ pc = 2 ∨ pc = 3 ∨ pc = 4 ∨ pc = 5 ∨ pc = 6 ∨ pc = 7 ∨ pc = 8 ∨ ∃ n, pc = n + 9 := by rcases pc with _ | _ | _ | _ | _ | _ | _ | _ | _ | n <;> simp
      rcases hcat with rfl | rfl | rfl | rfl | rfl | rfl | rfl | rfl | rfl | ⟨n, rfl⟩
      · have hR2 : R = ((ListS.looked ⟨kind, key, head, 0, none, pred, curr, link, node, seen, ⟨o1, o2, o3, o4⟩⟩ ⟨1, 0, 0, 0⟩).1, (ListS.looked ⟨kind, key, head, 0, none, pred, curr, link, node, seen, ⟨o1, o2, o3, o4⟩⟩ ⟨1, 0, 0, 0⟩).2, m) := by rw [hR1, after_lo (s := ⟨kind, key, head, 0, none, pred, curr, link, node, seen, ⟨o1, o2, o3, o4⟩⟩) (by simp)]
        have ha : (ListS.looked ⟨kind, key, head, 0, none, pred, curr, link, node, seen, ⟨o1, o2, o3, o4⟩⟩ ⟨1, 0, 0, 0⟩).2.a = none := looked_a _ _
        (cbv; repeat' (first | (refine mt (fun h => ?_) (fun h => ?_) <;> first | (exfalso; simp [Ops.cmp_eq, Ops.not_eq, icmp] at h; done) | (try cbv)) | fail))
        refine Ops.call _ [1] (looked_ev ⟨kind, key, head, 0, none, pred, curr, link, node, seen, ⟨o1, o2, o3, o4⟩⟩ ⟨1, 0, 0, 0⟩) rfl rfl rfl ⟨.inr rfl, trivial⟩ ?_
        rintro r V' ⟨rfl, rfl⟩
        generalize ListS.looked ⟨kind, key, head, 0, none, pred, curr, link, node, seen, ⟨o1, o2, o3, o4⟩⟩ ⟨1, 0, 0, 0⟩ = q at *
        obtain ⟨b, ⟨s1, s2, s3, s4, s5, s6, s7, s8, s9, s10, ⟨p1, p2, p3, p4⟩⟩⟩ := q
        obtain rfl : s5 = none := ha
        simp only [layB, lset, lapp, List.map_nil, rn]
        cbv
        subst hR2
        refine hQ _ _ (ReV.list (s := ⟨s1, s2, s3, s4, none, s6, s7, s8, s9, s10, ⟨p1, p2, p3, p4⟩⟩) 7 hM rfl rfl rfl rfl (.inl rfl) (fun _ => rfl) ⟨rfl, rfl⟩)
      · have hR2 : R = ((ListS.looked ⟨kind, key, head, 1, none, pred, curr, link, node, seen, ⟨o1, o2, o3, o4⟩⟩ ⟨1, 0, 0, 0⟩).1, (ListS.looked ⟨kind, key, head, 1, none, pred, curr, link, node, seen, ⟨o1, o2, o3, o4⟩⟩ ⟨1, 0, 0, 0⟩).2, m) := by rw [hR1, after_lo (s := ⟨kind, key, head, 1, none, pred, curr, link, node, seen, ⟨o1, o2, o3, o4⟩⟩) (by simp)]
        have ha : (ListS.looked ⟨kind, key, head, 1, none, pred, curr, link, node, seen, ⟨o1, o2, o3, o4⟩⟩ ⟨1, 0, 0, 0⟩).2.a = none := looked_a _ _
        (cbv; repeat' (first | (refine mt (fun h => ?_) (fun h => ?_) <;> first | (exfalso; simp [Ops.cmp_eq, Ops.not_eq, icmp] at h; done) | (try cbv)) | fail))
        refine Ops.call _ [1] (looked_ev ⟨kind, key, head, 1, none, pred, curr, link, node, seen, ⟨o1, o2, o3, o4⟩⟩ ⟨1, 0, 0, 0⟩) rfl rfl rfl ⟨.inr rfl, trivial⟩ ?_
        rintro r V' ⟨rfl, rfl⟩
        generalize ListS.looked ⟨kind, key, head, 1, none, pred, curr, link, node, seen, ⟨o1, o2, o3, o4⟩⟩ ⟨1, 0, 0, 0⟩ = q at *
        obtain ⟨b, ⟨s1, s2, s3, s4, s5, s6, s7, s8, s9, s10, ⟨p1, p2, p3, p4⟩⟩⟩ := q
        obtain rfl : s5 = none := ha
        simp only [layB, lset, lapp, List.map_nil, rn]
        cbv
        subst hR2
        refine hQ _ _ (ReV.list (s := ⟨s1, s2, s3, s4, none, s6, s7, s8, s9, s10, ⟨p1, p2, p3, p4⟩⟩) 7 hM rfl rfl rfl rfl (.inl rfl) (fun _ => rfl) ⟨rfl, rfl⟩)
      · have hR2 : R = ((ListS.looked ⟨kind, key, head, 2, none, pred, curr, link, node, seen, ⟨o1, o2, o3, o4⟩⟩ ⟨1, 0, 0, 0⟩).1, (ListS.looked ⟨kind, key, head, 2, none, pred, curr, link, node, seen, ⟨o1, o2, o3, o4⟩⟩ ⟨1, 0, 0, 0⟩).2, m) := by rw [hR1, after_lo (s := ⟨kind, key, head, 2, none, pred, curr, link, node, seen, ⟨o1, o2, o3, o4⟩⟩) (by simp)]
        have ha : (ListS.looked ⟨kind, key, head, 2, none, pred, curr, link, node, seen, ⟨o1, o2, o3, o4⟩⟩ ⟨1, 0, 0, 0⟩).2.a = none := looked_a _ _
        (cbv; repeat' (first | (refine mt (fun h => ?_) (fun h => ?_) <;> first | (exfalso; simp [Ops.cmp_eq, Ops.not_eq, icmp] at h; done) | (try cbv)) | fail))
        refine Ops.call _ [1] (looked_ev ⟨kind, key, head, 2, none, pred, curr, link, node, seen, ⟨o1, o2, o3, o4⟩⟩ ⟨1, 0, 0, 0⟩) rfl rfl rfl ⟨.inr rfl, trivial⟩ ?_
        rintro r V' ⟨rfl, rfl⟩
        generalize ListS.looked ⟨kind, key, head, 2, none, pred, curr, link, node, seen, ⟨o1, o2, o3, o4⟩⟩ ⟨1, 0, 0, 0⟩ = q at *
        obtain ⟨b, ⟨s1, s2, s3, s4, s5, s6, s7, s8, s9, s10, ⟨p1, p2, p3, p4⟩⟩⟩ := q
        obtain rfl : s5 = none := ha
        simp only [layB, lset, lapp, List.map_nil, rn]
        cbv
        subst hR2
        refine hQ _ _ (ReV.list (s := ⟨s1, s2, s3, s4, none, s6, s7, s8, s9, s10, ⟨p1, p2, p3, p4⟩⟩) 7 hM rfl rfl rfl rfl (.inl rfl) (fun _ => rfl) ⟨rfl, rfl⟩)
      · have hR2 : R = ((ListS.unlinked ⟨kind, key, head, 3, none, pred, curr, link, node, seen, ⟨o1, o2, o3, o4⟩⟩ ⟨1, 0, 0, 0⟩).1, (ListS.unlinked ⟨kind, key, head, 3, none, pred, curr, link, node, seen, ⟨o1, o2, o3, o4⟩⟩ ⟨1, 0, 0, 0⟩).2, m) := by rw [hR1, after_un (s := ⟨kind, key, head, 3, none, pred, curr, link, node, seen, ⟨o1, o2, o3, o4⟩⟩) (by simp)]
        have ha : (ListS.unlinked ⟨kind, key, head, 3, none, pred, curr, link, node, seen, ⟨o1, o2, o3, o4⟩⟩ ⟨1, 0, 0, 0⟩).2.a = none := unlinked_a _ _
        (cbv; repeat' (first | (refine mt (fun h => ?_) (fun h => ?_) <;> first | (exfalso; simp [Ops.cmp_eq, Ops.not_eq, icmp] at h; done) | (try cbv)) | fail))
        refine Ops.call _ [1] (unlinked_ev ⟨kind, key, head, 3, none, pred, curr, link, node, seen, ⟨o1, o2, o3, o4⟩⟩ ⟨1, 0, 0, 0⟩) rfl rfl rfl ⟨.inr rfl, trivial⟩ ?_
        rintro r V' ⟨rfl, rfl⟩
        generalize ListS.unlinked ⟨kind, key, head, 3, none, pred, curr, link, node, seen, ⟨o1, o2, o3, o4⟩⟩ ⟨1, 0, 0, 0⟩ = q at *
        obtain ⟨b, ⟨s1, s2, s3, s4, s5, s6, s7, s8, s9, s10, ⟨p1, p2, p3, p4⟩⟩⟩ := q
        obtain rfl : s5 = none := ha
        simp only [layB, lset, lapp, List.map_nil, rn]
        cbv
        subst hR2
        refine hQ _ _ (ReV.list (s := ⟨s1, s2, s3, s4, none, s6, s7, s8, s9, s10, ⟨p1, p2, p3, p4⟩⟩) 7 hM rfl rfl rfl rfl (.inl rfl) (fun _ => rfl) ⟨rfl, rfl⟩)
      · have hR2 : R = ((ListS.unlinked ⟨kind, key, head, 4, none, pred, curr, link, node, seen, ⟨o1, o2, o3, o4⟩⟩ ⟨1, 0, 0, 0⟩).1, (ListS.unlinked ⟨kind, key, head, 4, none, pred, curr, link, node, seen, ⟨o1, o2, o3, o4⟩⟩ ⟨1, 0, 0, 0⟩).2, m) := by rw [hR1, after_un (s := ⟨kind, key, head, 4, none, pred, curr, link, node, seen, ⟨o1, o2, o3, o4⟩⟩) (by simp)]
        have ha : (ListS.unlinked ⟨kind, key, head, 4, none, pred, curr, link, node, seen, ⟨o1, o2, o3, o4⟩⟩ ⟨1, 0, 0, 0⟩).2.a = none := unlinked_a _ _
        (cbv; repeat' (first | (refine mt (fun h => ?_) (fun h => ?_) <;> first | (exfalso; simp [Ops.cmp_eq, Ops.not_eq, icmp] at h; done) | (try cbv)) | fail))
        refine Ops.call _ [1] (unlinked_ev ⟨kind, key, head, 4, none, pred, curr, link, node, seen, ⟨o1, o2, o3, o4⟩⟩ ⟨1, 0, 0, 0⟩) rfl rfl rfl ⟨.inr rfl, trivial⟩ ?_
        rintro r V' ⟨rfl, rfl⟩
        generalize ListS.unlinked ⟨kind, key, head, 4, none, pred, curr, link, node, seen, ⟨o1, o2, o3, o4⟩⟩ ⟨1, 0, 0, 0⟩ = q at *
        obtain ⟨b, ⟨s1, s2, s3, s4, s5, s6, s7, s8, s9, s10, ⟨p1, p2, p3, p4⟩⟩⟩ := q
        obtain rfl : s5 = none := ha
        simp only [layB, lset, lapp, List.map_nil, rn]
        cbv
        subst hR2
        refine hQ _ _ (ReV.list (s := ⟨s1, s2, s3, s4, none, s6, s7, s8, s9, s10, ⟨p1, p2, p3, p4⟩⟩) 7 hM rfl rfl rfl rfl (.inl rfl) (fun _ => rfl) ⟨rfl, rfl⟩)
      · have hR2 : R = ((ListS.joined ⟨kind, key, head, 5, none, pred, curr, link, node, seen, ⟨o1, o2, o3, o4⟩⟩ ⟨1, 0, 0, 0⟩).1, (ListS.joined ⟨kind, key, head, 5, none, pred, curr, link, node, seen, ⟨o1, o2, o3, o4⟩⟩ ⟨1, 0, 0, 0⟩).2, m) := by rw [hR1, after_jo (s := ⟨kind, key, head, 5, none, pred, curr, link, node, seen, ⟨o1, o2, o3, o4⟩⟩) (by simp) (by simp)]
        have ha : (ListS.joined ⟨kind, key, head, 5, none, pred, curr, link, node, seen, ⟨o1, o2, o3, o4⟩⟩ ⟨1, 0, 0, 0⟩).2.a = none := joined_a _ _
        (cbv; repeat' (first | (refine mt (fun h => ?_) (fun h => ?_) <;> first | (exfalso; simp [Ops.cmp_eq, Ops.not_eq, icmp] at h; done) | (try cbv)) | fail))
        refine Ops.call _ [1] (joined_ev ⟨kind, key, head, 5, none, pred, curr, link, node, seen, ⟨o1, o2, o3, o4⟩⟩ ⟨1, 0, 0, 0⟩) rfl rfl rfl ⟨.inr rfl, trivial⟩ ?_
        rintro r V' ⟨rfl, rfl⟩
        generalize ListS.joined ⟨kind, key, head, 5, none, pred, curr, link, node, seen, ⟨o1, o2, o3, o4⟩⟩ ⟨1, 0, 0, 0⟩ = q at *
        obtain ⟨b, ⟨s1, s2, s3, s4, s5, s6, s7, s8, s9, s10, ⟨p1, p2, p3, p4⟩⟩⟩ := q
        obtain rfl : s5 = none := ha
        simp only [layB, lset, lapp, List.map_nil, rn]
        cbv
        subst hR2
        refine hQ _ _ (ReV.list (s := ⟨s1, s2, s3, s4, none, s6, s7, s8, s9, s10, ⟨p1, p2, p3, p4⟩⟩) 7 hM rfl rfl rfl rfl (.inl rfl) (fun _ => rfl) ⟨rfl, rfl⟩)
      · have hR2 : R = ((ListS.joined ⟨kind, key, head, 6, none, pred, curr, link, node, seen, ⟨o1, o2, o3, o4⟩⟩ ⟨1, 0, 0, 0⟩).1, (ListS.joined ⟨kind, key, head, 6, none, pred, curr, link, node, seen, ⟨o1, o2, o3, o4⟩⟩ ⟨1, 0, 0, 0⟩).2, m) := by rw [hR1, after_jo (s := ⟨kind, key, head, 6, none, pred, curr, link, node, seen, ⟨o1, o2, o3, o4⟩⟩) (by simp) (by simp)]
        have ha : (ListS.joined ⟨kind, key, head, 6, none, pred, curr, link, node, seen, ⟨o1, o2, o3, o4⟩⟩ ⟨1, 0, 0, 0⟩).2.a = none := joined_a _ _
        (cbv; repeat' (first | (refine mt (fun h => ?_) (fun h => ?_) <;> first | (exfalso; simp [Ops.cmp_eq, Ops.not_eq, icmp] at h; done) | (try cbv)) | fail))
        refine Ops.call _ [1] (joined_ev ⟨kind, key, head, 6, none, pred, curr, link, node, seen, ⟨o1, o2, o3, o4⟩⟩ ⟨1, 0, 0, 0⟩) rfl rfl rfl ⟨.inr rfl, trivial⟩ ?_
        rintro r V' ⟨rfl, rfl⟩
        generalize ListS.joined ⟨kind, key, head, 6, none, pred, curr, link, node, seen, ⟨o1, o2, o3, o4⟩⟩ ⟨1, 0, 0, 0⟩ = q at *
        obtain ⟨b, ⟨s1, s2, s3, s4, s5, s6, s7, s8, s9, s10, ⟨p1, p2, p3, p4⟩⟩⟩ := q
        obtain rfl : s5 = none := ha
        simp only [layB, lset, lapp, List.map_nil, rn]
        cbv
        subst hR2
        refine hQ _ _ (ReV.list (s := ⟨s1, s2, s3, s4, none, s6, s7, s8, s9, s10, ⟨p1, p2, p3, p4⟩⟩) 7 hM rfl rfl rfl rfl (.inl rfl) (fun _ => rfl) ⟨rfl, rfl⟩)
      · have hR2 : R = ((ListS.joined ⟨kind, key, head, 7, none, pred, curr, link, node, seen, ⟨o1, o2, o3, o4⟩⟩ ⟨1, 0, 0, 0⟩).1, (ListS.joined ⟨kind, key, head, 7, none, pred, curr, link, node, seen, ⟨o1, o2, o3, o4⟩⟩ ⟨1, 0, 0, 0⟩).2, m) := by rw [hR1, after_jo (s := ⟨kind, key, head, 7, none, pred, curr, link, node, seen, ⟨o1, o2, o3, o4⟩⟩) (by simp) (by simp)]
        have ha : (ListS.joined ⟨kind, key, head, 7, none, pred, curr, link, node, seen, ⟨o1, o2, o3, o4⟩⟩ ⟨1, 0, 0, 0⟩).2.a = none := joined_a _ _
        (cbv; repeat' (first | (refine mt (fun h => ?_) (fun h => ?_) <;> first | (exfalso; simp [Ops.cmp_eq, Ops.not_eq, icmp] at h; done) | (try cbv)) | fail))
        refine Ops.call _ [1] (joined_ev ⟨kind, key, head, 7, none, pred, curr, link, node, seen, ⟨o1, o2, o3, o4⟩⟩ ⟨1, 0, 0, 0⟩) rfl rfl rfl ⟨.inr rfl, trivial⟩ ?_
        rintro r V' ⟨rfl, rfl⟩
        generalize ListS.joined ⟨kind, key, head, 7, none, pred, curr, link, node, seen, ⟨o1, o2, o3, o4⟩⟩ ⟨1, 0, 0, 0⟩ = q at *
        obtain ⟨b, ⟨s1, s2, s3, s4, s5, s6, s7, s8, s9, s10, ⟨p1, p2, p3, p4⟩⟩⟩ := q
        obtain rfl : s5 = none := ha
        simp only [layB, lset, lapp, List.map_nil, rn]
        cbv
        subst hR2
        refine hQ _ _ (ReV.list (s := ⟨s1, s2, s3, s4, none, s6, s7, s8, s9, s10, ⟨p1, p2, p3, p4⟩⟩) 7 hM rfl rfl rfl rfl (.inl rfl) (fun _ => rfl) ⟨rfl, rfl⟩)
      · have hR2 : R = ((ListS.joined ⟨kind, key, head, 8, none, pred, curr, link, node, seen, ⟨o1, o2, o3, o4⟩⟩ ⟨1, 0, 0, 0⟩).1, (ListS.joined ⟨kind, key, head, 8, none, pred, curr, link, node, seen, ⟨o1, o2, o3, o4⟩⟩ ⟨1, 0, 0, 0⟩).2, m) := by rw [hR1, after_jo (s := ⟨kind, key, head, 8, none, pred, curr, link, node, seen, ⟨o1, o2, o3, o4⟩⟩) (by simp) (by simp)]
        have ha : (ListS.joined ⟨kind, key, head, 8, none, pred, curr, link, node, seen, ⟨o1, o2, o3, o4⟩⟩ ⟨1, 0, 0, 0⟩).2.a = none := joined_a _ _
        (cbv; repeat' (first | (refine mt (fun h => ?_) (fun h => ?_) <;> first | (exfalso; simp [Ops.cmp_eq, Ops.not_eq, icmp] at h; done) | (try cbv)) | fail))
        refine Ops.call _ [1] (joined_ev ⟨kind, key, head, 8, none, pred, curr, link, node, seen, ⟨o1, o2, o3, o4⟩⟩ ⟨1, 0, 0, 0⟩) rfl rfl rfl ⟨.inr rfl, trivial⟩ ?_
        rintro r V' ⟨rfl, rfl⟩
        generalize ListS.joined ⟨kind, key, head, 8, none, pred, curr, link, node, seen, ⟨o1, o2, o3, o4⟩⟩ ⟨1, 0, 0, 0⟩ = q at *
        obtain ⟨b, ⟨s1, s2, s3, s4, s5, s6, s7, s8, s9, s10, ⟨p1, p2, p3, p4⟩⟩⟩ := q
        obtain rfl : s5 = none := ha
        simp only [layB, lset, lapp, List.map_nil, rn]
        cbv
        subst hR2
        refine hQ _ _ (ReV.list (s := ⟨s1, s2, s3, s4, none, s6, s7, s8, s9, s10, ⟨p1, p2, p3, p4⟩⟩) 7 hM rfl rfl rfl rfl (.inl rfl) (fun _ => rfl) ⟨rfl, rfl⟩)
      · have hR2 : R = ((ListS.removed ⟨kind, key, head, n + 9, none, pred, curr, link, node, seen, ⟨o1, o2, o3, o4⟩⟩ ⟨1, 0, 0, 0⟩).1, (ListS.removed ⟨kind, key, head, n + 9, none, pred, curr, link, node, seen, ⟨o1, o2, o3, o4⟩⟩ ⟨1, 0, 0, 0⟩).2, m) := by rw [hR1, after_re (s := ⟨kind, key, head, n + 9, none, pred, curr, link, node, seen, ⟨o1, o2, o3, o4⟩⟩) (by simp)]
        have ha : (ListS.removed ⟨kind, key, head, n + 9, none, pred, curr, link, node, seen, ⟨o1, o2, o3, o4⟩⟩ ⟨1, 0, 0, 0⟩).2.a = none := removed_a _ _
        (cbv; repeat' (first | (refine mt (fun h => ?_) (fun h => ?_) <;> first | (exfalso; simp [Ops.cmp_eq, icmp] at h; omega) | (try cbv)) | fail))
        refine Ops.call _ [1] (removed_ev ⟨kind, key, head, n + 9, none, pred, curr, link, node, seen, ⟨o1, o2, o3, o4⟩⟩ ⟨1, 0, 0, 0⟩) rfl rfl rfl ⟨.inr rfl, trivial⟩ ?_
        rintro r V' ⟨rfl, rfl⟩
        generalize ListS.removed ⟨kind, key, head, n + 9, none, pred, curr, link, node, seen, ⟨o1, o2, o3, o4⟩⟩ ⟨1, 0, 0, 0⟩ = q at *
        obtain ⟨b, ⟨s1, s2, s3, s4, s5, s6, s7, s8, s9, s10, ⟨p1, p2, p3, p4⟩⟩⟩ := q
        obtain rfl : s5 = none := ha
        simp only [layB, lset, lapp, List.map_nil, rn]
        cbv
        subst hR2
        refine hQ _ _ (ReV.list (s := ⟨s1, s2, s3, s4, none, s6, s7, s8, s9, s10, ⟨p1, p2, p3, p4⟩⟩) 7 hM rfl rfl rfl rfl (.inl rfl) (fun _ => rfl) ⟨rfl, rfl⟩)
  | some a =>
    have hwa : a.pc = 1 → a.work.wf e.c := hw a rfl
    have hR1 : R = (let r := a.step e m
        if r.1 then let q := ListS.after ⟨kind, key, head, pc, none, pred, curr, link, node, seen, ⟨o1, o2, o3, o4⟩⟩ r.2.1.out; (q.1, q.2, r.2.2) else (false, ⟨kind, key, head, pc, some r.2.1, pred, curr, link, node, seen, ⟨o1, o2, o3, o4⟩⟩, r.2.2)) := by
        rw [← hR]; simp [ListS.step, ListS.acts]
    simp only [optP, optB]
    generalize hA : bx W0 (actU W0 a) = A
    cbv
    refine Ops.call _ [0, 2] (Act_ev m e a hwa) rfl rfl rfl ⟨.inr (by rw [← hM]; rfl), .inr (by rw [← hA]; rfl), trivial⟩ ?_
    rintro v V' ⟨rfl, rfl⟩
    generalize hr : a.step e m = r at *
    obtain ⟨rb, a', m'⟩ := r
    simp only [layB, lset, lapp, List.map_nil, List.map_cons, rnB_bx, rn]
    clear hM hA
    generalize hM : bx W0 (memU m') = M
    generalize hA : bx W0 (actU W0 a') = A
    cases rb with
    | false =>
      (cbv; repeat' (first | (refine mt (fun h => ?_) (fun h => ?_) <;> first | (exfalso; simp [Ops.cmp_eq, Ops.not_eq, icmp] at h; done) | (try cbv)) | fail))
      refine hQ _ _ (ReV.list (s := ⟨kind, key, head, pc, some a', pred, curr, link, node, seen, ⟨o1, o2, o3, o4⟩⟩) 2 hM rfl rfl rfl rfl (.inr (by rw [← hA]; rfl)) (fun _ => rfl) ⟨?_, ?_⟩)
      all_goals (rw [hR1]; simp)
    | true =>
      (cbv; repeat' (first | (refine mt (fun h => ?_) (fun h => ?_) <;> first | (exfalso; simp [Ops.cmp_eq, Ops.not_eq, icmp] at h; done) | (try cbv)) | fail))
      refine Ops.call _ [2] (actDone_ev a') rfl rfl rfl ⟨.inr (by rw [← hA]; rfl), trivial⟩ ?_
      rintro v V' ⟨rfl, rfl⟩
      simp only [layB, lset, lapp, List.map_nil, List.map_cons, rnB_bx, doneV, rn, rnL]
      rw [hA]
      simp only [if_true] at hR1
      generalize hout : a'.out = out at *
      obtain ⟨d1, d2, d3, d4⟩ := out
      have hcat : pc = 0 ∨ pc = 1 ∨ pc = 2 ∨ pc = 3 ∨ pc = 4 ∨ pc = 5 ∨ pc = 6 ∨ pc = 7 ∨ pc = 8 ∨ ∃ n, pc = n + 9 := by rcases pc with _ | _ | _ | _ | _ | _ | _ | _ | _ | n <;> simp
      rcases hcat with rfl | rfl | rfl | rfl | rfl | rfl | rfl | rfl | rfl | ⟨n, rfl⟩
      · have hR2 : R = ((ListS.looked ⟨kind, key, head, 0, none, pred, curr, link, node, seen, ⟨o1, o2, o3, o4⟩⟩ ⟨d1, d2, d3, d4⟩).1, (ListS.looked ⟨kind, key, head, 0, none, pred, curr, link, node, seen, ⟨o1, o2, o3, o4⟩⟩ ⟨d1, d2, d3, d4⟩).2, m') := by rw [hR1, after_lo (s := ⟨kind, key, head, 0, none, pred, curr, link, node, seen, ⟨o1, o2, o3, o4⟩⟩) (by simp)]
        have ha : (ListS.looked ⟨kind, key, head, 0, none, pred, curr, link, node, seen, ⟨o1, o2, o3, o4⟩⟩ ⟨d1, d2, d3, d4⟩).2.a = none := looked_a _ _
        (cbv; repeat' (first | (refine mt (fun h => ?_) (fun h => ?_) <;> first | (exfalso; simp [Ops.cmp_eq, Ops.not_eq, icmp] at h; done) | (try cbv)) | fail))
        refine Ops.call _ [1] (looked_ev ⟨kind, key, head, 0, none, pred, curr, link, node, seen, ⟨o1, o2, o3, o4⟩⟩ ⟨d1, d2, d3, d4⟩) rfl rfl rfl ⟨.inr rfl, trivial⟩ ?_
        rintro r V' ⟨rfl, rfl⟩
        generalize ListS.looked ⟨kind, key, head, 0, none, pred, curr, link, node, seen, ⟨o1, o2, o3, o4⟩⟩ ⟨d1, d2, d3, d4⟩ = q at *
        obtain ⟨b, ⟨s1, s2, s3, s4, s5, s6, s7, s8, s9, s10, ⟨p1, p2, p3, p4⟩⟩⟩ := q
        obtain rfl : s5 = none := ha
        simp only [layB, lset, lapp, List.map_nil, rn]
        cbv
        subst hR2
        refine hQ _ _ (ReV.list (s := ⟨s1, s2, s3, s4, none, s6, s7, s8, s9, s10, ⟨p1, p2, p3, p4⟩⟩) 7 hM rfl rfl rfl rfl (.inl rfl) (fun _ => rfl) ⟨rfl, rfl⟩)
      · have hR2 : R = ((ListS.looked ⟨kind, key, head, 1, none, pred, curr, link, node, seen, ⟨o1, o2, o3, o4⟩⟩ ⟨d1, d2, d3, d4⟩).1, (ListS.looked ⟨kind, key, head, 1, none, pred, curr, link, node, seen, ⟨o1, o2, o3, o4⟩⟩ ⟨d1, d2, d3, d4⟩).2, m') := by rw [hR1, after_lo (s := ⟨kind, key, head, 1, none, pred, curr, link, node, seen, ⟨o1, o2, o3, o4⟩⟩) (by simp)]
        have ha : (ListS.looked ⟨kind, key, head, 1, none, pred, curr, link, node, seen, ⟨o1, o2, o3, o4⟩⟩ ⟨d1, d2, d3, d4⟩).2.a = none := looked_a _ _
        (cbv; repeat' (first | (refine mt (fun h => ?_) (fun h => ?_) <;> first | (exfalso; simp [Ops.cmp_eq, Ops.not_eq, icmp] at h; done) | (try cbv)) | fail))
        refine Ops.call _ [1] (looked_ev ⟨kind, key, head, 1, none, pred, curr, link, node, seen, ⟨o1, o2, o3, o4⟩⟩ ⟨d1, d2, d3, d4⟩) rfl rfl rfl ⟨.inr rfl, trivial⟩ ?_
        rintro r V' ⟨rfl, rfl⟩
        generalize ListS.looked ⟨kind, key, head, 1, none, pred, curr, link, node, seen, ⟨o1, o2, o3, o4⟩⟩ ⟨d1, d2, d3, d4⟩ = q at *
        obtain ⟨b, ⟨s1, s2, s3, s4, s5, s6, s7, s8, s9, s10, ⟨p1, p2, p3, p4⟩⟩⟩ := q
        obtain rfl : s5 = none := ha
        simp only [layB, lset, lapp, List.map_nil, rn]
        cbv
        subst hR2
        refine hQ _ _ (ReV.list (s := ⟨s1, s2, s3, s4, none, s6, s7, s8, s9, s10, ⟨p1, p2, p3, p4⟩⟩) 7 hM rfl rfl rfl rfl (.inl rfl) (fun _ => rfl) ⟨rfl, rfl⟩)
      · have hR2 : R = ((ListS.looked ⟨kind, key, head, 2, none, pred, curr, link, node, seen, ⟨o1, o2, o3, o4⟩⟩ ⟨d1, d2, d3, d4⟩).1, (ListS.looked ⟨kind, key, head, 2, none, pred, curr, link, node, seen, ⟨o1, o2, o3, o4⟩⟩ ⟨d1, d2, d3, d4⟩).2, m') := by rw [hR1, after_lo (s := ⟨kind, key, head, 2, none, pred, curr, link, node, seen, ⟨o1, o2, o3, o4⟩⟩) (by simp)]
        have ha : (ListS.looked ⟨kind, key, head, 2, none, pred, curr, link, node, seen, ⟨o1, o2, o3, o4⟩⟩ ⟨d1, d2, d3, d4⟩).2.a = none := looked_a _ _
        (cbv; repeat' (first | (refine mt (fun h => ?_) (fun h => ?_) <;> first | (exfalso; simp [Ops.cmp_eq, Ops.not_eq, icmp] at h; done) | (try cbv)) | fail))
        refine Ops.call _ [1] (looked_ev ⟨kind, key, head, 2, none, pred, curr, link, node, seen, ⟨o1, o2, o3, o4⟩⟩ ⟨d1, d2, d3, d4⟩) rfl rfl rfl ⟨.inr rfl, trivial⟩ ?_
        rintro r V' ⟨rfl, rfl⟩
        generalize ListS.looked ⟨kind, key, head, 2, none, pred, curr, link, node, seen, ⟨o1, o2, o3, o4⟩⟩ ⟨d1, d2, d3, d4⟩ = q at *
        obtain ⟨b, ⟨s1, s2, s3, s4, s5, s6, s7, s8, s9, s10, ⟨p1, p2, p3, p4⟩⟩⟩ := q
        obtain rfl : s5 = none := ha
        simp only [layB, lset, lapp, List.map_nil, rn]
        cbv
        subst hR2
        refine hQ _ _ (ReV.list (s := ⟨s1, s2, s3, s4, none, s6, s7, s8, s9, s10, ⟨p1, p2, p3, p4⟩⟩) 7 hM rfl rfl rfl rfl (.inl rfl) (fun _ => rfl) ⟨rfl, rfl⟩)
      · have hR2 : R = ((ListS.unlinked ⟨kind, key, head, 3, none, pred, curr, link, node, seen, ⟨o1, o2, o3, o4⟩⟩ ⟨d1, d2, d3, d4⟩).1, (ListS.unlinked ⟨kind, key, head, 3, none, pred, curr, link, node, seen, ⟨o1, o2, o3, o4⟩⟩ ⟨d1, d2, d3, d4⟩).2, m') := by rw [hR1, after_un (s := ⟨kind, key, head, 3, none, pred, curr, link, node, seen, ⟨o1, o2, o3, o4⟩⟩) (by simp)]
        have ha : (ListS.unlinked ⟨kind, key, head, 3, none, pred, curr, link, node, seen, ⟨o1, o2, o3, o4⟩⟩ ⟨d1, d2, d3, d4⟩).2.a = none := unlinked_a _ _
        (cbv; repeat' (first | (refine mt (fun h => ?_) (fun h => ?_) <;> first | (exfalso; simp [Ops.cmp_eq, Ops.not_eq, icmp] at h; done) | (try cbv)) | fail))
        refine Ops.call _ [1] (unlinked_ev ⟨kind, key, head, 3, none, pred, curr, link, node, seen, ⟨o1, o2, o3, o4⟩⟩ ⟨d1, d2, d3, d4⟩) rfl rfl rfl ⟨.inr rfl, trivial⟩ ?_
        rintro r V' ⟨rfl, rfl⟩
        generalize ListS.unlinked ⟨kind, key, head, 3, none, pred, curr, link, node, seen, ⟨o1, o2, o3, o4⟩⟩ ⟨d1, d2, d3, d4⟩ = q at *
        obtain ⟨b, ⟨s1, s2, s3, s4, s5, s6, s7, s8, s9, s10, ⟨p1, p2, p3, p4⟩⟩⟩ := q
        obtain rfl : s5 = none := ha
        simp only [layB, lset, lapp, List.map_nil, rn]
        cbv
        subst hR2
        refine hQ _ _ (ReV.list (s := ⟨s1, s2, s3, s4, none, s6, s7, s8, s9, s10, ⟨p1, p2, p3, p4⟩⟩) 7 hM rfl rfl rfl rfl (.inl rfl) (fun _ => rfl) ⟨rfl, rfl⟩)
      · have hR2 : R = ((ListS.unlinked ⟨kind, key, head, 4, none, pred, curr, link, node, seen, ⟨o1, o2, o3, o4⟩⟩ ⟨d1, d2, d3, d4⟩).1, (ListS.unlinked ⟨kind, key, head, 4, none, pred, curr, link, node, seen, ⟨o1, o2, o3, o4⟩⟩ ⟨d1, d2, d3, d4⟩).2, m') := by rw [hR1, after_un (s := ⟨kind, key, head, 4, none, pred, curr, link, node, seen, ⟨o1, o2, o3, o4⟩⟩) (by simp)]
        have ha : (ListS.unlinked ⟨kind, key, head, 4, none, pred, curr, link, node, seen, ⟨o1, o2, o3, o4⟩⟩ ⟨d1, d2, d3, d4⟩).2.a = none := unlinked_a _ _
        (cbv; repeat' (first | (refine mt (fun h => ?_) (fun h => ?_) <;> first | (exfalso; simp [Ops.cmp_eq, Ops.not_eq, icmp] at h; done) | (try cbv)) | fail))
        refine Ops.call _ [1] (unlinked_ev ⟨kind, key, head, 4, none, pred, curr, link, node, seen, ⟨o1, o2, o3, o4⟩⟩ ⟨d1, d2, d3, d4⟩) rfl rfl rfl ⟨.inr rfl, trivial⟩ ?_
        rintro r V' ⟨rfl, rfl⟩
        generalize ListS.unlinked ⟨kind, key, head, 4, none, pred, curr, link, node, seen, ⟨o1, o2, o3, o4⟩⟩ ⟨d1, d2, d3, d4⟩ = q at *
        obtain ⟨b, ⟨s1, s2, s3, s4, s5, s6, s7, s8, s9, s10, ⟨p1, p2, p3, p4⟩⟩⟩ := q
        obtain rfl : s5 = none := ha
        simp only [layB, lset, lapp, List.map_nil, rn]
        cbv
        subst hR2
        refine hQ _ _ (ReV.list (s := ⟨s1, s2, s3, s4, none, s6, s7, s8, s9, s10, ⟨p1, p2, p3, p4⟩⟩) 7 hM rfl rfl rfl rfl (.inl rfl) (fun _ => rfl) ⟨rfl, rfl⟩)
      · have hR2 : R = ((ListS.joined ⟨kind, key, head, 5, none, pred, curr, link, node, seen, ⟨o1, o2, o3, o4⟩⟩ ⟨d1, d2, d3, d4⟩).1, (ListS.joined ⟨kind, key, head, 5, none, pred, curr, link, node, seen, ⟨o1, o2, o3, o4⟩⟩ ⟨d1, d2, d3, d4⟩).2, m') := by rw [hR1, after_jo (s := ⟨kind, key, head, 5, none, pred, curr, link, node, seen, ⟨o1, o2, o3, o4⟩⟩) (by simp) (by simp)]
        have ha : (ListS.joined ⟨kind, key, head, 5, none, pred, curr, link, node, seen, ⟨o1, o2, o3, o4⟩⟩ ⟨d1, d2, d3, d4⟩).2.a = none := joined_a _ _
        (cbv; repeat' (first | (refine mt (fun h => ?_) (fun h => ?_) <;> first | (exfalso; simp [Ops.cmp_eq, Ops.not_eq, icmp] at h; done) | (try cbv)) | fail))
        refine Ops.call _ [1] (joined_ev ⟨kind, key, head, 5, none, pred, curr, link, node, seen, ⟨o1, o2, o3, o4⟩⟩ ⟨d1, d2, d3, d4⟩) rfl rfl rfl ⟨.inr rfl, trivial⟩ ?_
        rintro r V' ⟨rfl, rfl⟩
        generalize ListS.joined ⟨kind, key, head, 5, none, pred, curr, link, node, seen, ⟨o1, o2, o3, o4⟩⟩ ⟨d1, d2, d3, d4⟩ = q at *
        obtain ⟨b, ⟨s1, s2, s3, s4, s5, s6, s7, s8, s9, s10, ⟨p1, p2, p3, p4⟩⟩⟩ := q
        obtain rfl : s5 = none := ha
        simp only [layB, lset, lapp, List.map_nil, rn]
        cbv
        subst hR2
        refine hQ _ _ (ReV.list (s := ⟨s1, s2, s3, s4, none, s6, s7, s8, s9, s10, ⟨p1, p2, p3, p4⟩⟩) 7 hM rfl rfl rfl rfl (.inl rfl) (fun _ => rfl) ⟨rfl, rfl⟩)
      · have hR2 : R = ((ListS.joined ⟨kind, key, head, 6, none, pred, curr, link, node, seen, ⟨o1, o2, o3, o4⟩⟩ ⟨d1, d2, d3, d4⟩).1, (ListS.joined ⟨kind, key, head, 6, none, pred, curr, link, node, seen, ⟨o1, o2, o3, o4⟩⟩ ⟨d1, d2, d3, d4⟩).2, m') := by rw [hR1, after_jo (s := ⟨kind, key, head, 6, none, pred, curr, link, node, seen, ⟨o1, o2, o3, o4⟩⟩) (by simp) (by simp)]
        have ha : (ListS.joined ⟨kind, key, head, 6, none, pred, curr, link, node, seen, ⟨o1, o2, o3, o4⟩⟩ ⟨d1, d2, d3, d4⟩).2.a = none := joined_a _ _
        (cbv; repeat' (first | (refine mt (fun h => ?_) (fun h => ?_) <;> first | (exfalso; simp [Ops.cmp_eq, Ops.not_eq, icmp] at h; done) | (try cbv)) | fail))
        refine Ops.call _ [1] (joined_ev ⟨kind, key, head, 6, none, pred, curr, link, node, seen, ⟨o1, o2, o3, o4⟩⟩ ⟨d1, d2, d3, d4⟩) rfl rfl rfl ⟨.inr rfl, trivial⟩ ?_
        rintro r V' ⟨rfl, rfl⟩
        generalize ListS.joined ⟨kind, key, head, 6, none, pred, curr, link, node, seen, ⟨o1, o2, o3, o4⟩⟩ ⟨d1, d2, d3, d4⟩ = q at *
        obtain ⟨b, ⟨s1, s2, s3, s4, s5, s6, s7, s8, s9, s10, ⟨p1, p2, p3, p4⟩⟩⟩ := q
        obtain rfl : s5 = none := ha
        simp only [layB, lset, lapp, List.map_nil, rn]
        cbv
        subst hR2
        refine hQ _ _ (ReV.list (s := ⟨s1, s2, s3, s4, none, s6, s7, s8, s9, s10, ⟨p1, p2, p3, p4⟩⟩) 7 hM rfl rfl rfl rfl (.inl rfl) (fun _ => rfl) ⟨rfl, rfl⟩)
      · have hR2 : R = ((ListS.joined ⟨kind, key, head, 7, none, pred, curr, link, node, seen, ⟨o1, o2, o3, o4⟩⟩ ⟨d1, d2, d3, d4⟩).1, (ListS.joined ⟨kind, key, head, 7, none, pred, curr, link, node, seen, ⟨o1, o2, o3, o4⟩⟩ ⟨d1, d2, d3, d4⟩).2, m') := by rw [hR1, after_jo (s := ⟨kind, key, head, 7, none, pred, curr, link, node, seen, ⟨o1, o2, o3, o4⟩⟩) (by simp) (by simp)]
        have ha : (ListS.joined ⟨kind, key, head, 7, none, pred, curr, link, node, seen, ⟨o1, o2, o3, o4⟩⟩ ⟨d1, d2, d3, d4⟩).2.a = none := joined_a _ _
        (cbv; repeat' (first | (refine mt (fun h => ?_) (fun h => ?_) <;> first | (exfalso; simp [Ops.cmp_eq, Ops.not_eq, icmp] at h; done) | (try cbv)) | fail))
        refine Ops.call _ [1] (joined_ev ⟨kind, key, head, 7, none, pred, curr, link, node, seen, ⟨o1, o2, o3, o4⟩⟩ ⟨d1, d2, d3, d4⟩) rfl rfl rfl ⟨.inr rfl, trivial⟩ ?_
        rintro r V' ⟨rfl, rfl⟩
        generalize ListS.joined ⟨kind, key, head, 7, none, pred, curr, link, node, seen, ⟨o1, o2, o3, o4⟩⟩ ⟨d1, d2, d3, d4⟩ = q at *
        obtain ⟨b, ⟨s1, s2, s3, s4, s5, s6, s7, s8, s9, s10, ⟨p1, p2, p3, p4⟩⟩⟩ := q
        obtain rfl : s5 = none := ha
        simp only [layB, lset, lapp, List.map_nil, rn]
        cbv
        subst hR2
        refine hQ _ _ (ReV.list (s := ⟨s1, s2, s3, s4, none, s6, s7, s8, s9, s10, ⟨p1, p2, p3, p4⟩⟩) 7 hM rfl rfl rfl rfl (.inl rfl) (fun _ => rfl) ⟨rfl, rfl⟩)
      · have hR2 : R = ((ListS.joined ⟨kind, key, head, 8, none, pred, curr, link, node, seen, ⟨o1, o2, o3, o4⟩⟩ ⟨d1, d2, d3, d4⟩).1, (ListS.joined ⟨kind, key, head, 8, none, pred, curr, link, node, seen, ⟨o1, o2, o3, o4⟩⟩ ⟨d1, d2, d3, d4⟩).2, m') := by rw [hR1, after_jo (s := ⟨kind, key, head, 8, none, pred, curr, link, node, seen, ⟨o1, o2, o3, o4⟩⟩) (by simp) (by simp)]
        have ha : (ListS.joined ⟨kind, key, head, 8, none, pred, curr, link, node, seen, ⟨o1, o2, o3, o4⟩⟩ ⟨d1, d2, d3, d4⟩).2.a = none := joined_a _ _
        (cbv; repeat' (first | (refine mt (fun h => ?_) (fun h => ?_) <;> first | (exfalso; simp [Ops.cmp_eq, Ops.not_eq, icmp] at h; done) | (try cbv)) | fail))
        refine Ops.call _ [1] (joined_ev ⟨kind, key, head, 8, none, pred, curr, link, node, seen, ⟨o1, o2, o3, o4⟩⟩ ⟨d1, d2, d3, d4⟩) rfl rfl rfl ⟨.inr rfl, trivial⟩ ?_
        rintro r V' ⟨rfl, rfl⟩
        generalize ListS.joined ⟨kind, key, head, 8, none, pred, curr, link, node, seen, ⟨o1, o2, o3, o4⟩⟩ ⟨d1, d2, d3, d4⟩ = q at *
        obtain ⟨b, ⟨s1, s2, s3, s4, s5, s6, s7, s8, s9, s10, ⟨p1, p2, p3, p4⟩⟩⟩ := q
        obtain rfl : s5 = none := ha
        simp only [layB, lset, lapp, List.map_nil, rn]
        cbv
        subst hR2
        refine hQ _ _ (ReV.list (s := ⟨s1, s2, s3, s4, none, s6, s7, s8, s9, s10, ⟨p1, p2, p3, p4⟩⟩) 7 hM rfl rfl rfl rfl (.inl rfl) (fun _ => rfl) ⟨rfl, rfl⟩)
      · have hR2 : R = ((ListS.removed ⟨kind, key, head, n + 9, none, pred, curr, link, node, seen, ⟨o1, o2, o3, o4⟩⟩ ⟨d1, d2, d3, d4⟩).1, (ListS.removed ⟨kind, key, head, n + 9, none, pred, curr, link, node, seen, ⟨o1, o2, o3, o4⟩⟩ ⟨d1, d2, d3, d4⟩).2, m') := by rw [hR1, after_re (s := ⟨kind, key, head, n + 9, none, pred, curr, link, node, seen, ⟨o1, o2, o3, o4⟩⟩) (by simp)]
        have ha : (ListS.removed ⟨kind, key, head, n + 9, none, pred, curr, link, node, seen, ⟨o1, o2, o3, o4⟩⟩ ⟨d1, d2, d3, d4⟩).2.a = none := removed_a _ _
        (cbv; repeat' (first | (refine mt (fun h => ?_) (fun h => ?_) <;> first | (exfalso; simp [Ops.cmp_eq, icmp] at h; omega) | (try cbv)) | fail))
        refine Ops.call _ [1] (removed_ev ⟨kind, key, head, n + 9, none, pred, curr, link, node, seen, ⟨o1, o2, o3, o4⟩⟩ ⟨d1, d2, d3, d4⟩) rfl rfl rfl ⟨.inr rfl, trivial⟩ ?_
        rintro r V' ⟨rfl, rfl⟩
        generalize ListS.removed ⟨kind, key, head, n + 9, none, pred, curr, link, node, seen, ⟨o1, o2, o3, o4⟩⟩ ⟨d1, d2, d3, d4⟩ = q at *
        obtain ⟨b, ⟨s1, s2, s3, s4, s5, s6, s7, s8, s9, s10, ⟨p1, p2, p3, p4⟩⟩⟩ := q
        obtain rfl : s5 = none := ha
        simp only [layB, lset, lapp, List.map_nil, rn]
        cbv
        subst hR2
        refine hQ _ _ (ReV.list (s := ⟨s1, s2, s3, s4, none, s6, s7, s8, s9, s10, ⟨p1, p2, p3, p4⟩⟩) 7 hM rfl rfl rfl rfl (.inl rfl) (fun _ => rfl) ⟨rfl, rfl⟩)
theorem listDone_ev {W0 : World} (s : ListS) : Ev Tryz.prog W0 26 [.ptr 0 0] [bx W0 (listU W0 s)] (fun v V' => v = doneV s.out ∧ V' = [bx W0 (listU W0 s)]) := by
  refine Ev.box0 (U := listU W0 s) ?_ (by simp [listU]) rfl (fun _ => rfl)
  have hU : listU W0 s = [listC s (optP 1 s.a), optB W0 (actU W0) s.a] := rfl
  have hcl : ∀ ρ : Nat → Nat, (∀ i, i < (listU W0 s).length → ρ i = i) → (listU W0 s).map (rnB ρ) = listU W0 s := by
    intro ρ h
    have e1 := h 1 (by simp [listU])
    simp only [hU, List.map_cons, List.map_nil, List.cons.injEq, and_true]
    refine ⟨?_, rnB_optB ..⟩
    simp only [listC, rnB, rnL, rn, rn_optP, e1]
  refine Ev.out fun Q' hQ => ?_
  rw [hU] at hQ hcl ⊢
  generalize optP 1 s.a = vp at *
  generalize optB W0 (actU W0) s.a = P at *
  refine ev26 rfl fun o => ?_
  cbv
  exact hQ _ _ (ReV.pre hcl (fun _ => rfl) ⟨rfl, rfl⟩)
theorem listNew_ev {W0 : World} (kind key : Int) (head : Nat) : Ev Tryz.prog W0 22 [.int .i64 kind, .int .i64 key, .int .u64 head] [] (fun v V' => if checkList kind key then v = .tup [.ptr 0 0, .int .i64 0] ∧ V' = [bx W0 (listU W0 (newList kind key head))] else v = .tup [.nilPtr, .int .i64 1] ∧ V' = []) := by
  refine Ev.out fun Q' hQ => ev22 rfl fun o => ?_
  cbv
  refine Ops.call0 _ (listCheck_ev kind key) rfl ?_; rintro v V' ⟨rfl, rfl⟩; simp only [lapp, List.map_nil, rn, rnL]
  generalize hc : checkList kind key = c at *
  cases c
  all_goals (cbv; repeat' (first | (refine mt (fun h => ?_) (fun h => ?_) <;> first | (exfalso; simp [Ops.cmp_eq, Ops.not_eq, icmp] at h; done) | (try cbv)) | fail))
  · exact hQ _ _ (ReV.none rfl (by simp))
  · refine hQ _ _ (ReV.shut 0 [7] (listU W0 (newList kind key head)) rfl rfl ⟨.inr rfl, .inl rfl, trivial⟩ ?_)
    exact ReV.ren [0] (.tup [.ptr 0 0, .int .i64 0]) [bx W0 (listU W0 (newList kind key head))] rfl rfl rfl ⟨.inr rfl, trivial⟩ ⟨rfl, rfl⟩
end Go.Proofs.YtglghdjpkecngaaGreat
