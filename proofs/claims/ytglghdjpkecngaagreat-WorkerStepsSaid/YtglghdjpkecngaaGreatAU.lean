/- list: somebody who asks something of a sorted list. -/
import Derived.Test.YtglghdjpkecngaaGreatAT
namespace Go.Proofs.YtglghdjpkecngaaGreat
set_option linter.unusedVariables false
set_option linter.unusedSimpArgs false
open Go Go.SL Go.FL
set_option maxRecDepth 100000
theorem PutLink_ev {W0 : World} (next : Nat) (gone : Bool) : Ev Tryz.prog W0 21 [.agg [.int .u64 next, .bool gone]] [] (fun v V' => v = .int .i64 (putLink next gone) ∧ V' = []) := by
  refine Ev.out fun Q' hQ => ev21 rfl fun o => ?_
  have hle : next &&& 4294967295 ≤ 4294967295 := Nat.and_le_right
  cases gone
  all_goals cbv
  all_goals refine hQ _ _ (ReV.none rfl ⟨?_, rfl⟩)
  all_goals simp only [Ops.ar_eq, Ops.wr_eq, Int.ofNat_eq_natCast]
  all_goals rw [and64o (m := 4294967295) (by decide), wrap_and (by decide)]
  · rfl
  · rw [orNo (by omega) (by decide)]; rfl
theorem Link_ev {W0 : World} (n : Int) : Ev Tryz.prog W0 20 [.int .i64 n] [] (fun v V' => v = .agg [.int .u64 (linkNext n), .bool (linkGone n)] ∧ V' = []) := by
  refine Ev.out fun Q' hQ => ev20 rfl fun o => ?_
  have hu : IntKind.u64.wrap n = (u64i n : Int) := by rw [u64w]; unfold u64i; omega
  cbv
  refine hQ _ _ (ReV.none rfl ⟨?_, rfl⟩)
  simp only [Ops.ar_eq, Ops.wr_eq, Ops.cmp_eq, icmp, linkNext, linkGone]
  rw [hu, and64o (m := 4294967295) (by decide), andIo (m := 4294967296) (by decide), bne_nato _ 0]
theorem listCheck_ev {W0 : World} (k y : Int) : Ev Tryz.prog W0 24 [.int .i64 k, .int .i64 y] [] (fun v V' => v = .bool (checkList k y) ∧ V' = []) := by
  refine Ev.out fun Q' hQ => ev24 rfl fun o => ?_
  generalize hR : checkList k y = R at hQ
  simp only [checkList] at hR
  (cbv; repeat' (first | (refine mt (fun h => ?_) (fun h => ?_) <;> (try cbv)) | fail))
  all_goals (simp only [Ops.cmp_eq, icmp] at *)
  all_goals (refine hQ _ _ (ReV.none rfl ⟨?_, rfl⟩); rw [← hR]; simp_all)
  all_goals (intros; omega)
def listC (s : ListS) (va : VV) : VB := .cells [.int .i64 s.kind, .int .i64 s.key, .int .u64 s.head, .int .i64 s.pc, va, .int .u64 s.pred, .int .u64 s.curr, .int .i64 s.link, .int .u64 s.node, .int .i64 s.seen,
  .int .i64 s.out.e, .int .u64 s.out.h, .int .i64 s.out.v, .int .i64 s.out.s]
def listU (W0 : World) (s : ListS) : List VB := [listC s (optP 1 s.a), optB W0 (actU W0) s.a]
theorem ReV.list0 {W0 : World} {Q : VV → List VB → Prop} {v : VV} {s : ListS} {rest : List VB} (hv : ∀ n, rn (rho [0] n) v = v) (hq : Q v [listC s .nilPtr]) : ReV W0 1 Q v (listC s .nilPtr :: rest) :=
  ReV.ren [0] v [listC s .nilPtr] rfl rfl (hv _).symm ⟨.inr rfl, trivial⟩ hq
theorem lend_ev {W0 : World} (s : ListS) (x v st : Int) : Ev Tryz.prog W0 96 [.ptr 0 0, .int .i64 x, .int .i64 v, .int .i64 st] [listC s .nilPtr] (fun r V' => r = .bool (s.fin x v st).1 ∧ V' = [listC (s.fin x v st).2 .nilPtr]) := by
  generalize hR : s.fin x v st = R
  refine Ev.out fun Q' hQ => ev96 rfl fun o => ?_
  obtain ⟨kind, key, head, pc, a, pred, curr, link, node, seen, ⟨o1, o2, o3, o4⟩⟩ := s
  (cbv; repeat' (first | (refine mt (fun h => ?_) (fun h => ?_) <;> (try cbv)) | fail))
  · simp only [Ops.cmp_eq, icmp] at h
    (try simp only [cfix] at *); (try simp only [Int.ofNat_eq_natCast] at *)
    have hb : Nat.beq node 0 = false := by rw [bne_nato] at h; simpa using h
    have hR' : R = (false, ⟨kind, key, head, 11, a, pred, curr, link, node, seen, ⟨x, 0, v, st⟩⟩) := by rw [← hR]; simp [ListS.fin, hb]
    subst hR'
    exact hQ _ _ (ReV.list0 (s := ⟨kind, key, head, 11, a, pred, curr, link, node, seen, ⟨x, 0, v, st⟩⟩) (fun _ => rfl) ⟨rfl, rfl⟩)
  · simp only [Ops.cmp_eq, icmp] at h
    (try simp only [cfix] at *); (try simp only [Int.ofNat_eq_natCast] at *)
    have hb : Nat.beq node 0 = true := by rw [bne_nato] at h; simpa using h
    have hR' : R = (true, ⟨kind, key, head, pc, a, pred, curr, link, node, seen, ⟨x, 0, v, st⟩⟩) := by rw [← hR]; simp only [ListS.fin, hb]; rfl
    subst hR'
    exact hQ _ _ (ReV.list0 (s := ⟨kind, key, head, pc, a, pred, curr, link, node, seen, ⟨x, 0, v, st⟩⟩) (fun _ => rfl) ⟨rfl, rfl⟩)
theorem again_ev {W0 : World} (s : ListS) : Ev Tryz.prog W0 97 [.ptr 0 0] [listC s .nilPtr] (fun r V' => r = .bool (s.again).1 ∧ V' = [listC (s.again).2 .nilPtr]) := by
  refine Ev.out fun Q' hQ => ev97 rfl fun o => ?_
  obtain ⟨kind, key, head, pc, a, pred, curr, link, node, seen, ⟨o1, o2, o3, o4⟩⟩ := s
  cbv
  exact hQ _ _ (ReV.list0 (s := ⟨kind, key, head, 0, a, pred, curr, link, node, seen, ⟨o1, o2, o3, o4⟩⟩) (fun _ => rfl) ⟨rfl, rfl⟩)
theorem absent_ev {W0 : World} (s : ListS) : Ev Tryz.prog W0 100 [.ptr 0 0] [listC s .nilPtr] (fun r V' => r = .bool (s.absent).1 ∧ V' = [listC (s.absent).2 .nilPtr]) := by
  generalize hR : s.absent = R
  refine Ev.out fun Q' hQ => ev100 rfl fun o => ?_
  obtain ⟨kind, key, head, pc, a, pred, curr, link, node, seen, ⟨o1, o2, o3, o4⟩⟩ := s
  (cbv; repeat' (first | (refine mt (fun h => ?_) (fun h => ?_) <;> (try cbv)) | fail))
  · have hk : kind ≠ 2 := by simpa [Ops.cmp_eq, icmp] using h
    refine Ops.call _ [0] (lend_ev ⟨kind, key, head, pc, a, pred, curr, link, node, seen, ⟨o1, o2, o3, o4⟩⟩ 0 0 seen) rfl rfl rfl ⟨.inr rfl, trivial⟩ ?_
    rintro r V' ⟨rfl, rfl⟩
    have hR' : R = ListS.fin ⟨kind, key, head, pc, a, pred, curr, link, node, seen, ⟨o1, o2, o3, o4⟩⟩ 0 0 seen := by rw [← hR]; simp [ListS.absent, hk]
    generalize ListS.fin ⟨kind, key, head, pc, a, pred, curr, link, node, seen, ⟨o1, o2, o3, o4⟩⟩ 0 0 seen = q at *
    obtain ⟨b, ⟨q1, q2, q3, q4, q5, q6, q7, q8, q9, q10, ⟨p1, p2, p3, p4⟩⟩⟩ := q
    simp only [layB, lset, lapp, List.map_nil, rn]
    cbv
    subst hR'
    exact hQ _ _ (ReV.list0 (s := ⟨q1, q2, q3, q4, q5, q6, q7, q8, q9, q10, ⟨p1, p2, p3, p4⟩⟩) (fun _ => rfl) ⟨rfl, rfl⟩)
  · rename_i h1
    have hk : kind = 2 := by simpa [Ops.cmp_eq, icmp] using h1
    simp only [Ops.cmp_eq, icmp] at h
    (try simp only [cfix] at *); (try simp only [Int.ofNat_eq_natCast] at *)
    have hb : Nat.beq node 0 = false := by rw [bne_nato] at h; simpa using h
    have hR' : R = (false, ⟨kind, key, head, 7, a, pred, curr, link, node, seen, ⟨o1, o2, o3, o4⟩⟩) := by rw [← hR]; simp [ListS.absent, hk, hb]
    subst hR'
    exact hQ _ _ (ReV.list0 (s := ⟨kind, key, head, 7, a, pred, curr, link, node, seen, ⟨o1, o2, o3, o4⟩⟩) (fun _ => rfl) ⟨rfl, rfl⟩)
  · rename_i h1
    have hk : kind = 2 := by simpa [Ops.cmp_eq, icmp] using h1
    simp only [Ops.cmp_eq, icmp] at h
    (try simp only [cfix] at *); (try simp only [Int.ofNat_eq_natCast] at *)
    have hb : Nat.beq node 0 = true := by rw [bne_nato] at h; simpa using h
    have hz : node = 0 := beq_true.1 hb
    have hR' : R = (false, ⟨kind, key, head, 5, a, pred, curr, link, node, seen, ⟨o1, o2, o3, o4⟩⟩) := by rw [← hR]; simp [ListS.absent, hk, hz]
    subst hR'
    exact hQ _ _ (ReV.list0 (s := ⟨kind, key, head, 5, a, pred, curr, link, node, seen, ⟨o1, o2, o3, o4⟩⟩) (fun _ => rfl) ⟨rfl, rfl⟩)
theorem lat_ev {W0 : World} (s : ListS) (pr : Nat) (n st : Int) : Ev Tryz.prog W0 98 [.ptr 0 0, .int .u64 pr, .int .i64 n, .int .i64 st] [listC s .nilPtr] (fun r V' => r = .bool (s.at pr n st).1 ∧ V' = [listC (s.at pr n st).2 .nilPtr]) := by
  generalize hR : s.at pr n st = R
  refine Ev.out fun Q' hQ => ev98 rfl fun o => ?_
  obtain ⟨kind, key, head, pc, a, pred, curr, link, node, seen, ⟨o1, o2, o3, o4⟩⟩ := s
  cbv
  refine Ops.call0 _ (Link_ev n) rfl ?_; rintro v V' ⟨rfl, rfl⟩; simp only [lapp, List.map_nil, rn, rnL]
  generalize hl : linkNext n = ln at *
  generalize linkGone n = lg at *
  (cbv; repeat' (first | (refine mt (fun h => ?_) (fun h => ?_) <;> (try cbv)) | fail))
  · simp only [Ops.cmp_eq, icmp] at h
    (try simp only [cfix] at *); (try simp only [Int.ofNat_eq_natCast] at *)
    have hb : Nat.beq ln 0 = true := by rw [beq_nato] at h; exact h
    have hz : ln = 0 := beq_true.1 hb
    refine Ops.call _ [0] (absent_ev ⟨kind, key, head, pc, a, pr, ln, link, node, st, ⟨o1, o2, o3, o4⟩⟩ ) rfl rfl rfl ⟨.inr rfl, trivial⟩ ?_
    rintro r V' ⟨rfl, rfl⟩
    have hR' : R = ListS.absent ⟨kind, key, head, pc, a, pr, ln, link, node, st, ⟨o1, o2, o3, o4⟩⟩  := by rw [← hR]; simp [ListS.at, hl, hz]
    generalize ListS.absent ⟨kind, key, head, pc, a, pr, ln, link, node, st, ⟨o1, o2, o3, o4⟩⟩  = q at *
    obtain ⟨b, ⟨q1, q2, q3, q4, q5, q6, q7, q8, q9, q10, ⟨p1, p2, p3, p4⟩⟩⟩ := q
    simp only [layB, lset, lapp, List.map_nil, rn]
    cbv
    subst hR'
    exact hQ _ _ (ReV.list0 (s := ⟨q1, q2, q3, q4, q5, q6, q7, q8, q9, q10, ⟨p1, p2, p3, p4⟩⟩) (fun _ => rfl) ⟨rfl, rfl⟩)
  · simp only [Ops.cmp_eq, icmp] at h
    (try simp only [cfix] at *); (try simp only [Int.ofNat_eq_natCast] at *)
    have hb : Nat.beq ln 0 = false := by rw [beq_nato] at h; exact h
    have hR' : R = (false, ⟨kind, key, head, 1, a, pr, ln, link, node, st, ⟨o1, o2, o3, o4⟩⟩) := by rw [← hR]; simp [ListS.at, hl, hb]
    subst hR'
    exact hQ _ _ (ReV.list0 (s := ⟨kind, key, head, 1, a, pr, ln, link, node, st, ⟨o1, o2, o3, o4⟩⟩) (fun _ => rfl) ⟨rfl, rfl⟩)
theorem present_ev {W0 : World} (s : ListS) (st : Int) : Ev Tryz.prog W0 99 [.ptr 0 0, .int .i64 st] [listC s .nilPtr] (fun r V' => r = .bool (s.present st).1 ∧ V' = [listC (s.present st).2 .nilPtr]) := by
  generalize hR : s.present st = R
  refine Ev.out fun Q' hQ => ev99 rfl fun o => ?_
  obtain ⟨kind, key, head, pc, a, pred, curr, link, node, seen, ⟨o1, o2, o3, o4⟩⟩ := s
  (cbv; repeat' (first | (refine mt (fun h => ?_) (fun h => ?_) <;> (try cbv)) | fail))
  · have hk : kind = 3 := by simpa [Ops.cmp_eq, icmp] using h
    have hR' : R = (false, ⟨kind, key, head, 9, a, pred, curr, link, node, seen, ⟨o1, o2, o3, o4⟩⟩) := by rw [← hR]; simp [ListS.present, hk]
    subst hR'
    exact hQ _ _ (ReV.list0 (s := ⟨kind, key, head, 9, a, pred, curr, link, node, seen, ⟨o1, o2, o3, o4⟩⟩) (fun _ => rfl) ⟨rfl, rfl⟩)
  · rename_i h1
    have hk1 : kind ≠ 3 := by simpa [Ops.cmp_eq, icmp] using h1
    have hk : kind = 2 := by simpa [Ops.cmp_eq, icmp] using h
    refine Ops.call _ [0] (lend_ev ⟨kind, key, head, pc, a, pred, curr, link, node, seen, ⟨o1, o2, o3, o4⟩⟩ 0 0 st) rfl rfl rfl ⟨.inr rfl, trivial⟩ ?_
    rintro r V' ⟨rfl, rfl⟩
    have hR' : R = ListS.fin ⟨kind, key, head, pc, a, pred, curr, link, node, seen, ⟨o1, o2, o3, o4⟩⟩ 0 0 st := by rw [← hR]; simp [ListS.present, hk]
    generalize ListS.fin ⟨kind, key, head, pc, a, pred, curr, link, node, seen, ⟨o1, o2, o3, o4⟩⟩ 0 0 st = q at *
    obtain ⟨b, ⟨q1, q2, q3, q4, q5, q6, q7, q8, q9, q10, ⟨p1, p2, p3, p4⟩⟩⟩ := q
    simp only [layB, lset, lapp, List.map_nil, rn]
    cbv
    subst hR'
    exact hQ _ _ (ReV.list0 (s := ⟨q1, q2, q3, q4, q5, q6, q7, q8, q9, q10, ⟨p1, p2, p3, p4⟩⟩) (fun _ => rfl) ⟨rfl, rfl⟩)
  · rename_i h1
    have hk1 : kind ≠ 3 := by simpa [Ops.cmp_eq, icmp] using h1
    have hk : kind ≠ 2 := by simpa [Ops.cmp_eq, icmp] using h
    refine Ops.call _ [0] (lend_ev ⟨kind, key, head, pc, a, pred, curr, link, node, seen, ⟨o1, o2, o3, o4⟩⟩ 0 1 st) rfl rfl rfl ⟨.inr rfl, trivial⟩ ?_
    rintro r V' ⟨rfl, rfl⟩
    have hR' : R = ListS.fin ⟨kind, key, head, pc, a, pred, curr, link, node, seen, ⟨o1, o2, o3, o4⟩⟩ 0 1 st := by rw [← hR]; simp [ListS.present, hk, hk1]
    generalize ListS.fin ⟨kind, key, head, pc, a, pred, curr, link, node, seen, ⟨o1, o2, o3, o4⟩⟩ 0 1 st = q at *
    obtain ⟨b, ⟨q1, q2, q3, q4, q5, q6, q7, q8, q9, q10, ⟨p1, p2, p3, p4⟩⟩⟩ := q
    simp only [layB, lset, lapp, List.map_nil, rn]
    cbv
    subst hR'
    exact hQ _ _ (ReV.list0 (s := ⟨q1, q2, q3, q4, q5, q6, q7, q8, q9, q10, ⟨p1, p2, p3, p4⟩⟩) (fun _ => rfl) ⟨rfl, rfl⟩)
theorem looked_ev {W0 : World} (s : ListS) (d : DoneS) : Ev Tryz.prog W0 63 [.ptr 0 0, doneV d] [listC s .nilPtr] (fun r V' => r = .bool (s.looked d).1 ∧ V' = [listC (s.looked d).2 .nilPtr]) := by
  generalize hR : s.looked d = R
  refine Ev.out fun Q' hQ => ev63 rfl fun o => ?_
  obtain ⟨kind, key, head, pc, a, pred, curr, link, node, seen, ⟨o1, o2, o3, o4⟩⟩ := s
  obtain ⟨d1, d2, d3, d4⟩ := d
  have hpc : pc = 0 ∨ pc = 1 ∨ ∃ n, pc = n + 2 := by rcases pc with _ | _ | n <;> simp
  by_cases hd : d1 = 0
  · subst hd
    rcases hpc with rfl | rfl | ⟨n, rfl⟩
    · (cbv; repeat' (first | (refine mt (fun h => ?_) (fun h => ?_) <;> first | (exfalso; simp [Ops.cmp_eq, Ops.not_eq, icmp] at h; done) | (try cbv)) | fail))
      refine Ops.call _ [0] (lat_ev ⟨kind, key, head, 0, a, pred, curr, link, node, seen, ⟨o1, o2, o3, o4⟩⟩ head d3 d4) rfl rfl rfl ⟨.inr rfl, trivial⟩ ?_
      rintro r V' ⟨rfl, rfl⟩
      have hR' : R = ListS.at ⟨kind, key, head, 0, a, pred, curr, link, node, seen, ⟨o1, o2, o3, o4⟩⟩ head d3 d4 := by rw [← hR]; simp [ListS.looked]
      generalize ListS.at ⟨kind, key, head, 0, a, pred, curr, link, node, seen, ⟨o1, o2, o3, o4⟩⟩ head d3 d4 = q at *
      obtain ⟨b, ⟨q1, q2, q3, q4, q5, q6, q7, q8, q9, q10, ⟨p1, p2, p3, p4⟩⟩⟩ := q
      simp only [layB, lset, lapp, List.map_nil, rn]
      cbv
      subst hR'
      exact hQ _ _ (ReV.list0 (s := ⟨q1, q2, q3, q4, q5, q6, q7, q8, q9, q10, ⟨p1, p2, p3, p4⟩⟩) (fun _ => rfl) ⟨rfl, rfl⟩)
    · (cbv; repeat' (first | (refine mt (fun h => ?_) (fun h => ?_) <;> first | (exfalso; simp [Ops.cmp_eq, Ops.not_eq, icmp] at h; done) | (try cbv)) | fail))
      refine Ops.call0 _ (Link_ev d3) rfl ?_; rintro v V' ⟨rfl, rfl⟩; simp only [lapp, List.map_nil, rn, rnL]
      generalize hl : linkGone d3 = lg at *
      generalize linkNext d3 = ln at *
      cases lg
      all_goals cbv
      · have hR' : R = (false, ⟨kind, key, head, 2, a, pred, curr, d3, node, seen, ⟨o1, o2, o3, d4⟩⟩) := by rw [← hR]; simp [ListS.looked, hl]
        subst hR'
        exact hQ _ _ (ReV.list0 (s := ⟨kind, key, head, 2, a, pred, curr, d3, node, seen, ⟨o1, o2, o3, d4⟩⟩) (fun _ => rfl) ⟨rfl, rfl⟩)
      · have hR' : R = (false, ⟨kind, key, head, 3, a, pred, curr, d3, node, seen, ⟨o1, o2, o3, o4⟩⟩) := by rw [← hR]; simp [ListS.looked, hl]
        subst hR'
        exact hQ _ _ (ReV.list0 (s := ⟨kind, key, head, 3, a, pred, curr, d3, node, seen, ⟨o1, o2, o3, o4⟩⟩) (fun _ => rfl) ⟨rfl, rfl⟩)
    · (cbv; repeat' (first | (refine mt (fun h => ?_) (fun h => ?_) <;> first | (exfalso; simp [Ops.cmp_eq, Ops.not_eq, icmp] at h; done) | (exfalso; simp [Ops.cmp_eq, icmp] at h; omega) | (try cbv)) | fail))
      · have h1 : d3 < key := by simpa [Ops.cmp_eq, icmp] using h
        refine Ops.call _ [0] (lat_ev ⟨kind, key, head, n + 2, a, pred, curr, link, node, seen, ⟨o1, o2, o3, o4⟩⟩ curr link o4) rfl rfl rfl ⟨.inr rfl, trivial⟩ ?_
        rintro r V' ⟨rfl, rfl⟩
        have hR' : R = ListS.at ⟨kind, key, head, n + 2, a, pred, curr, link, node, seen, ⟨o1, o2, o3, o4⟩⟩ curr link o4 := by rw [← hR]; simp [ListS.looked, h1]
        generalize ListS.at ⟨kind, key, head, n + 2, a, pred, curr, link, node, seen, ⟨o1, o2, o3, o4⟩⟩ curr link o4 = q at *
        obtain ⟨b, ⟨q1, q2, q3, q4, q5, q6, q7, q8, q9, q10, ⟨p1, p2, p3, p4⟩⟩⟩ := q
        simp only [layB, lset, lapp, List.map_nil, rn]
        cbv
        subst hR'
        exact hQ _ _ (ReV.list0 (s := ⟨q1, q2, q3, q4, q5, q6, q7, q8, q9, q10, ⟨p1, p2, p3, p4⟩⟩) (fun _ => rfl) ⟨rfl, rfl⟩)
      · rename_i h1
        have h1' : ¬ d3 < key := by simpa [Ops.cmp_eq, icmp] using h1
        obtain rfl : d3 = key := by simpa [Ops.cmp_eq, icmp] using h
        refine Ops.call _ [0] (present_ev ⟨kind, d3, head, n + 2, a, pred, curr, link, node, seen, ⟨o1, o2, o3, o4⟩⟩ o4) rfl rfl rfl ⟨.inr rfl, trivial⟩ ?_
        rintro r V' ⟨rfl, rfl⟩
        have hR' : R = ListS.present ⟨kind, d3, head, n + 2, a, pred, curr, link, node, seen, ⟨o1, o2, o3, o4⟩⟩ o4 := by rw [← hR]; simp [ListS.looked]
        generalize ListS.present ⟨kind, d3, head, n + 2, a, pred, curr, link, node, seen, ⟨o1, o2, o3, o4⟩⟩ o4 = q at *
        obtain ⟨b, ⟨q1, q2, q3, q4, q5, q6, q7, q8, q9, q10, ⟨p1, p2, p3, p4⟩⟩⟩ := q
        simp only [layB, lset, lapp, List.map_nil, rn]
        cbv
        subst hR'
        exact hQ _ _ (ReV.list0 (s := ⟨q1, q2, q3, q4, q5, q6, q7, q8, q9, q10, ⟨p1, p2, p3, p4⟩⟩) (fun _ => rfl) ⟨rfl, rfl⟩)
      · rename_i h1
        have h1' : ¬ d3 < key := by simpa [Ops.cmp_eq, icmp] using h1
        have h2 : ¬ d3 = key := by simpa [Ops.cmp_eq, icmp] using h
        refine Ops.call _ [0] (absent_ev ⟨kind, key, head, n + 2, a, pred, curr, link, node, seen, ⟨o1, o2, o3, o4⟩⟩ ) rfl rfl rfl ⟨.inr rfl, trivial⟩ ?_
        rintro r V' ⟨rfl, rfl⟩
        have hR' : R = ListS.absent ⟨kind, key, head, n + 2, a, pred, curr, link, node, seen, ⟨o1, o2, o3, o4⟩⟩  := by rw [← hR]; simp [ListS.looked, h1', h2]
        generalize ListS.absent ⟨kind, key, head, n + 2, a, pred, curr, link, node, seen, ⟨o1, o2, o3, o4⟩⟩  = q at *
        obtain ⟨b, ⟨q1, q2, q3, q4, q5, q6, q7, q8, q9, q10, ⟨p1, p2, p3, p4⟩⟩⟩ := q
        simp only [layB, lset, lapp, List.map_nil, rn]
        cbv
        subst hR'
        exact hQ _ _ (ReV.list0 (s := ⟨q1, q2, q3, q4, q5, q6, q7, q8, q9, q10, ⟨p1, p2, p3, p4⟩⟩) (fun _ => rfl) ⟨rfl, rfl⟩)
  · have hpc' : pc = 0 ∨ ∃ n, pc = n + 1 := by rcases pc with _ | n <;> simp
    clear hpc
    rcases hpc' with rfl | ⟨n, rfl⟩
    · (cbv; repeat' (first | (refine mt (fun h => ?_) (fun h => ?_) <;> first | (exfalso; simp [Ops.cmp_eq, Ops.not_eq, icmp] at h; done) | (exfalso; simp [Ops.cmp_eq, icmp] at h; omega) | (try cbv)) | fail))
      all_goals try (exfalso; clear hQ hR; simp only [Ops.cmp_eq, icmp] at *; simp_all; done)
      refine Ops.call _ [0] (lend_ev ⟨kind, key, head, 0, a, pred, curr, link, node, seen, ⟨o1, o2, o3, o4⟩⟩ d1 0 d4) rfl rfl rfl ⟨.inr rfl, trivial⟩ ?_
      rintro r V' ⟨rfl, rfl⟩
      have hR' : R = ListS.fin ⟨kind, key, head, 0, a, pred, curr, link, node, seen, ⟨o1, o2, o3, o4⟩⟩ d1 0 d4 := by rw [← hR]; simp [ListS.looked, hd]
      generalize ListS.fin ⟨kind, key, head, 0, a, pred, curr, link, node, seen, ⟨o1, o2, o3, o4⟩⟩ d1 0 d4 = q at *
      obtain ⟨b, ⟨q1, q2, q3, q4, q5, q6, q7, q8, q9, q10, ⟨p1, p2, p3, p4⟩⟩⟩ := q
      simp only [layB, lset, lapp, List.map_nil, rn]
      cbv
      subst hR'
      exact hQ _ _ (ReV.list0 (s := ⟨q1, q2, q3, q4, q5, q6, q7, q8, q9, q10, ⟨p1, p2, p3, p4⟩⟩) (fun _ => rfl) ⟨rfl, rfl⟩)
    · (cbv; repeat' (first | (refine mt (fun h => ?_) (fun h => ?_) <;> first | (exfalso; simp [Ops.cmp_eq, icmp] at h; omega) | (try cbv)) | fail))
      all_goals try (exfalso; clear hQ hR; simp only [Ops.cmp_eq, icmp] at *; simp_all; done)
      refine Ops.call _ [0] (again_ev ⟨kind, key, head, n + 1, a, pred, curr, link, node, seen, ⟨o1, o2, o3, o4⟩⟩ ) rfl rfl rfl ⟨.inr rfl, trivial⟩ ?_
      rintro r V' ⟨rfl, rfl⟩
      have hR' : R = ListS.again ⟨kind, key, head, n + 1, a, pred, curr, link, node, seen, ⟨o1, o2, o3, o4⟩⟩  := by rw [← hR]; simp [ListS.looked, hd]
      generalize ListS.again ⟨kind, key, head, n + 1, a, pred, curr, link, node, seen, ⟨o1, o2, o3, o4⟩⟩  = q at *
      obtain ⟨b, ⟨q1, q2, q3, q4, q5, q6, q7, q8, q9, q10, ⟨p1, p2, p3, p4⟩⟩⟩ := q
      simp only [layB, lset, lapp, List.map_nil, rn]
      cbv
      subst hR'
      exact hQ _ _ (ReV.list0 (s := ⟨q1, q2, q3, q4, q5, q6, q7, q8, q9, q10, ⟨p1, p2, p3, p4⟩⟩) (fun _ => rfl) ⟨rfl, rfl⟩)
theorem at_link (s : ListS) (pr : Nat) (n st : Int) : (s.at pr n st).2.link = s.link := by
  simp only [ListS.at, ListS.absent, ListS.fin]
  repeat' split
  all_goals rfl
theorem unlinked_ev {W0 : World} (s : ListS) (d : DoneS) : Ev Tryz.prog W0 64 [.ptr 0 0, doneV d] [listC s .nilPtr] (fun r V' => r = .bool (s.unlinked d).1 ∧ V' = [listC (s.unlinked d).2 .nilPtr]) := by
  generalize hR : s.unlinked d = R
  refine Ev.out fun Q' hQ => ev64 rfl fun o => ?_
  obtain ⟨kind, key, head, pc, a, pred, curr, link, node, seen, ⟨o1, o2, o3, o4⟩⟩ := s
  obtain ⟨d1, d2, d3, d4⟩ := d
  have hpc : pc = 4 ∨ pc ≠ 4 := by omega
  rcases hpc with rfl | hp4
  · (cbv; repeat' (first | (refine mt (fun h => ?_) (fun h => ?_) <;> first | (exfalso; simp [Ops.cmp_eq, Ops.not_eq, icmp] at h; done) | (try cbv)) | fail))
    simp only [Ops.ar_eq]
    generalize hu : arith .and .i64 link 4294967295 = u at *
    refine Ops.call _ [0] (lat_ev ⟨kind, key, head, 4, a, pred, curr, link, node, seen, ⟨o1, o2, o3, o4⟩⟩ pred u seen) rfl rfl rfl ⟨.inr rfl, trivial⟩ ?_
    rintro r V' ⟨rfl, rfl⟩
    have hR' : R = ListS.at ⟨kind, key, head, 4, a, pred, curr, link, node, seen, ⟨o1, o2, o3, o4⟩⟩ pred u seen := by rw [← hR]; simp [ListS.unlinked, hu]
    have hlk : (ListS.at ⟨kind, key, head, 4, a, pred, curr, link, node, seen, ⟨o1, o2, o3, o4⟩⟩ pred u seen).2.link = link := at_link ..
    generalize ListS.at ⟨kind, key, head, 4, a, pred, curr, link, node, seen, ⟨o1, o2, o3, o4⟩⟩ pred u seen = q at *
    obtain ⟨b, ⟨q1, q2, q3, q4, q5, q6, q7, q8, q9, q10, ⟨p1, p2, p3, p4⟩⟩⟩ := q
    simp only [layB, lset, lapp, List.map_nil, rn]
    cbv
    subst hR'
    refine ⟨⟨congrArg (fun x => some (VV.int .i64 x)) hlk, trivial⟩, ?_⟩
    exact hQ _ _ (ReV.list0 (s := ⟨q1, q2, q3, q4, q5, q6, q7, q8, q9, q10, ⟨p1, p2, p3, p4⟩⟩) (fun _ => rfl) ⟨rfl, rfl⟩)
  · (cbv; repeat' (first | (refine mt (fun h => ?_) (fun h => ?_) <;> first | (exfalso; simp [Ops.cmp_eq, icmp] at h; omega) | (try cbv)) | fail))
    · have hd : d1 ≠ 0 := by simpa [Ops.cmp_eq, icmp] using h
      refine Ops.call _ [0] (again_ev ⟨kind, key, head, pc, a, pred, curr, link, node, seen, ⟨o1, o2, o3, o4⟩⟩ ) rfl rfl rfl ⟨.inr rfl, trivial⟩ ?_
      rintro r V' ⟨rfl, rfl⟩
      have hR' : R = ListS.again ⟨kind, key, head, pc, a, pred, curr, link, node, seen, ⟨o1, o2, o3, o4⟩⟩  := by rw [← hR]; simp [ListS.unlinked, hp4, hd]
      generalize ListS.again ⟨kind, key, head, pc, a, pred, curr, link, node, seen, ⟨o1, o2, o3, o4⟩⟩  = q at *
      obtain ⟨b, ⟨q1, q2, q3, q4, q5, q6, q7, q8, q9, q10, ⟨p1, p2, p3, p4⟩⟩⟩ := q
      simp only [layB, lset, lapp, List.map_nil, rn]
      cbv
      subst hR'
      exact hQ _ _ (ReV.list0 (s := ⟨q1, q2, q3, q4, q5, q6, q7, q8, q9, q10, ⟨p1, p2, p3, p4⟩⟩) (fun _ => rfl) ⟨rfl, rfl⟩)
    · have hd : d1 = 0 := by simpa [Ops.cmp_eq, icmp] using h
      have hR' : R = (false, ⟨kind, key, head, 4, a, pred, curr, link, node, d4, ⟨o1, o2, o3, o4⟩⟩) := by rw [← hR]; simp [ListS.unlinked, hp4, hd]
      subst hR'
      exact hQ _ _ (ReV.list0 (s := ⟨kind, key, head, 4, a, pred, curr, link, node, d4, ⟨o1, o2, o3, o4⟩⟩) (fun _ => rfl) ⟨rfl, rfl⟩)
theorem joined_ev {W0 : World} (s : ListS) (d : DoneS) : Ev Tryz.prog W0 65 [.ptr 0 0, doneV d] [listC s .nilPtr] (fun r V' => r = .bool (s.joined d).1 ∧ V' = [listC (s.joined d).2 .nilPtr]) := by
  generalize hR : s.joined d = R
  refine Ev.out fun Q' hQ => ev65 rfl fun o => ?_
  obtain ⟨kind, key, head, pc, a, pred, curr, link, node, seen, ⟨o1, o2, o3, o4⟩⟩ := s
  obtain ⟨d1, d2, d3, d4⟩ := d
  have hpc : pc = 5 ∨ pc = 6 ∨ pc = 7 ∨ (pc ≠ 5 ∧ pc ≠ 6 ∧ pc ≠ 7) := by omega
  rcases hpc with rfl | rfl | rfl | ⟨h5, h6, h7⟩
  · (cbv; repeat' (first | (refine mt (fun h => ?_) (fun h => ?_) <;> first | (exfalso; simp [Ops.cmp_eq, Ops.not_eq, icmp] at h; done) | (try cbv)) | fail))
    · have hd : d1 ≠ 0 := by simpa [Ops.cmp_eq, icmp] using h
      refine Ops.call _ [0] (lend_ev ⟨kind, key, head, 5, a, pred, curr, link, node, seen, ⟨o1, o2, o3, o4⟩⟩ d1 0 d4) rfl rfl rfl ⟨.inr rfl, trivial⟩ ?_
      rintro r V' ⟨rfl, rfl⟩
      have hR' : R = ListS.fin ⟨kind, key, head, 5, a, pred, curr, link, node, seen, ⟨o1, o2, o3, o4⟩⟩ d1 0 d4 := by rw [← hR]; simp [ListS.joined, hd]
      generalize ListS.fin ⟨kind, key, head, 5, a, pred, curr, link, node, seen, ⟨o1, o2, o3, o4⟩⟩ d1 0 d4 = q at *
      obtain ⟨b, ⟨q1, q2, q3, q4, q5, q6, q7, q8, q9, q10, ⟨p1, p2, p3, p4⟩⟩⟩ := q
      simp only [layB, lset, lapp, List.map_nil, rn]
      cbv
      subst hR'
      exact hQ _ _ (ReV.list0 (s := ⟨q1, q2, q3, q4, q5, q6, q7, q8, q9, q10, ⟨p1, p2, p3, p4⟩⟩) (fun _ => rfl) ⟨rfl, rfl⟩)
    · have hd : d1 = 0 := by simpa [Ops.cmp_eq, icmp] using h
      have hR' : R = (false, ⟨kind, key, head, 6, a, pred, curr, link, d2, seen, ⟨o1, o2, o3, o4⟩⟩) := by rw [← hR]; simp [ListS.joined, hd]
      subst hR'
      exact hQ _ _ (ReV.list0 (s := ⟨kind, key, head, 6, a, pred, curr, link, d2, seen, ⟨o1, o2, o3, o4⟩⟩) (fun _ => rfl) ⟨rfl, rfl⟩)
  · (cbv; repeat' (first | (refine mt (fun h => ?_) (fun h => ?_) <;> first | (exfalso; simp [Ops.cmp_eq, Ops.not_eq, icmp] at h; done) | (try cbv)) | fail))
    have hR' : R = (false, ⟨kind, key, head, 7, a, pred, curr, link, node, seen, ⟨o1, o2, o3, o4⟩⟩) := by rw [← hR]; simp [ListS.joined]
    subst hR'
    exact hQ _ _ (ReV.list0 (s := ⟨kind, key, head, 7, a, pred, curr, link, node, seen, ⟨o1, o2, o3, o4⟩⟩) (fun _ => rfl) ⟨rfl, rfl⟩)
  · (cbv; repeat' (first | (refine mt (fun h => ?_) (fun h => ?_) <;> first | (exfalso; simp [Ops.cmp_eq, Ops.not_eq, icmp] at h; done) | (try cbv)) | fail))
    have hR' : R = (false, ⟨kind, key, head, 8, a, pred, curr, link, node, seen, ⟨o1, o2, o3, o4⟩⟩) := by rw [← hR]; simp [ListS.joined]
    subst hR'
    exact hQ _ _ (ReV.list0 (s := ⟨kind, key, head, 8, a, pred, curr, link, node, seen, ⟨o1, o2, o3, o4⟩⟩) (fun _ => rfl) ⟨rfl, rfl⟩)
  · (cbv; repeat' (first | (refine mt (fun h => ?_) (fun h => ?_) <;> first | (exfalso; simp [Ops.cmp_eq, icmp] at h; omega) | (try cbv)) | fail))
    · have hd : d1 ≠ 0 := by simpa [Ops.cmp_eq, icmp] using h
      refine Ops.call _ [0] (again_ev ⟨kind, key, head, pc, a, pred, curr, link, node, seen, ⟨o1, o2, o3, o4⟩⟩ ) rfl rfl rfl ⟨.inr rfl, trivial⟩ ?_
      rintro r V' ⟨rfl, rfl⟩
      have hR' : R = ListS.again ⟨kind, key, head, pc, a, pred, curr, link, node, seen, ⟨o1, o2, o3, o4⟩⟩  := by rw [← hR]; simp [ListS.joined, h5, h6, h7, hd]
      generalize ListS.again ⟨kind, key, head, pc, a, pred, curr, link, node, seen, ⟨o1, o2, o3, o4⟩⟩  = q at *
      obtain ⟨b, ⟨q1, q2, q3, q4, q5, q6, q7, q8, q9, q10, ⟨p1, p2, p3, p4⟩⟩⟩ := q
      simp only [layB, lset, lapp, List.map_nil, rn]
      cbv
      subst hR'
      exact hQ _ _ (ReV.list0 (s := ⟨q1, q2, q3, q4, q5, q6, q7, q8, q9, q10, ⟨p1, p2, p3, p4⟩⟩) (fun _ => rfl) ⟨rfl, rfl⟩)
    · have hd : d1 = 0 := by simpa [Ops.cmp_eq, icmp] using h
      refine Ops.call _ [0] (lend_ev ⟨kind, key, head, pc, a, pred, curr, link, 0, seen, ⟨o1, o2, o3, o4⟩⟩ 0 1 d4) rfl rfl rfl ⟨.inr rfl, trivial⟩ ?_
      rintro r V' ⟨rfl, rfl⟩
      have hR' : R = ListS.fin ⟨kind, key, head, pc, a, pred, curr, link, 0, seen, ⟨o1, o2, o3, o4⟩⟩ 0 1 d4 := by rw [← hR]; simp [ListS.joined, h5, h6, h7, hd]
      generalize ListS.fin ⟨kind, key, head, pc, a, pred, curr, link, 0, seen, ⟨o1, o2, o3, o4⟩⟩ 0 1 d4 = q at *
      obtain ⟨b, ⟨q1, q2, q3, q4, q5, q6, q7, q8, q9, q10, ⟨p1, p2, p3, p4⟩⟩⟩ := q
      simp only [layB, lset, lapp, List.map_nil, rn]
      cbv
      subst hR'
      exact hQ _ _ (ReV.list0 (s := ⟨q1, q2, q3, q4, q5, q6, q7, q8, q9, q10, ⟨p1, p2, p3, p4⟩⟩) (fun _ => rfl) ⟨rfl, rfl⟩)
theorem removed_ev {W0 : World} (s : ListS) (d : DoneS) : Ev Tryz.prog W0 66 [.ptr 0 0, doneV d] [listC s .nilPtr] (fun r V' => r = .bool (s.removed d).1 ∧ V' = [listC (s.removed d).2 .nilPtr]) := by
  generalize hR : s.removed d = R
  refine Ev.out fun Q' hQ => ev66 rfl fun o => ?_
  obtain ⟨kind, key, head, pc, a, pred, curr, link, node, seen, ⟨o1, o2, o3, o4⟩⟩ := s
  obtain ⟨d1, d2, d3, d4⟩ := d
  have hpc : pc = 9 ∨ pc = 10 ∨ (pc ≠ 9 ∧ pc ≠ 10) := by omega
  rcases hpc with rfl | rfl | ⟨h9, h10⟩
  · (cbv; repeat' (first | (refine mt (fun h => ?_) (fun h => ?_) <;> first | (exfalso; simp [Ops.cmp_eq, Ops.not_eq, icmp] at h; done) | (try cbv)) | fail))
    · have hd : d1 ≠ 0 := by simpa [Ops.cmp_eq, icmp] using h
      refine Ops.call _ [0] (again_ev ⟨kind, key, head, 9, a, pred, curr, link, node, seen, ⟨o1, o2, o3, o4⟩⟩ ) rfl rfl rfl ⟨.inr rfl, trivial⟩ ?_
      rintro r V' ⟨rfl, rfl⟩
      have hR' : R = ListS.again ⟨kind, key, head, 9, a, pred, curr, link, node, seen, ⟨o1, o2, o3, o4⟩⟩  := by rw [← hR]; simp [ListS.removed, hd]
      generalize ListS.again ⟨kind, key, head, 9, a, pred, curr, link, node, seen, ⟨o1, o2, o3, o4⟩⟩  = q at *
      obtain ⟨b, ⟨q1, q2, q3, q4, q5, q6, q7, q8, q9, q10, ⟨p1, p2, p3, p4⟩⟩⟩ := q
      simp only [layB, lset, lapp, List.map_nil, rn]
      cbv
      subst hR'
      exact hQ _ _ (ReV.list0 (s := ⟨q1, q2, q3, q4, q5, q6, q7, q8, q9, q10, ⟨p1, p2, p3, p4⟩⟩) (fun _ => rfl) ⟨rfl, rfl⟩)
    · have hd : d1 = 0 := by simpa [Ops.cmp_eq, icmp] using h
      have hR' : R = (false, ⟨kind, key, head, 10, a, pred, curr, link, node, seen, ⟨0, 0, 1, d4⟩⟩) := by rw [← hR]; simp [ListS.removed, hd]
      subst hR'
      exact hQ _ _ (ReV.list0 (s := ⟨kind, key, head, 10, a, pred, curr, link, node, seen, ⟨0, 0, 1, d4⟩⟩) (fun _ => rfl) ⟨rfl, rfl⟩)
  · (cbv; repeat' (first | (refine mt (fun h => ?_) (fun h => ?_) <;> first | (exfalso; simp [Ops.cmp_eq, Ops.not_eq, icmp] at h; done) | (try cbv)) | fail))
    simp only [Ops.cmp_eq, icmp]
    have hb : (d1 != 0) = decide (d1 ≠ 0) := by by_cases h0 : d1 = 0 <;> simp [h0]
    rw [hb]
    have hR' : R = (decide (d1 ≠ 0), ⟨kind, key, head, 11, a, pred, curr, link, node, seen, ⟨o1, o2, o3, o4⟩⟩) := by rw [← hR]; simp [ListS.removed]
    subst hR'
    exact hQ _ _ (ReV.list0 (s := ⟨kind, key, head, 11, a, pred, curr, link, node, seen, ⟨o1, o2, o3, o4⟩⟩) (fun _ => rfl) ⟨rfl, rfl⟩)
  · (cbv; repeat' (first | (refine mt (fun h => ?_) (fun h => ?_) <;> first | (exfalso; simp [Ops.cmp_eq, icmp] at h; omega) | (try cbv)) | fail))
    · have hR' : R = (true, ⟨kind, key, head, pc, a, pred, curr, link, node, seen, ⟨o1, o2, o3, o4⟩⟩) := by rw [← hR]; simp [ListS.removed, h9, h10]
      subst hR'
      exact hQ _ _ (ReV.list0 (s := ⟨kind, key, head, pc, a, pred, curr, link, node, seen, ⟨o1, o2, o3, o4⟩⟩) (fun _ => rfl) ⟨rfl, rfl⟩)
end Go.Proofs.YtglghdjpkecngaaGreat
