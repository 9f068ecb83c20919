/- place: somebody who wants words. -/
import Derived.Test.YtglghdjpkecngaaGreatAL
namespace Go.Proofs.YtglghdjpkecngaaGreat
set_option linter.unusedVariables false
set_option linter.unusedSimpArgs false
open Go Go.SL Go.FL
set_option maxRecDepth 100000
theorem ReV.m1 {W0 : World} {Q : VV → List VB → Prop} {v : VV} {M C : VB} {m : MemS} {rest : List VB} (hM : bx W0 (memU m) = M) (hb : isBlk (some C) = true) (hC : ∀ ρ, rnB ρ C = C) (hv : ∀ n, rn (rho [0, 1] n) v = v) (hq : Q v [bx W0 (memU m), bx W0 [C]]) : ReV W0 2 Q v (M :: C :: rest) := by
  subst hM
  refine ReV.shut 1 [] [C] rfl hb ⟨.inr (by rw [hC]; rfl), trivial⟩ ?_
  exact ReV.ren [0, 1] v [bx W0 (memU m), bx W0 [C]] rfl rfl (hv _).symm ⟨.inr rfl, .inr rfl, trivial⟩ hq
theorem ReV.f1 {W0 : World} {Q : VV → List VB → Prop} {v : VV} {M C : VB} {m : MemS} {rest : List VB} (hM : bx W0 (memU m) = M) (hC : ∀ ρ, rnB ρ C = C) (hv : ∀ n, rn (rho [0, 1] n) v = v) (hq : Q v [bx W0 (memU m), C]) : ReV W0 2 Q v (M :: C :: rest) := by
  subst hM
  exact ReV.ren [0, 1] v [bx W0 (memU m), C] rfl rfl (hv _).symm ⟨.inr rfl, .inr (by rw [hC]; rfl), trivial⟩ hq
theorem ReV.b0 {W0 : World} {Q : VV → List VB → Prop} {v : VV} {C : VB} {rest : List VB} (hb : isBlk (some C) = true) (hC : ∀ ρ, rnB ρ C = C) (hv : ∀ n, rn (rho [0] n) v = v) (hq : Q v [bx W0 [C]]) : ReV W0 1 Q v (C :: rest) := by
  refine ReV.shut 0 [] [C] rfl hb ⟨.inr (by rw [hC]; rfl), trivial⟩ ?_
  exact ReV.ren [0] v [bx W0 [C]] rfl rfl (hv _).symm ⟨.inr rfl, trivial⟩ hq
theorem fresh_ev {W0 : World} (s : PlaceS) : Ev Tryz.prog W0 158 [.ptr 0 0] (placeU s) (fun v V' => v = .int .u64 s.fresh ∧ V' = placeU s) := by
  refine Ev.out fun Q' hQ => ev158 rfl fun o => ?_
  generalize hR : s.fresh = R at hQ
  unfold PlaceS.fresh at hR
  cbv
  refine Ops.call0 _ (Chunk_ev s.w) rfl ?_; rintro v V' ⟨rfl, rfl⟩; simp only [lapp, List.map_nil, rn, rnL]
  generalize chunkOf s.w = c at *
  cbv
  simp only [o.ar_eq, arith]
  refine Ops.call0 _ (PutChunk_ev ⟨1, s.cls, 0, w64 (c.stamp + 1)⟩) rfl ?_; rintro v V' ⟨rfl, rfl⟩; simp only [lapp, List.map_nil, rn, rnL]
  rw [hR]
  cbv
  exact hQ _ _ (ReV.id ⟨rfl, rfl⟩)
theorem placeNew_ev {W0 : World} (k : Int) : Ev Tryz.prog W0 142 [.int .i64 k] [] (fun v V' => v = .ptr 0 0 ∧ V' = [bx W0 (placeU { place0 with cls := k })]) := by
  refine Ev.out fun Q' hQ => ev142 rfl fun o => ?_
  cbv
  exact hQ _ _ (ReV.shut 0 [] (placeU { place0 with cls := k }) rfl rfl ⟨.inr rfl, trivial⟩ (ReV.id ⟨rfl, rfl⟩))
theorem on_ev {W0 : World} (e : EnvS) (s : PlaceS) (M : VB) (hM : ∀ ρ, rnB ρ M = M) : Ev Tryz.prog W0 157 [.ptr 1 0, e.v 0] (M :: placeU s) (fun v V' => v = .bool (s.on e).1 ∧ V' = M :: placeU (s.on e).2) := by
  refine Ev.out fun Q' hQ => ev157 rfl fun o => ?_
  generalize hR : s.on e = R at hQ
  unfold PlaceS.on at hR
  obtain ⟨cls, pc, op, at_, w, addr, chunk, ok⟩ := s
  cbv
  simp only [o.ar_eq, o.cmp_eq, icmp, arith]
  refine hQ _ _ (ReV.ren [0, 1] (.bool R.1) (M :: placeU R.2) rfl rfl ?_ ?_ ⟨rfl, rfl⟩)
  · rw [← hR]; rfl
  · rw [← hR]; exact ⟨.inr (by rw [hM]; rfl), .inr rfl, trivial⟩
theorem get_ev {W0 : World} (m : MemS) (e : EnvS) (s : PlaceS) (h0 : 0 ≤ s.cls) : Ev Tryz.prog W0 156 [.ptr 1 0, e.v 0] (bx W0 (memU m) :: placeU s) (fun v V' => v = .bool (s.get e m).1 ∧ V' = bx W0 (memU (s.get e m).2.2) :: placeU (s.get e m).2.1) := by
  generalize hR : s.get e m = R
  generalize hM : bx W0 (memU m) = M at *
  refine Ev.out fun Q' hQ => ev156 rfl fun o => ?_
  obtain ⟨cls, pc, op, at_, w, addr, chunk, ok⟩ := s
  cbv
  refine Ops.call0 _ (Chunk_ev w) rfl ?_; rintro v V' ⟨rfl, rfl⟩; simp only [lapp, List.map_nil, rn, rnL]
  generalize hc : chunkOf w = c at *
  obtain ⟨c1, c2, c3, c4⟩ := c
  cbv
  refine Ops.call0 _ (lRoom_ev cls h0) rfl ?_; rintro v V' ⟨rfl, rfl⟩; simp only [lapp, List.map_nil, rn, rnL]
  generalize hk : roomA cls = k at *
  cbv
  refine Ops.call0 _ (lChunk_ev e.c at_) rfl ?_; rintro v V' ⟨rfl, rfl⟩; simp only [lapp, List.map_nil, rn, rnL]
  generalize ha : chunkA e.c at_ = a
  cbv
  simp only [o.ar_eq, arith]
  generalize hu : IntKind.i64.wrap (c3 + k) = u at *
  refine Ops.call0 _ (PutChunk_ev ⟨c1, c2, u, c4⟩) rfl ?_; rintro v V' ⟨rfl, rfl⟩; simp only [lapp, List.map_nil, rn, rnL]
  generalize hp : putChunk ⟨c1, c2, u, c4⟩ = p at *
  cbv
  refine Ops.call _ [0] (eCas_ev m e a w p) rfl rfl rfl ⟨.inr (by rw [← hM]; rfl), trivial⟩ ?_; rintro v V' ⟨rfl, rfl⟩; simp only [layB, lset, lapp, List.map_nil, List.map_cons, rnB_bx, rn, rnL]; clear hM; generalize hM : bx W0 (memU _) = M
  generalize hr : ecas e m a w p = r at *
  obtain ⟨r1, m'⟩ := r
  (cbv; repeat' (first | (refine mt (fun h => ?_) (fun h => ?_) <;> (try cbv)) | fail))
  · obtain rfl : r1 = false := by simpa [o.not_eq] using h
    refine hQ _ _ (ReV.f1 hM (fun _ => rfl) (fun _ => rfl) ⟨?_, ?_⟩) <;> simp [← hR, PlaceS.get, hc, hk, ha, hu, hp, hr, placeU]
  · obtain rfl : r1 = true := by simpa [o.not_eq] using h
    refine Ops.call0 _ (lBase_ev e.c at_) rfl ?_; rintro v V' ⟨rfl, rfl⟩; simp only [lapp, List.map_nil, rn, rnL]
    generalize hb : baseA e.c at_ = b at *
    cbv
    (simp only [Ops.cmp_eq, Ops.ar_eq, Ops.wr_eq, Ops.not_eq, Ops.beq_eq, icmp, arith, bne, decide_eq_true_eq, decide_eq_false_iff_not] at *); (try simp only [cfix] at *); (try simp only [Int.ofNat_eq_natCast] at *)
    refine hQ _ _ (ReV.f1 hM (fun _ => rfl) (fun _ => rfl) ⟨?_, ?_⟩) <;> simp [← hR, PlaceS.get, hc, hk, ha, hu, hp, hr, hb, placeU]
theorem Place_ev {W0 : World} (m : MemS) (e : EnvS) (s : PlaceS) (h0 : 0 ≤ s.cls) : Ev Tryz.prog W0 143 [.ptr 1 0, e.v 0] [bx W0 (memU m), bx W0 (placeU s)] (fun v V' => v = .bool (s.step e m).1 ∧ V' = [bx W0 (memU (s.step e m).2.2), bx W0 (placeU (s.step e m).2.1)]) := by
  generalize hR : s.step e m = R
  refine Ev.outB 1 (U := placeU s) rfl fun Q' hQ => ?_
  generalize hM : bx W0 (memU m) = M at *
  refine ev143 rfl fun o => ?_
  obtain ⟨cls, pc, op, at_, w, addr, chunk, ok⟩ := s
  have hpc : pc = 0 ∨ pc = 1 ∨ pc = 2 ∨ pc = 3 ∨ pc = 4 ∨ pc = 5 ∨ ∃ n, pc = n + 6 := by rcases pc with _ | _ | _ | _ | _ | _ | n <;> simp
  rcases hpc with rfl | rfl | rfl | rfl | rfl | rfl | ⟨n, rfl⟩
  · (cbv; repeat' (first | (refine mt (fun h => ?_) (fun h => ?_) <;> first | (exfalso; simp [Ops.cmp_eq, Ops.not_eq, icmp] at h; done) | (try cbv)) | fail))
    refine Ops.call0 _ (lOpen_ev cls) rfl ?_; rintro v V' ⟨rfl, rfl⟩; simp only [lapp, List.map_nil, rn, rnL]
    generalize ha : openA cls = a
    cbv
    refine Ops.call _ [0] (eLoad_ev m e a) rfl rfl rfl ⟨.inr (by rw [← hM]; rfl), trivial⟩ ?_; rintro v V' ⟨rfl, rfl⟩; simp only [layB, lset, lapp, List.map_nil, List.map_cons, rnB_bx, rn, rnL]; clear hM; generalize hM : bx W0 (memU _) = M
    generalize hr : eld e m a = r at *
    obtain ⟨r1, m'⟩ := r
    (cbv; repeat' (first | (refine mt (fun h => ?_) (fun h => ?_) <;> (try cbv)) | fail))
    all_goals (simp only [Ops.cmp_eq, Ops.ar_eq, Ops.wr_eq, Ops.not_eq, Ops.beq_eq, icmp, arith, bne, decide_eq_true_eq, decide_eq_false_iff_not] at *); (try simp only [cfix] at *); (try simp only [Int.ofNat_eq_natCast] at *)
    · refine hQ _ _ (ReV.m1 hM rfl (fun _ => rfl) (fun _ => rfl) ⟨?_, ?_⟩) <;> simp [← hR, PlaceS.step, ha, hr, h, placeU]
    · refine hQ _ _ (ReV.m1 hM rfl (fun _ => rfl) (fun _ => rfl) ⟨?_, ?_⟩) <;> simp [← hR, PlaceS.step, ha, hr, h, placeU]
  · (cbv; repeat' (first | (refine mt (fun h => ?_) (fun h => ?_) <;> first | (exfalso; simp [Ops.cmp_eq, Ops.not_eq, icmp] at h; done) | (try cbv)) | fail))
    refine Ops.call0 _ (lChunk_ev e.c at_) rfl ?_; rintro v V' ⟨rfl, rfl⟩; simp only [lapp, List.map_nil, rn, rnL]
    generalize ha : chunkA e.c at_ = a
    cbv
    refine Ops.call _ [0] (eLoad_ev m e a) rfl rfl rfl ⟨.inr (by rw [← hM]; rfl), trivial⟩ ?_; rintro v V' ⟨rfl, rfl⟩; simp only [layB, lset, lapp, List.map_nil, List.map_cons, rnB_bx, rn, rnL]; clear hM; generalize hM : bx W0 (memU _) = M
    generalize hr : eld e m a = r at *
    obtain ⟨r1, m'⟩ := r
    cbv
    refine Ops.call0 _ (Chunk_ev r1) rfl ?_; rintro v V' ⟨rfl, rfl⟩; simp only [lapp, List.map_nil, rn, rnL]
    generalize hc : chunkOf r1 = c at *
    obtain ⟨c1, c2, c3, c4⟩ := c
    (cbv; repeat' (first | (refine mt (fun h => ?_) (fun h => ?_) <;> (try cbv)) | fail))
    · (simp only [Ops.cmp_eq, Ops.ar_eq, Ops.wr_eq, Ops.not_eq, Ops.beq_eq, icmp, arith, bne, decide_eq_true_eq, decide_eq_false_iff_not] at *); (try simp only [cfix] at *); (try simp only [Int.ofNat_eq_natCast] at *)
      have h' : c1 ≠ 1 := by simpa using h
      refine hQ _ _ (ReV.m1 hM rfl (fun _ => rfl) (fun _ => rfl) ⟨?_, ?_⟩) <;> simp [← hR, PlaceS.step, ha, hr, hc, h', placeU]
    · (simp only [Ops.cmp_eq, Ops.ar_eq, Ops.wr_eq, Ops.not_eq, Ops.beq_eq, icmp, arith, bne, decide_eq_true_eq, decide_eq_false_iff_not] at *); (try simp only [cfix] at *); (try simp only [Int.ofNat_eq_natCast] at *)
      have h' : c2 ≠ cls := by simpa using h
      refine hQ _ _ (ReV.m1 hM rfl (fun _ => rfl) (fun _ => rfl) ⟨?_, ?_⟩) <;> simp [← hR, PlaceS.step, ha, hr, hc, h', placeU]
    · rename_i h1
      have h1' : c1 = 1 := by simpa [o.cmp_eq, icmp] using h1
      have h2' : c2 = cls := by simpa [o.cmp_eq, icmp] using h
      refine Ops.call0 _ (lRoom_ev cls h0) rfl ?_; rintro v V' ⟨rfl, rfl⟩; simp only [lapp, List.map_nil, rn, rnL]
      generalize hk : roomA cls = k at *
      (cbv; repeat' (first | (refine mt (fun h => ?_) (fun h => ?_) <;> (try cbv)) | fail))
      all_goals (simp only [Ops.cmp_eq, Ops.ar_eq, Ops.wr_eq, Ops.not_eq, Ops.beq_eq, icmp, arith, bne, decide_eq_true_eq, decide_eq_false_iff_not] at *); (try simp only [cfix] at *); (try simp only [Int.ofNat_eq_natCast] at *)
      · refine hQ _ _ (ReV.m1 hM rfl (fun _ => rfl) (fun _ => rfl) ⟨?_, ?_⟩) <;> simp [← hR, PlaceS.step, ha, hr, hc, hk, h, placeU]
      · refine hQ _ _ (ReV.m1 hM rfl (fun _ => rfl) (fun _ => rfl) ⟨?_, ?_⟩) <;> simp [← hR, PlaceS.step, ha, hr, hc, hk, h1', h2', h, placeU]
  · (cbv; repeat' (first | (refine mt (fun h => ?_) (fun h => ?_) <;> first | (exfalso; simp [Ops.cmp_eq, Ops.not_eq, icmp] at h; done) | (try cbv)) | fail))
    refine o.call [0, 1] (get_ev m e ⟨cls, 2, op, at_, w, addr, chunk, ok⟩ h0) rfl rfl rfl ⟨.inr (by rw [← hM]; rfl), .inr rfl, trivial⟩ ?_
    rintro v V' ⟨rfl, rfl⟩
    replace hR : PlaceS.get ⟨cls, 2, op, at_, w, addr, chunk, ok⟩ e m = R := hR
    rw [hR]
    obtain ⟨b, ⟨cls, pc, op, at_, w, addr, chunk, ok⟩, m'⟩ := R
    simp only [layB, lset, lapp, List.map_nil, List.map_cons, rnB_bx, rn, rnL, placeU]
    clear hM; generalize hM : bx W0 (memU _) = M
    cbv
    refine hQ _ _ (ReV.m1 hM rfl (fun _ => rfl) (fun _ => rfl) ⟨?_, ?_⟩) <;> simp [← hR, placeU]
  · (cbv; repeat' (first | (refine mt (fun h => ?_) (fun h => ?_) <;> first | (exfalso; simp [Ops.cmp_eq, Ops.not_eq, icmp] at h; done) | (try cbv)) | fail))
    refine Ops.call0 _ (lChunk_ev e.c at_) rfl ?_; rintro v V' ⟨rfl, rfl⟩; simp only [lapp, List.map_nil, rn, rnL]
    generalize ha : chunkA e.c at_ = a
    cbv
    refine Ops.call _ [0] (eLoad_ev m e a) rfl rfl rfl ⟨.inr (by rw [← hM]; rfl), trivial⟩ ?_; rintro v V' ⟨rfl, rfl⟩; simp only [layB, lset, lapp, List.map_nil, List.map_cons, rnB_bx, rn, rnL]; clear hM; generalize hM : bx W0 (memU _) = M
    generalize hr : eld e m a = r at *
    obtain ⟨r1, m'⟩ := r
    cbv
    refine Ops.call0 _ (Chunk_ev r1) rfl ?_; rintro v V' ⟨rfl, rfl⟩; simp only [lapp, List.map_nil, rn, rnL]
    generalize hc : chunkOf r1 = c at *
    obtain ⟨c1, c2, c3, c4⟩ := c
    (cbv; repeat' (first | (refine mt (fun h => ?_) (fun h => ?_) <;> (try cbv)) | fail))
    · have h' : c1 ≠ 0 := by simpa [o.cmp_eq, icmp] using h
      refine o.call [0, 1] (on_ev e ⟨cls, 3, op, at_, r1, addr, chunk, ok⟩ M (by rw [← hM]; exact fun _ => rfl)) rfl rfl rfl ⟨.inr (by rw [← hM]; rfl), .inr rfl, trivial⟩ ?_
      rintro v V' ⟨rfl, rfl⟩
      have hR' : R = ((PlaceS.on ⟨cls, 3, op, at_, r1, addr, chunk, ok⟩ e).1, (PlaceS.on ⟨cls, 3, op, at_, r1, addr, chunk, ok⟩ e).2, m') := by rw [← hR]; simp [PlaceS.step, ha, hr, hc, h']
      generalize PlaceS.on ⟨cls, 3, op, at_, r1, addr, chunk, ok⟩ e = q at *
      obtain ⟨b, cls, pc, op, at_, w, addr, chunk, ok⟩ := q
      rw [← hM]
      simp only [layB, lset, lapp, List.map_nil, List.map_cons, rnB_bx, rn, rnL, placeU]
      rw [hM]
      cbv
      subst hR'
      refine hQ _ _ (ReV.m1 hM rfl (fun _ => rfl) (fun _ => rfl) ⟨rfl, rfl⟩)
    · have h' : c1 = 0 := by simpa [o.cmp_eq, icmp] using h
      refine hQ _ _ (ReV.m1 hM rfl (fun _ => rfl) (fun _ => rfl) ⟨?_, ?_⟩) <;> simp [← hR, PlaceS.step, ha, hr, hc, h', placeU]
  · (cbv; repeat' (first | (refine mt (fun h => ?_) (fun h => ?_) <;> first | (exfalso; simp [Ops.cmp_eq, Ops.not_eq, icmp] at h; done) | (try cbv)) | fail))
    refine Ops.call0 _ (lChunk_ev e.c at_) rfl ?_; rintro v V' ⟨rfl, rfl⟩; simp only [lapp, List.map_nil, rn, rnL]
    generalize ha : chunkA e.c at_ = a
    cbv
    have hfr : PlaceS.fresh ⟨cls, 4, op, at_, w, addr, chunk, ok⟩ = PlaceS.fresh ⟨cls, 4, op, at_, w, addr, chunk, ok⟩ := rfl
    refine o.call [1] (fresh_ev ⟨cls, 4, op, at_, w, addr, chunk, ok⟩) rfl rfl rfl ⟨.inr rfl, trivial⟩ ?_
    rintro v V' ⟨rfl, rfl⟩
    simp only [layB, lset, lapp, List.map_nil, List.map_cons, rn, rnL, placeU]
    generalize hf : PlaceS.fresh ⟨cls, 4, op, at_, w, addr, chunk, ok⟩ = f at *
    cbv
    refine Ops.call _ [0] (eCas_ev m e a w f) rfl rfl rfl ⟨.inr (by rw [← hM]; rfl), trivial⟩ ?_; rintro v V' ⟨rfl, rfl⟩; simp only [layB, lset, lapp, List.map_nil, List.map_cons, rnB_bx, rn, rnL]; clear hM; generalize hM : bx W0 (memU _) = M
    generalize hr : ecas e m a w f = r at *
    obtain ⟨r1, m'⟩ := r
    (cbv; repeat' (first | (refine mt (fun h => ?_) (fun h => ?_) <;> (try cbv)) | fail))
    · obtain rfl : r1 = false := by simpa [o.not_eq] using h
      refine o.call [0, 1] (on_ev e ⟨cls, 4, op, at_, w, addr, chunk, ok⟩ M (by rw [← hM]; exact fun _ => rfl)) rfl rfl rfl ⟨.inr (by rw [← hM]; rfl), .inr rfl, trivial⟩ ?_
      rintro v V' ⟨rfl, rfl⟩
      have hR' : R = ((PlaceS.on ⟨cls, 4, op, at_, w, addr, chunk, ok⟩ e).1, (PlaceS.on ⟨cls, 4, op, at_, w, addr, chunk, ok⟩ e).2, m') := by rw [← hR]; simp [PlaceS.step, ha, hr, hf]
      generalize PlaceS.on ⟨cls, 4, op, at_, w, addr, chunk, ok⟩ e = q at *
      obtain ⟨b, cls, pc, op, at_, w, addr, chunk, ok⟩ := q
      rw [← hM]
      simp only [layB, lset, lapp, List.map_nil, List.map_cons, rnB_bx, rn, rnL, placeU]
      rw [hM]
      cbv
      subst hR'
      refine hQ _ _ (ReV.m1 hM rfl (fun _ => rfl) (fun _ => rfl) ⟨rfl, rfl⟩)
    · obtain rfl : r1 = true := by simpa [o.not_eq] using h
      refine hQ _ _ (ReV.m1 hM rfl (fun _ => rfl) (fun _ => rfl) ⟨?_, ?_⟩) <;> simp [← hR, PlaceS.step, ha, hr, hf, placeU]
  · (cbv; repeat' (first | (refine mt (fun h => ?_) (fun h => ?_) <;> first | (exfalso; simp [Ops.cmp_eq, Ops.not_eq, icmp] at h; done) | (try cbv)) | fail))
    refine Ops.call0 _ (lOpen_ev cls) rfl ?_; rintro v V' ⟨rfl, rfl⟩; simp only [lapp, List.map_nil, rn, rnL]
    generalize ha : openA cls = a
    cbv
    simp only [o.ar_eq, o.wr_eq, arith]
    generalize hu : IntKind.u64.wrap (IntKind.i64.wrap (at_ + 1)) = u at *
    obtain ⟨u', hu'⟩ : ∃ u' : Nat, u = u' := ⟨u.toNat, by rw [← hu, u64w]; omega⟩
    subst hu'
    refine Ops.call _ [0] (eCas_ev m e a op u') rfl rfl rfl ⟨.inr (by rw [← hM]; rfl), trivial⟩ ?_; rintro v V' ⟨rfl, rfl⟩; simp only [layB, lset, lapp, List.map_nil, List.map_cons, rnB_bx, rn, rnL]; clear hM; generalize hM : bx W0 (memU _) = M
    generalize hr : ecas e m a op u' = r at *
    obtain ⟨r1, m'⟩ := r
    have hu2 : (IntKind.u64.wrap (w64 (at_ + 1))).toNat = u' := by rw [hu]; simp
    (cbv; repeat' (first | (refine mt (fun h => ?_) (fun h => ?_) <;> (try cbv)) | fail))
    · refine hQ _ _ (ReV.m1 hM rfl (fun _ => rfl) (fun _ => rfl) ⟨?_, ?_⟩) <;> simp [← hR, PlaceS.step, ha, hr, hu2, h, placeU]
    · refine hQ _ _ (ReV.m1 hM rfl (fun _ => rfl) (fun _ => rfl) ⟨?_, ?_⟩) <;> simp [← hR, PlaceS.step, ha, hr, hu2, h, placeU]
  · (cbv; repeat' (first | (refine mt (fun h => ?_) (fun h => ?_) <;> first | (exfalso; simp [Ops.cmp_eq, icmp] at h; omega) | (try cbv)) | fail))
    refine Ops.call0 _ (Chunk_ev w) rfl ?_; rintro v V' ⟨rfl, rfl⟩; simp only [lapp, List.map_nil, rn, rnL]
    generalize hc : chunkOf w = c at *
    obtain ⟨c1, c2, c3, c4⟩ := c
    cbv
    simp only [o.ar_eq, arith]
    generalize hu : IntKind.i64.wrap (c4 + 2) = u at *
    refine Ops.call0 _ (PutChunk_ev ⟨0, 0, 0, u⟩) rfl ?_; rintro v V' ⟨rfl, rfl⟩; simp only [lapp, List.map_nil, rn, rnL]
    generalize hp : putChunk ⟨0, 0, 0, u⟩ = p at *
    cbv
    refine Ops.call0 _ (lChunk_ev e.c at_) rfl ?_; rintro v V' ⟨rfl, rfl⟩; simp only [lapp, List.map_nil, rn, rnL]
    generalize ha : chunkA e.c at_ = a
    cbv
    refine o.call [1] (fresh_ev ⟨cls, n + 6, op, at_, w, addr, chunk, ok⟩) rfl rfl rfl ⟨.inr rfl, trivial⟩ ?_
    rintro v V' ⟨rfl, rfl⟩
    simp only [layB, lset, lapp, List.map_nil, List.map_cons, rn, rnL, placeU]
    generalize hf : PlaceS.fresh ⟨cls, n + 6, op, at_, w, addr, chunk, ok⟩ = f at *
    cbv
    refine Ops.call _ [0] (eCas_ev m e a f p) rfl rfl rfl ⟨.inr (by rw [← hM]; rfl), trivial⟩ ?_; rintro v V' ⟨rfl, rfl⟩; simp only [layB, lset, lapp, List.map_nil, List.map_cons, rnB_bx, rn, rnL]; clear hM; generalize hM : bx W0 (memU _) = M
    generalize hr : ecas e m a f p = r at *
    obtain ⟨r1, m'⟩ := r
    cbv
    refine hQ _ _ (ReV.m1 hM rfl (fun _ => rfl) (fun _ => rfl) ⟨?_, ?_⟩) <;> simp [← hR, PlaceS.step, hc, hu, hp, ha, hr, hf, placeU]
theorem Spot_ev {W0 : World} (s : PlaceS) : Ev Tryz.prog W0 144 [.ptr 0 0] [bx W0 (placeU s)] (fun v V' => v = .tup [.agg [.int .i64 (if s.ok then s.addr else 0), .int .i64 (if s.ok then s.chunk else 0)], .bool s.ok] ∧ V' = [bx W0 (placeU s)]) := by
  refine Ev.outB 0 (U := placeU s) rfl fun Q' hQ => ?_
  refine ev144 rfl fun o => ?_
  obtain ⟨cls, pc, op, at_, w, addr, chunk, ok⟩ := s
  cases ok
  all_goals (cbv; repeat' (first | (refine mt (fun h => ?_) (fun h => ?_) <;> first | (exfalso; simp [Ops.cmp_eq, Ops.not_eq, icmp] at h; done) | (try cbv)) | fail))
  · exact hQ _ _ (ReV.b0 rfl (fun _ => rfl) (fun _ => rfl) ⟨rfl, rfl⟩)
  · exact hQ _ _ (ReV.b0 rfl (fun _ => rfl) (fun _ => rfl) ⟨rfl, rfl⟩)
end Go.Proofs.YtglghdjpkecngaaGreat
