/- slot, alloc: somebody who takes a slot, gives one back, makes an object. -/
import Derived.Test.YtglghdjpkecngaaGreatAP
namespace Go.Proofs.YtglghdjpkecngaaGreat
set_option linter.unusedVariables false
set_option linter.unusedSimpArgs false
open Go Go.SL Go.FL
set_option maxRecDepth 100000
theorem call4 {W0 : World} {RE : (Env → List VB → Prop) → Env → List VB → Prop} (o : Ops (Ev Tryz.prog W0) RE) {f : FuncId} {args : List VV} {r : VV} {M C P G M' C' P' G' : VB} {rest : List VB} {K : VV → List VB → Prop}
    (he : Ev Tryz.prog W0 f args [M, C, P, G] (fun v V' => v = r ∧ V' = [M', C', P', G'])) (ha : ∀ n, args = rnL (rho [0, 1, 2, 3] n) args) (hr : ∀ n, rn (rho [0, 1, 2, 3] n) r = r)
    (hM : ∀ n, rnB (rho [0, 1, 2, 3] n) M = M) (hC : ∀ n, rnB (rho [0, 1, 2, 3] n) C = C) (hP : ∀ n, rnB (rho [0, 1, 2, 3] n) P = P) (hG : ∀ n, rnB (rho [0, 1, 2, 3] n) G = G)
    (hM' : ∀ n, rnB (rho [0, 1, 2, 3] n) M' = M') (hC' : ∀ n, rnB (rho [0, 1, 2, 3] n) C' = C') (hP' : ∀ n, rnB (rho [0, 1, 2, 3] n) P' = P') (hG' : ∀ n, rnB (rho [0, 1, 2, 3] n) G' = G')
    (hk : K r (M' :: C' :: P' :: G' :: rest)) : o.ev f args (M :: C :: P :: G :: rest) K := by
  refine o.call [0, 1, 2, 3] he (ha _) rfl rfl ⟨.inr (by rw [hM]; rfl), .inr (by rw [hC]; rfl), .inr (by rw [hP]; rfl), .inr (by rw [hG]; rfl), trivial⟩ ?_
  rintro v V' ⟨rfl, rfl⟩
  simp only [layB, lset, lapp_eq, List.map_nil, List.append_nil]
  rw [hr, hM', hC', hP', hG']
  exact hk
theorem ReV.f4 {W0 : World} {Q : VV → List VB → Prop} {v : VV} {M C P G : VB} {rest : List VB} (hv : ∀ n, rn (rho [0, 1, 2, 3] n) v = v)
    (hM : ∀ n, rnB (rho [0, 1, 2, 3] n) M = M) (hC : ∀ n, rnB (rho [0, 1, 2, 3] n) C = C) (hP : ∀ n, rnB (rho [0, 1, 2, 3] n) P = P) (hG : ∀ n, rnB (rho [0, 1, 2, 3] n) G = G) (hq : Q v [M, C, P, G]) : ReV W0 4 Q v (M :: C :: P :: G :: rest) :=
  ReV.ren [0, 1, 2, 3] v [M, C, P, G] rfl rfl (hv _).symm ⟨.inr (by rw [hM]; rfl), .inr (by rw [hC]; rfl), .inr (by rw [hP]; rfl), .inr (by rw [hG]; rfl), trivial⟩ hq
def allocC (s : AllocS) (vp vg : VV) : VB := .cells [.int .i64 s.size, .bool s.own, .int .i64 s.pc, .int .i64 s.take.pc, .int .u64 s.take.top, .int .i64 s.take.next, .int .i64 s.take.slot, .bool s.take.ok,
    .int .i64 s.at_, .int .i64 s.gen, vp, .int .i64 s.addr, .int .i64 s.chunk, vg, .int .i64 s.out.e, .int .u64 s.out.h, .int .i64 s.out.v, .int .i64 s.out.s]
structure Two (vp vg : VV) (P G : VB) : Prop where
  vp : ∀ n, rn (rho [0, 1, 2, 3] n) vp = vp
  vg : ∀ n, rn (rho [0, 1, 2, 3] n) vg = vg
  P : ∀ n, rnB (rho [0, 1, 2, 3] n) P = P
  G : ∀ n, rnB (rho [0, 1, 2, 3] n) G = G
theorem Two.of {W0 : World} {α β : Type} (U : α → List VB) (U' : β → List VB) (p : Option α) (g : Option β) : Two (optP 2 p) (optP 3 g) (optB W0 U p) (optB W0 U' g) :=
  ⟨fun n => by rw [rn_optP]; rfl, fun n => by rw [rn_optP]; rfl, fun n => rnB_optB .., fun n => rnB_optB ..⟩
theorem allocC_rn {s : AllocS} {vp vg : VV} {P G : VB} (h : Two vp vg P G) (n : Nat) : rnB (rho [0, 1, 2, 3] n) (allocC s vp vg) = allocC s vp vg := by
  simp [allocC, rnB, rnL, rn, h.vp, h.vg]
theorem take_ev {W0 : World} (m : MemS) (e : EnvS) (s : AllocS) {vp vg : VV} {P G : VB} (h2 : Two vp vg P G) : Ev Tryz.prog W0 140 [.ptr 1 3, e.v 0] [bx W0 (memU m), allocC s vp vg, P, G]
    (fun v V' => v = .bool (s.take.step e m).1 ∧ V' = [bx W0 (memU (s.take.step e m).2.2), allocC { s with take := (s.take.step e m).2.1 } vp vg, P, G]) := by
  generalize hR : s.take.step e m = R
  generalize hM : bx W0 (memU m) = M at *
  refine Ev.out fun Q' hQ => ev140 rfl fun o => ?_
  obtain ⟨size, own, pc, ⟨tpc, top, next, slot, ok⟩, at_, gen, p, addr, chunk, give, ⟨o1, o2, o3, o4⟩⟩ := s
  simp only at hR
  have hpc : tpc = 0 ∨ tpc = 1 ∨ ∃ n, tpc = n + 2 := by rcases tpc with _ | _ | n <;> simp
  have fin : ∀ (b : Bool) (t : TakeS) (m' : MemS) (rest : List VB), R = (b, t, m') → Q' (.bool b) (bx W0 (memU m') :: allocC ⟨size, own, pc, t, at_, gen, p, addr, chunk, give, ⟨o1, o2, o3, o4⟩⟩ vp vg :: P :: G :: rest) := by
    rintro b t m' rest rfl
    exact hQ _ _ (ReV.f4 (fun _ => rfl) (fun _ => rfl) (allocC_rn h2) h2.P h2.G ⟨rfl, rfl⟩)
  rcases hpc with rfl | rfl | ⟨n, rfl⟩
  · (cbv; repeat' (first | (refine mt (fun h => ?_) (fun h => ?_) <;> first | (exfalso; simp [Ops.cmp_eq, Ops.not_eq, icmp] at h; done) | (try cbv)) | fail))
    refine Ops.call0 _ (lTop_ev) rfl ?_; rintro v V' ⟨rfl, rfl⟩; simp only [lapp, List.map_nil, rn, rnL]
    cbv
    refine Ops.call _ [0] (eLoad_ev m e 1) rfl rfl rfl ⟨.inr (by rw [← hM]; rfl), trivial⟩ ?_; rintro v V' ⟨rfl, rfl⟩; simp only [layB, lset, lapp, List.map_nil, List.map_cons, rnB_bx, rn, rnL]; clear hM; generalize hM : bx W0 (memU _) = M
    generalize hr : eld e m 1 = r at *
    obtain ⟨r1, m'⟩ := r
    cbv
    refine Ops.call0 _ (Top_ev r1) rfl ?_; rintro v V' ⟨rfl, rfl⟩; simp only [lapp, List.map_nil, rn, rnL]
    generalize ht : topSlot r1 = t at *
    generalize topCount r1 = t2 at *
    cbv
    simp only [o.cmp_eq, icmp]
    rw [← hM]
    refine fin (decide (t < 0)) ⟨1, r1, next, t, ok⟩ m' _ ?_
    rw [← hR]; simp [TakeS.step, hr, ht]
  · (cbv; repeat' (first | (refine mt (fun h => ?_) (fun h => ?_) <;> first | (exfalso; simp [Ops.cmp_eq, Ops.not_eq, icmp] at h; done) | (try cbv)) | fail))
    refine Ops.call0 _ (lSlot_ev e.c slot) rfl ?_; rintro v V' ⟨rfl, rfl⟩; simp only [lapp, List.map_nil, rn, rnL]
    generalize ha : slotA e.c slot = a at *
    cbv
    simp only [o.ar_eq, arith]
    generalize hb : IntKind.i64.wrap (a + 1) = b at *
    refine Ops.call _ [0] (eLoad_ev m e b) rfl rfl rfl ⟨.inr (by rw [← hM]; rfl), trivial⟩ ?_; rintro v V' ⟨rfl, rfl⟩; simp only [layB, lset, lapp, List.map_nil, List.map_cons, rnB_bx, rn, rnL]; clear hM; generalize hM : bx W0 (memU _) = M
    generalize hr : eld e m b = r at *
    obtain ⟨r1, m'⟩ := r
    cbv
    refine Ops.call0 _ (Top_ev r1) rfl ?_; rintro v V' ⟨rfl, rfl⟩; simp only [lapp, List.map_nil, rn, rnL]
    generalize ht : topSlot r1 = t at *
    generalize topCount r1 = t2 at *
    cbv
    rw [← hM]
    refine fin ok ⟨2, top, t, slot, ok⟩ m' _ ?_
    rw [← hR]; simp [TakeS.step, ha, hb, hr, ht]
  · (cbv; repeat' (first | (refine mt (fun h => ?_) (fun h => ?_) <;> first | (exfalso; simp [Ops.cmp_eq, icmp] at h; omega) | (try cbv)) | fail))
    refine Ops.call0 _ (Top_ev top) rfl ?_; rintro v V' ⟨rfl, rfl⟩; simp only [lapp, List.map_nil, rn, rnL]
    generalize topSlot top = t at *
    generalize ht : topCount top = t2 at *
    cbv
    refine Ops.call0 _ (lTop_ev) rfl ?_; rintro v V' ⟨rfl, rfl⟩; simp only [lapp, List.map_nil, rn, rnL]
    cbv
    simp only [o.ar_eq, arith]
    generalize hb : IntKind.i64.wrap (t2 + 1) = b at *
    refine Ops.call0 _ (PutTop_ev next b) rfl ?_; rintro v V' ⟨rfl, rfl⟩; simp only [lapp, List.map_nil, rn, rnL]
    generalize hp : putTop next b = q at *
    cbv
    refine Ops.call _ [0] (eCas_ev m e 1 top q) rfl rfl rfl ⟨.inr (by rw [← hM]; rfl), trivial⟩ ?_; rintro v V' ⟨rfl, rfl⟩; simp only [layB, lset, lapp, List.map_nil, List.map_cons, rnB_bx, rn, rnL]; clear hM; generalize hM : bx W0 (memU _) = M
    generalize hr : ecas e m 1 top q = r at *
    obtain ⟨r1, m'⟩ := r
    cbv
    rw [← hM]
    refine fin r1 ⟨0, top, next, slot, r1⟩ m' _ ?_
    rw [← hR]; simp [TakeS.step, ht, hb, hp, hr]
theorem giveNew_ev {W0 : World} (k : Int) : Ev Tryz.prog W0 145 [.int .i64 k] [] (fun v V' => v = .ptr 0 0 ∧ V' = [bx W0 (giveU { give0 with slot := k })]) := by
  refine Ev.out fun Q' hQ => ev145 rfl fun o => ?_
  cbv
  exact hQ _ _ (ReV.shut 0 [] (giveU { give0 with slot := k }) rfl rfl ⟨.inr rfl, trivial⟩ (ReV.id ⟨rfl, rfl⟩))
theorem Give_ev {W0 : World} (m : MemS) (e : EnvS) (s : GiveS) : Ev Tryz.prog W0 150 [.ptr 1 0, e.v 0] [bx W0 (memU m), bx W0 (giveU s)] (fun v V' => v = .bool (s.step e m).1 ∧ V' = [bx W0 (memU (s.step e m).2.2), bx W0 (giveU (s.step e m).2.1)]) := by
  generalize hR : s.step e m = R
  refine Ev.outB 1 (U := giveU s) rfl fun Q' hQ => ?_
  generalize hM : bx W0 (memU m) = M at *
  refine ev150 rfl fun o => ?_
  obtain ⟨pc, slot, top⟩ := s
  have hpc : pc = 0 ∨ pc = 1 ∨ ∃ n, pc = n + 2 := by rcases pc with _ | _ | n <;> simp
  rcases hpc with rfl | rfl | ⟨n, rfl⟩
  · cbv
    refine Ops.call0 _ (Top_ev top) rfl ?_; rintro v V' ⟨rfl, rfl⟩; simp only [lapp, List.map_nil, rn, rnL]
    generalize topSlot top = t at *
    generalize topCount top = t2 at *
    (cbv; repeat' (first | (refine mt (fun h => ?_) (fun h => ?_) <;> first | (exfalso; simp [Ops.cmp_eq, Ops.not_eq, icmp] at h; done) | (try cbv)) | fail))
    refine Ops.call0 _ (lTop_ev) rfl ?_; rintro v V' ⟨rfl, rfl⟩; simp only [lapp, List.map_nil, rn, rnL]
    cbv
    refine Ops.call _ [0] (eLoad_ev m e 1) rfl rfl rfl ⟨.inr (by rw [← hM]; rfl), trivial⟩ ?_; rintro v V' ⟨rfl, rfl⟩; simp only [layB, lset, lapp, List.map_nil, List.map_cons, rnB_bx, rn, rnL]; clear hM; generalize hM : bx W0 (memU _) = M
    generalize hr : eld e m 1 = r at *
    obtain ⟨r1, m'⟩ := r
    cbv
    refine hQ _ _ (ReV.m1 hM rfl (fun _ => rfl) (fun _ => rfl) ⟨?_, ?_⟩) <;> simp [← hR, GiveS.step, hr, giveU]
  · cbv
    refine Ops.call0 _ (Top_ev top) rfl ?_; rintro v V' ⟨rfl, rfl⟩; simp only [lapp, List.map_nil, rn, rnL]
    generalize ht : topSlot top = t at *
    generalize topCount top = t2 at *
    (cbv; repeat' (first | (refine mt (fun h => ?_) (fun h => ?_) <;> first | (exfalso; simp [Ops.cmp_eq, Ops.not_eq, icmp] at h; done) | (try cbv)) | fail))
    refine Ops.call0 _ (lSlot_ev e.c slot) rfl ?_; rintro v V' ⟨rfl, rfl⟩; simp only [lapp, List.map_nil, rn, rnL]
    generalize ha : slotA e.c slot = a at *
    cbv
    simp only [o.ar_eq, arith]
    generalize hb : IntKind.i64.wrap (a + 1) = b at *
    refine Ops.call0 _ (PutTop_ev t 0) rfl ?_; rintro v V' ⟨rfl, rfl⟩; simp only [lapp, List.map_nil, rn, rnL]
    generalize hp : putTop t 0 = q at *
    cbv
    refine Ops.call _ [0] (eStore_ev m e b q) rfl rfl rfl ⟨.inr (by rw [← hM]; rfl), trivial⟩ ?_; rintro v V' ⟨rfl, rfl⟩; simp only [layB, lset, lapp, List.map_nil, List.map_cons, rnB_bx, rn, rnL]; clear hM; generalize hM : bx W0 (memU _) = M
    generalize hr : est e m b q = m' at *
    cbv
    refine hQ _ _ (ReV.m1 hM rfl (fun _ => rfl) (fun _ => rfl) ⟨?_, ?_⟩) <;> simp [← hR, GiveS.step, ha, hb, ht, hp, hr, giveU]
  · cbv
    refine Ops.call0 _ (Top_ev top) rfl ?_; rintro v V' ⟨rfl, rfl⟩; simp only [lapp, List.map_nil, rn, rnL]
    generalize topSlot top = t at *
    generalize ht : topCount top = t2 at *
    (cbv; repeat' (first | (refine mt (fun h => ?_) (fun h => ?_) <;> first | (exfalso; simp [Ops.cmp_eq, icmp] at h; omega) | (try cbv)) | fail))
    refine Ops.call0 _ (lTop_ev) rfl ?_; rintro v V' ⟨rfl, rfl⟩; simp only [lapp, List.map_nil, rn, rnL]
    cbv
    simp only [o.ar_eq, arith]
    generalize hb : IntKind.i64.wrap (t2 + 1) = b at *
    refine Ops.call0 _ (PutTop_ev slot b) rfl ?_; rintro v V' ⟨rfl, rfl⟩; simp only [lapp, List.map_nil, rn, rnL]
    generalize hp : putTop slot b = q at *
    cbv
    refine Ops.call _ [0] (eCas_ev m e 1 top q) rfl rfl rfl ⟨.inr (by rw [← hM]; rfl), trivial⟩ ?_; rintro v V' ⟨rfl, rfl⟩; simp only [layB, lset, lapp, List.map_nil, List.map_cons, rnB_bx, rn, rnL]; clear hM; generalize hM : bx W0 (memU _) = M
    generalize hr : ecas e m 1 top q = r at *
    obtain ⟨r1, m'⟩ := r
    cbv
    refine hQ _ _ (ReV.m1 hM rfl (fun _ => rfl) (fun _ => rfl) ⟨?_, ?_⟩) <;> simp [← hR, GiveS.step, ht, hb, hp, hr, giveU]
theorem ahead_ev {W0 : World} (s : AllocS) (k : Int) {M : VB} (hM : ∀ n, rnB (rho [0, 1, 2, 3] n) M = M) {vp vg : VV} {P G : VB} (h2 : Two vp vg P G) : Ev Tryz.prog W0 137 [.ptr 1 0, .int .i64 k] [M, allocC s vp vg, P, G]
    (fun v V' => v = .int .u64 (s.head k) ∧ V' = [M, allocC s vp vg, P, G]) := by
  generalize hR : s.head k = R
  refine Ev.out fun Q' hQ => ev137 rfl fun o => ?_
  obtain ⟨size, own, pc, ⟨tpc, top, next, slot, ok⟩, at_, gen, p, addr, chunk, give, ⟨o1, o2, o3, o4⟩⟩ := s
  cbv
  refine Ops.call0 _ (PutHead_ev ⟨k, size, at_, gen, own⟩) rfl ?_; rintro v V' ⟨rfl, rfl⟩; simp only [lapp, List.map_nil, rn, rnL]
  rw [show putHead ⟨k, size, at_, gen, own⟩ = R from hR]
  cbv
  exact hQ _ _ (ReV.f4 (fun _ => rfl) hM (allocC_rn (s := ⟨size, own, pc, ⟨tpc, top, next, slot, ok⟩, at_, gen, p, addr, chunk, give, ⟨o1, o2, o3, o4⟩⟩) h2) h2.P h2.G ⟨rfl, rfl⟩)
theorem aend_ev {W0 : World} (m : MemS) (e : EnvS) (s : AllocS) (x : Int) {vp vg : VV} {P G : VB} (h2 : Two vp vg P G) : Ev Tryz.prog W0 139 [.ptr 1 0, e.v 0, .int .i64 x] [bx W0 (memU m), allocC s vp vg, P, G]
    (fun v V' => v = .tup [] ∧ V' = [bx W0 (memU m), allocC { s with out := ⟨x, 0, 0, m.steps⟩ } vp vg, P, G]) := by
  generalize hM : bx W0 (memU m) = M at *
  refine Ev.out fun Q' hQ => ev139 rfl fun o => ?_
  obtain ⟨size, own, pc, ⟨tpc, top, next, slot, ok⟩, at_, gen, p, addr, chunk, give, ⟨o1, o2, o3, o4⟩⟩ := s
  cbv
  refine o.call [0] (eNow_ev m e) rfl rfl rfl ⟨.inr (by rw [← hM]; rfl), trivial⟩ ?_
  rintro v V' ⟨rfl, rfl⟩
  simp only [layB, lset, lapp, List.map_nil, List.map_cons, rnB_bx, rn, rnL]
  rw [hM]
  cbv
  exact hQ _ _ (ReV.f4 (fun _ => rfl) (by rw [← hM]; exact fun _ => rfl) (allocC_rn (s := ⟨size, own, pc, ⟨tpc, top, next, slot, ok⟩, at_, gen, p, addr, chunk, give, ⟨x, 0, 0, m.steps⟩⟩) h2) h2.P h2.G ⟨rfl, rfl⟩)
theorem takeSlot_ev {W0 : World} (s : AllocS) {M : VB} (hM : ∀ n, rnB (rho [0, 1, 2, 3] n) M = M) {vp vg : VV} {P G : VB} (h2 : Two vp vg P G) : Ev Tryz.prog W0 141 [.ptr 1 3] [M, allocC s vp vg, P, G]
    (fun v V' => v = .tup [.int .i64 (if s.take.ok then s.take.slot else 0), .bool s.take.ok] ∧ V' = [M, allocC s vp vg, P, G]) := by
  refine Ev.out fun Q' hQ => ev141 rfl fun o => ?_
  obtain ⟨size, own, pc, ⟨tpc, top, next, slot, ok⟩, at_, gen, p, addr, chunk, give, ⟨o1, o2, o3, o4⟩⟩ := s
  cases ok
  all_goals (cbv; repeat' (first | (refine mt (fun h => ?_) (fun h => ?_) <;> first | (exfalso; simp [Ops.cmp_eq, Ops.not_eq, icmp] at h; done) | (try cbv)) | fail))
  · exact hQ _ _ (ReV.f4 (fun _ => rfl) hM (allocC_rn (s := ⟨size, own, pc, ⟨tpc, top, next, slot, false⟩, at_, gen, p, addr, chunk, give, ⟨o1, o2, o3, o4⟩⟩) h2) h2.P h2.G ⟨rfl, rfl⟩)
  · exact hQ _ _ (ReV.f4 (fun _ => rfl) hM (allocC_rn (s := ⟨size, own, pc, ⟨tpc, top, next, slot, true⟩, at_, gen, p, addr, chunk, give, ⟨o1, o2, o3, o4⟩⟩) h2) h2.P h2.G ⟨rfl, rfl⟩)
theorem allocU_open {W0 : World} {M : VB} (s : AllocS) : layB (rho [1] [M, bx W0 (allocU W0 s)].length) [M, bx W0 (allocU W0 s)] [1] (allocU W0 s) = [M, allocC s (optP 2 s.p) (optP 3 s.give), optB W0 placeU s.p, optB W0 giveU s.give] := by
  simp only [layB, lset, lapp, allocU, rnB_optB, List.map_cons, List.map_nil]
  simp only [rnB, rnL, rn, rn_optP]
  rfl
theorem ReV.alloc {W0 : World} {Q : VV → List VB → Prop} {v : VV} {M : VB} {m : MemS} {s : AllocS} {V : List VB} (q1 q2 : Nat) (hM : bx W0 (memU m) = M) (h0 : lget V 0 = some M) (h1 : lget V 1 = some (allocC s (optP q1 s.p) (optP q2 s.give)))
    (hd : nodupB [1, q1, q2] = true) (hz : nodupB [0, 1, q1, q2] = true) (hp : s.p = none ∨ lget V q1 = some (optB W0 placeU s.p)) (hg : s.give = none ∨ lget V q2 = some (optB W0 giveU s.give)) (hv : ∀ n, rn (rho [0, 1] n) v = v) (hq : Q v [bx W0 (memU m), bx W0 (allocU W0 s)]) : ReV W0 2 Q v V := by
  subst hM
  have e0 : ∀ n, rho [1, q1, q2] n 1 = q1 := fun _ => rfl
  have e1 : ∀ n, rho [1, q1, q2] n 2 = q2 := fun _ => rfl
  refine ReV.shut 1 [q1, q2] (allocU W0 s) hd (by rw [h1]; rfl) ⟨.inr ?_, ?_, ?_, trivial⟩ ?_
  · rw [h1]
    simp only [rnB, rnL, rn, rn_optP, e0, e1, allocC]
  · rcases hp with hp | hp
    · left; rw [hp]; rfl
    · right; rw [hp, rnB_optB]
  · rcases hg with hg | hg
    · left; rw [hg]; rfl
    · right; rw [hg, rnB_optB]
  · refine ReV.ren [0, 1] v [bx W0 (memU m), bx W0 (allocU W0 s)] rfl rfl (hv _).symm ⟨.inr ?_, .inr ?_, trivial⟩ hq
    · have : lget (emps (lset V 1 (bx W0 (allocU W0 s))) [q1, q2]) 0 = some (bx W0 (memU m)) := by
        rw [lget_eq] at h0 ⊢
        rw [emps_get, lset_eq, List.length_set, if_neg, List.getElem?_set_ne (by decide), h0]
        rintro ⟨hm, _⟩
        have := hasNat_iff.2 hm
        simp only [nodupB] at hz
        split at hz
        · cases hz
        · rename_i hn
          have : hasNat [1, q1, q2] 0 = true := hasNat_iff.2 (List.mem_cons_of_mem _ hm)
          rw [this] at hn; cases hn
      exact this
    · have : lget (emps (lset V 1 (bx W0 (allocU W0 s))) [q1, q2]) 1 = some (bx W0 (allocU W0 s)) := by
        rw [lget_eq] at h1 ⊢
        have hl : 1 < V.length := (List.getElem?_eq_some_iff.1 h1).1
        rw [emps_get, lset_eq, List.length_set, if_neg, List.getElem?_set_self hl]
        rintro ⟨hm, _⟩
        simp only [nodupB, hasNat_iff.2 hm] at hd
        cases hd
      exact this
theorem Alloc_ev {W0 : World} (m : MemS) (e : EnvS) (s : AllocS) (h2 : s.pc = 2 → s.p.isSome = true ∧ ∀ p ∈ s.p, 0 ≤ p.cls) (h3 : s.pc = 3 → 0 ≤ classA s.size) (h7 : 7 ≤ s.pc → s.give.isSome = true) :
    Ev Tryz.prog W0 136 [.ptr 1 0, e.v 0] [bx W0 (memU m), bx W0 (allocU W0 s)] (fun v V' => v = .bool (s.step e m).1 ∧ V' = [bx W0 (memU (s.step e m).2.2), bx W0 (allocU W0 (s.step e m).2.1)]) := by
  generalize hR : s.step e m = R
  refine Ev.outB 1 (U := allocU W0 s) rfl fun Q' hQ => ?_
  generalize hM : bx W0 (memU m) = M at *
  rw [allocU_open]
  refine ev136 rfl fun o => ?_
  have hT := Two.of (W0 := W0) placeU giveU s.p s.give
  obtain ⟨size, own, pc, tk, at_, gen, p, addr, chunk, give, ⟨o1, o2, o3, o4⟩⟩ := s
  have hpc : pc = 0 ∨ pc = 1 ∨ pc = 2 ∨ pc = 3 ∨ pc = 4 ∨ pc = 5 ∨ pc = 6 ∨ ∃ n, pc = n + 7 := by rcases pc with _ | _ | _ | _ | _ | _ | _ | n <;> simp
  have fin : ∀ (b : Bool) (S : AllocS) (m' : MemS) (rest : List VB), S.p = p → S.give = give → R = (b, S, m') → Q' (.bool b) (bx W0 (memU m') :: allocC S (optP 2 p) (optP 3 give) :: optB W0 placeU p :: optB W0 giveU give :: rest) := by
    rintro b S m' rest rfl rfl rfl
    exact hQ _ _ (ReV.alloc 2 3 rfl rfl rfl rfl rfl (.inr rfl) (.inr rfl) (fun _ => rfl) ⟨rfl, rfl⟩)
  rcases hpc with rfl | rfl | rfl | rfl | rfl | rfl | rfl | ⟨n, rfl⟩
  · generalize optP 2 p = vp at *
    generalize optP 3 give = vg at *
    generalize optB W0 placeU p = P at *
    generalize optB W0 giveU give = G at *
    (cbv; repeat' (first | (refine mt (fun h => ?_) (fun h => ?_) <;> first | (exfalso; simp [Ops.cmp_eq, Ops.not_eq, icmp] at h; done) | (try cbv)) | fail))
    refine Ops.call0 _ (lClass_ev size) rfl ?_; rintro v V' ⟨rfl, rfl⟩; simp only [lapp, List.map_nil, rn, rnL]
    generalize hk : classA size = k at *
    (cbv; repeat' (first | (refine mt (fun h => ?_) (fun h => ?_) <;> (try cbv)) | fail))
    · have hk0 : k < 0 := by simpa [o.cmp_eq, icmp] using h
      rw [← hM]
      refine call4 o (aend_ev m e ⟨size, own, 0, tk, at_, gen, p, addr, chunk, give, ⟨o1, o2, o3, o4⟩⟩ 5 hT) (fun _ => rfl) (fun _ => rfl) (fun _ => rfl) (allocC_rn (s := ⟨size, own, 0, tk, at_, gen, p, addr, chunk, give, ⟨o1, o2, o3, o4⟩⟩) hT) hT.P hT.G (fun _ => rfl) (allocC_rn hT) hT.P hT.G ?_
      rw [hM]
      cbv
      rw [← hM]
      refine fin true ⟨size, own, 0, tk, at_, gen, p, addr, chunk, give, ⟨5, 0, 0, m.steps⟩⟩ m _ rfl rfl ?_
      rw [← hR]; simp [AllocS.step, hk, hk0]
    · have hk0 : ¬ k < 0 := by simpa [o.cmp_eq, icmp] using h
      rw [← hM]
      refine call4 o (take_ev m e ⟨size, own, 0, tk, at_, gen, p, addr, chunk, give, ⟨o1, o2, o3, o4⟩⟩ hT) (fun _ => rfl) (fun _ => rfl) (fun _ => rfl) (allocC_rn (s := ⟨size, own, 0, tk, at_, gen, p, addr, chunk, give, ⟨o1, o2, o3, o4⟩⟩) hT) hT.P hT.G (fun _ => rfl) (allocC_rn hT) hT.P hT.G ?_
      simp only at hR ⊢
      generalize hr : tk.step e m = r at *
      obtain ⟨rb, tk2, m'⟩ := r
      clear hM
      generalize hM : bx W0 (memU m') = M
      cases rb with
      | false =>
        cbv
        rw [← hM]
        refine fin false ⟨size, own, 0, tk2, at_, gen, p, addr, chunk, give, ⟨o1, o2, o3, o4⟩⟩ m' _ rfl rfl ?_
        rw [← hR]; simp [AllocS.step, hk, hk0, hr]
      | true =>
        cbv
        rw [← hM]
        refine call4 o (takeSlot_ev ⟨size, own, 0, tk2, at_, gen, p, addr, chunk, give, ⟨o1, o2, o3, o4⟩⟩ (fun _ => rfl) hT) (fun _ => rfl) (fun _ => rfl) (fun _ => rfl) (allocC_rn (s := ⟨size, own, 0, tk2, at_, gen, p, addr, chunk, give, ⟨o1, o2, o3, o4⟩⟩) hT) hT.P hT.G (fun _ => rfl) (allocC_rn hT) hT.P hT.G ?_
        rw [hM]
        obtain ⟨t1, t2, t3, t4, ok⟩ := tk2
        cases ok with
        | true =>
          (cbv; repeat' (first | (refine mt (fun h => ?_) (fun h => ?_) <;> first | (exfalso; simp [Ops.cmp_eq, Ops.not_eq, icmp] at h; done) | (try cbv)) | fail))
          rw [← hM]
          refine fin false ⟨size, own, 1, ⟨t1, t2, t3, t4, true⟩, t4, gen, p, addr, chunk, give, ⟨o1, o2, o3, o4⟩⟩ m' _ rfl rfl ?_
          rw [← hR]; simp [AllocS.step, hk, hk0, hr]
        | false =>
          (cbv; repeat' (first | (refine mt (fun h => ?_) (fun h => ?_) <;> first | (exfalso; simp [Ops.cmp_eq, Ops.not_eq, icmp] at h; done) | (try cbv)) | fail))
          rw [← hM]
          refine call4 o (aend_ev m' e ⟨size, own, 1, ⟨t1, t2, t3, t4, false⟩, 0, gen, p, addr, chunk, give, ⟨o1, o2, o3, o4⟩⟩ 7 hT) (fun _ => rfl) (fun _ => rfl) (fun _ => rfl) (allocC_rn (s := ⟨size, own, 1, ⟨t1, t2, t3, t4, false⟩, 0, gen, p, addr, chunk, give, ⟨o1, o2, o3, o4⟩⟩) hT) hT.P hT.G (fun _ => rfl) (allocC_rn hT) hT.P hT.G ?_
          rw [hM]
          cbv
          rw [← hM]
          refine fin true ⟨size, own, 1, ⟨t1, t2, t3, t4, false⟩, 0, gen, p, addr, chunk, give, ⟨7, 0, 0, m'.steps⟩⟩ m' _ rfl rfl ?_
          rw [← hR]; simp [AllocS.step, hk, hk0, hr]
  · generalize optP 2 p = vp at *
    generalize hvg : optP 3 give = vg at *
    generalize optB W0 placeU p = P at *
    generalize hG : optB W0 giveU give = G at *
    (cbv; repeat' (first | (refine mt (fun h => ?_) (fun h => ?_) <;> first | (exfalso; simp [Ops.cmp_eq, Ops.not_eq, icmp] at h; done) | (try cbv)) | fail))
    refine Ops.call0 _ (lSlot_ev e.c at_) rfl ?_; rintro v V' ⟨rfl, rfl⟩; simp only [lapp, List.map_nil, rn, rnL]
    generalize ha : slotA e.c at_ = a at *
    cbv
    refine Ops.call _ [0] (eLoad_ev m e a) rfl rfl rfl ⟨.inr (by rw [← hM]; rfl), trivial⟩ ?_; rintro v V' ⟨rfl, rfl⟩; simp only [layB, lset, lapp, List.map_nil, List.map_cons, rnB_bx, rn, rnL]; clear hM; generalize hM : bx W0 (memU _) = M
    generalize hr : eld e m a = r at *
    obtain ⟨r1, m'⟩ := r
    cbv
    refine Ops.call0 _ (Slot_ev r1) rfl ?_; rintro v V' ⟨rfl, rfl⟩; simp only [lapp, List.map_nil, rn, rnL]
    generalize hs : slotOf r1 = s at *
    obtain ⟨s1, s2, s3, s4⟩ := s
    cbv
    refine Ops.call0 _ (lClass_ev size) rfl ?_; rintro v V' ⟨rfl, rfl⟩; simp only [lapp, List.map_nil, rn, rnL]
    generalize hk : classA size = k at *
    cbv
    refine o.call [] (placeNew_ev k) rfl rfl rfl trivial ?_
    rintro v V' ⟨rfl, rfl⟩
    simp only [layB, lapp, List.map_cons, List.map_nil, rnB_bx]
    generalize hN : bx W0 (placeU { place0 with cls := k }) = N
    cbv
    refine hQ _ _ (ReV.alloc (s := ⟨size, own, 2, tk, at_, s3, some { place0 with cls := k }, addr, chunk, give, ⟨o1, o2, o3, o4⟩⟩) 5 3 hM rfl (by rw [← hvg]; rfl) rfl rfl (.inr (by rw [← hN]; rfl)) (.inr (by rw [← hG]; rfl)) (fun _ => rfl) ⟨?_, ?_⟩)
    all_goals (rw [← hR]; simp [AllocS.step, ha, hr, hs, hk])
  · obtain ⟨hp1, hp2⟩ := h2 rfl
    obtain ⟨p, rfl⟩ := Option.isSome_iff_exists.1 hp1
    have hp0 : 0 ≤ p.cls := hp2 p rfl
    clear h2 hp1 hp2
    generalize hvg : optP 3 give = vg at *
    generalize hG : optB W0 giveU give = G at *
    simp only [optP, optB] at *
    generalize hP : bx W0 (placeU p) = P at *
    (cbv; repeat' (first | (refine mt (fun h => ?_) (fun h => ?_) <;> first | (exfalso; simp [Ops.cmp_eq, Ops.not_eq, icmp] at h; done) | (try cbv)) | fail))
    refine o.call [0, 2] (Place_ev m e p hp0) rfl rfl rfl ⟨.inr (by rw [← hM]; rfl), .inr (by rw [← hP]; rfl), trivial⟩ ?_
    rintro v V' ⟨rfl, rfl⟩
    generalize hr : p.step e m = r at *
    obtain ⟨rb, p', m'⟩ := r
    simp only [layB, lset, lapp, List.map_nil, List.map_cons, rnB_bx, rn]
    clear hM hP
    generalize hM : bx W0 (memU m') = M
    generalize hP : bx W0 (placeU p') = P
    cases rb with
    | false =>
      cbv
      refine hQ _ _ (ReV.alloc (s := ⟨size, own, 2, tk, at_, gen, some p', addr, chunk, give, ⟨o1, o2, o3, o4⟩⟩) 2 3 hM rfl (by rw [← hvg]; rfl) rfl rfl (.inr (by rw [← hP]; rfl)) (.inr (by rw [← hG]; rfl)) (fun _ => rfl) ⟨?_, ?_⟩)
      all_goals (rw [← hR]; simp [AllocS.step, hr])
    | true =>
      cbv
      refine o.call [2] (Spot_ev p') rfl rfl rfl ⟨.inr (by rw [← hP]; rfl), trivial⟩ ?_
      rintro v V' ⟨rfl, rfl⟩
      simp only [layB, lset, lapp, List.map_nil, List.map_cons, rnB_bx, rn, rnL]
      rw [hP]
      cases hok : p'.ok with
      | true =>
        simp only [if_true]
        (cbv; repeat' (first | (refine mt (fun h => ?_) (fun h => ?_) <;> first | (exfalso; simp [Ops.cmp_eq, Ops.not_eq, icmp] at h; done) | (try cbv)) | fail))
        refine hQ _ _ (ReV.alloc (s := ⟨size, own, 3, tk, at_, gen, some p', p'.addr, p'.chunk, give, ⟨o1, o2, o3, o4⟩⟩) 2 3 hM rfl (by rw [← hvg]; rfl) rfl rfl (.inr (by rw [← hP]; rfl)) (.inr (by rw [← hG]; rfl)) (fun _ => rfl) ⟨?_, ?_⟩)
        all_goals (rw [← hR]; simp [AllocS.step, hr, hok])
      | false =>
        simp only [Bool.false_eq_true, if_false]
        (cbv; repeat' (first | (refine mt (fun h => ?_) (fun h => ?_) <;> first | (exfalso; simp [Ops.cmp_eq, Ops.not_eq, icmp] at h; done) | (try cbv)) | fail))
        have hT2 : Two (.ptr 2 0) vg P G := ⟨fun _ => rfl, hT.vg, by rw [← hP]; exact fun _ => rfl, hT.G⟩
        rw [← hM]
        refine call4 o (aend_ev m' e ⟨size, own, 3, tk, at_, gen, some p', 0, 0, give, ⟨o1, o2, o3, o4⟩⟩ 6 hT2) (fun _ => rfl) (fun _ => rfl) (fun _ => rfl) (allocC_rn (s := ⟨size, own, 3, tk, at_, gen, some p', 0, 0, give, ⟨o1, o2, o3, o4⟩⟩) hT2) hT2.P hT2.G (fun _ => rfl) (allocC_rn hT2) hT2.P hT2.G ?_
        rw [hM]
        cbv
        refine o.call [] (giveNew_ev at_) rfl rfl rfl trivial ?_
        rintro v V' ⟨rfl, rfl⟩
        simp only [layB, lapp, List.map_cons, List.map_nil, rnB_bx]
        generalize hN : bx W0 (giveU { give0 with slot := at_ }) = N
        cbv
        refine hQ _ _ (ReV.alloc (s := ⟨size, own, 7, tk, at_, gen, some p', 0, 0, some { give0 with slot := at_ }, ⟨6, 0, 0, m'.steps⟩⟩) 2 6 hM rfl rfl rfl rfl (.inr (by rw [← hP]; rfl)) (.inr (by rw [← hN]; rfl)) (fun _ => rfl) ⟨?_, ?_⟩)
        all_goals (rw [← hR]; simp [AllocS.step, hr, hok])
  · generalize optP 2 p = vp at *
    generalize optP 3 give = vg at *
    generalize optB W0 placeU p = P at *
    generalize optB W0 giveU give = G at *
    have hk0 := h3 rfl
    simp only at hk0
    (cbv; repeat' (first | (refine mt (fun h => ?_) (fun h => ?_) <;> first | (exfalso; simp [Ops.cmp_eq, Ops.not_eq, icmp] at h; done) | (try cbv)) | fail))
    refine Ops.call0 _ (lChunk_ev e.c chunk) rfl ?_; rintro v V' ⟨rfl, rfl⟩; simp only [lapp, List.map_nil, rn, rnL]
    generalize ha : chunkA e.c chunk = a at *
    cbv
    refine Ops.call0 _ (lClass_ev size) rfl ?_; rintro v V' ⟨rfl, rfl⟩; simp only [lapp, List.map_nil, rn, rnL]
    generalize hk : classA size = k at *
    cbv
    refine Ops.call0 _ (lRoom_ev k hk0) rfl ?_; rintro v V' ⟨rfl, rfl⟩; simp only [lapp, List.map_nil, rn, rnL]
    generalize hrm : roomA k = rm at *
    cbv
    simp only [o.ar_eq, arith]
    generalize hb : IntKind.i64.wrap (a + 1) = b at *
    refine Ops.call _ [0] (eAdd_ev m e b rm) rfl rfl rfl ⟨.inr (by rw [← hM]; rfl), trivial⟩ ?_; rintro v V' ⟨rfl, rfl⟩; simp only [layB, lset, lapp, List.map_nil, List.map_cons, rnB_bx, rn, rnL]; clear hM; generalize hM : bx W0 (memU _) = M
    generalize hr : eadd e m b rm = m' at *
    cbv
    rw [← hM]
    refine fin false ⟨size, own, 4, tk, at_, gen, p, addr, chunk, give, ⟨o1, o2, o3, o4⟩⟩ m' _ rfl rfl ?_
    rw [← hR]; simp [AllocS.step, ha, hk, hrm, hb, hr]
  · generalize optP 2 p = vp at *
    generalize optP 3 give = vg at *
    generalize optB W0 placeU p = P at *
    generalize optB W0 giveU give = G at *
    (cbv; repeat' (first | (refine mt (fun h => ?_) (fun h => ?_) <;> first | (exfalso; simp [Ops.cmp_eq, Ops.not_eq, icmp] at h; done) | (try cbv)) | fail))
    rw [← hM]
    refine call4 o (ahead_ev ⟨size, own, 4, tk, at_, gen, p, addr, chunk, give, ⟨o1, o2, o3, o4⟩⟩ 1 (fun _ => rfl) hT) (fun _ => rfl) (fun _ => rfl) (fun _ => rfl) (allocC_rn (s := ⟨size, own, 4, tk, at_, gen, p, addr, chunk, give, ⟨o1, o2, o3, o4⟩⟩) hT) hT.P hT.G (fun _ => rfl) (allocC_rn hT) hT.P hT.G ?_
    rw [hM]
    generalize hh : AllocS.head ⟨size, own, 4, tk, at_, gen, p, addr, chunk, give, ⟨o1, o2, o3, o4⟩⟩ 1 = w at *
    cbv
    refine Ops.call _ [0] (eStore_ev m e addr w) rfl rfl rfl ⟨.inr (by rw [← hM]; rfl), trivial⟩ ?_; rintro v V' ⟨rfl, rfl⟩; simp only [layB, lset, lapp, List.map_nil, List.map_cons, rnB_bx, rn, rnL]; clear hM; generalize hM : bx W0 (memU _) = M
    generalize hr : est e m addr w = m' at *
    cbv
    rw [← hM]
    refine fin false ⟨size, own, 5, tk, at_, gen, p, addr, chunk, give, ⟨o1, o2, o3, o4⟩⟩ m' _ rfl rfl ?_
    rw [← hR]; simp [AllocS.step, hh, hr]
  · generalize optP 2 p = vp at *
    generalize optP 3 give = vg at *
    generalize optB W0 placeU p = P at *
    generalize optB W0 giveU give = G at *
    (cbv; repeat' (first | (refine mt (fun h => ?_) (fun h => ?_) <;> first | (exfalso; simp [Ops.cmp_eq, Ops.not_eq, icmp] at h; done) | (try cbv)) | fail))
    refine Ops.call0 _ (lSlot_ev e.c at_) rfl ?_; rintro v V' ⟨rfl, rfl⟩; simp only [lapp, List.map_nil, rn, rnL]
    generalize ha : slotA e.c at_ = a at *
    cbv
    refine Ops.call0 _ (PutSlot_ev ⟨1, addr, gen, 0⟩) rfl ?_; rintro v V' ⟨rfl, rfl⟩; simp only [lapp, List.map_nil, rn, rnL]
    generalize hp : putSlot ⟨1, addr, gen, 0⟩ = w at *
    cbv
    refine Ops.call _ [0] (eStore_ev m e a w) rfl rfl rfl ⟨.inr (by rw [← hM]; rfl), trivial⟩ ?_; rintro v V' ⟨rfl, rfl⟩; simp only [layB, lset, lapp, List.map_nil, List.map_cons, rnB_bx, rn, rnL]; clear hM; generalize hM : bx W0 (memU _) = M
    generalize hr : est e m a w = m' at *
    cbv
    refine Ops.call0 _ (PutHandle_ev ⟨at_, gen⟩) rfl ?_; rintro v V' ⟨rfl, rfl⟩; simp only [lapp, List.map_nil, rn, rnL]
    generalize hh : putHandle ⟨at_, gen⟩ = w2 at *
    cbv
    refine o.call [0] (eNow_ev m' e) rfl rfl rfl ⟨.inr (by rw [← hM]; rfl), trivial⟩ ?_
    rintro v V' ⟨rfl, rfl⟩
    simp only [layB, lset, lapp, List.map_nil, List.map_cons, rnB_bx, rn, rnL]
    rw [hM]
    cbv
    rw [← hM]
    refine fin false ⟨size, own, 6, tk, at_, gen, p, addr, chunk, give, ⟨0, w2, 0, m'.steps⟩⟩ m' _ rfl rfl ?_
    rw [← hR]; simp [AllocS.step, ha, hp, hr, hh]
  · generalize optP 2 p = vp at *
    generalize optP 3 give = vg at *
    generalize optB W0 placeU p = P at *
    generalize optB W0 giveU give = G at *
    (cbv; repeat' (first | (refine mt (fun h => ?_) (fun h => ?_) <;> first | (exfalso; simp [Ops.cmp_eq, Ops.not_eq, icmp] at h; done) | (try cbv)) | fail))
    rw [← hM]
    refine call4 o (ahead_ev ⟨size, own, 6, tk, at_, gen, p, addr, chunk, give, ⟨o1, o2, o3, o4⟩⟩ 2 (fun _ => rfl) hT) (fun _ => rfl) (fun _ => rfl) (fun _ => rfl) (allocC_rn (s := ⟨size, own, 6, tk, at_, gen, p, addr, chunk, give, ⟨o1, o2, o3, o4⟩⟩) hT) hT.P hT.G (fun _ => rfl) (allocC_rn hT) hT.P hT.G ?_
    rw [hM]
    generalize hh : AllocS.head ⟨size, own, 6, tk, at_, gen, p, addr, chunk, give, ⟨o1, o2, o3, o4⟩⟩ 2 = w at *
    cbv
    refine Ops.call _ [0] (eStore_ev m e addr w) rfl rfl rfl ⟨.inr (by rw [← hM]; rfl), trivial⟩ ?_; rintro v V' ⟨rfl, rfl⟩; simp only [layB, lset, lapp, List.map_nil, List.map_cons, rnB_bx, rn, rnL]; clear hM; generalize hM : bx W0 (memU _) = M
    generalize hr : est e m addr w = m' at *
    cbv
    rw [← hM]
    refine fin true ⟨size, own, 6, tk, at_, gen, p, addr, chunk, give, ⟨o1, o2, o3, o4⟩⟩ m' _ rfl rfl ?_
    rw [← hR]; simp [AllocS.step, hh, hr]
  · have hg1 := h7 (Nat.le_add_left _ _)
    simp only at hg1
    obtain ⟨g, rfl⟩ := Option.isSome_iff_exists.1 hg1
    clear h7 hg1
    generalize hvp : optP 2 p = vp at *
    generalize hP : optB W0 placeU p = P at *
    simp only [optP, optB] at *
    generalize hG : bx W0 (giveU g) = G at *
    (cbv; repeat' (first | (refine mt (fun h => ?_) (fun h => ?_) <;> first | (exfalso; simp [Ops.cmp_eq, icmp] at h; omega) | (try cbv)) | fail))
    refine o.call [0, 3] (Give_ev m e g) rfl rfl rfl ⟨.inr (by rw [← hM]; rfl), .inr (by rw [← hG]; rfl), trivial⟩ ?_
    rintro v V' ⟨rfl, rfl⟩
    generalize hr : g.step e m = r at *
    obtain ⟨rb, g', m'⟩ := r
    simp only [layB, lset, lapp, List.map_nil, List.map_cons, rnB_bx, rn]
    clear hM hG
    generalize hM : bx W0 (memU m') = M
    generalize hG : bx W0 (giveU g') = G
    cbv
    refine hQ _ _ (ReV.alloc (s := ⟨size, own, n + 7, tk, at_, gen, p, addr, chunk, some g', ⟨o1, o2, o3, o4⟩⟩) 2 3 hM rfl (by rw [← hvp]; rfl) rfl rfl (.inr (by rw [← hP]; rfl)) (.inr (by rw [← hG]; rfl)) (fun _ => rfl) ⟨?_, ?_⟩)
    all_goals (rw [← hR]; simp [AllocS.step, hr])
end Go.Proofs.YtglghdjpkecngaaGreat
