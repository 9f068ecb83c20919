/- access: somebody who reads or lays a word of an object. -/
import Derived.Test.YtglghdjpkecngaaGreatAR
namespace Go.Proofs.YtglghdjpkecngaaGreat
set_option linter.unusedVariables false
set_option linter.unusedSimpArgs false
open Go Go.SL Go.FL
set_option maxRecDepth 100000
def accessC (s : AccessS) (vh : VV) : VB := .cells [.int .i64 s.x.kind, .int .u64 s.x.handle, .int .i64 s.x.index, .int .i64 s.x.value, .int .i64 s.x.old, .bool s.own, .int .i64 s.h.slot, .int .i64 s.h.gen, .int .i64 s.pc,
    .int .u64 s.w, .int .u64 s.cell, .int .i64 s.seen, .int .i64 s.read, .int .i64 s.size, vh, .int .i64 s.out.e, .int .u64 s.out.h, .int .i64 s.out.v, .int .i64 s.out.s]
theorem accessU_open {W0 : World} {M : VB} (s : AccessS) : layB (rho [1] [M, bx W0 (accessU W0 s)].length) [M, bx W0 (accessU W0 s)] [1] (accessU W0 s) = [M, accessC s (optP 2 s.help), optB W0 helpU s.help] := by
  simp only [layB, lset, lapp, accessU, rnB_optB, List.map_cons, List.map_nil]
  simp only [rnB, rnL, rn, rn_optP]
  rfl
theorem ReV.access {W0 : World} {Q : VV → List VB → Prop} {v : VV} {M : VB} {m : MemS} {s : AccessS} {V : List VB} (q1 : Nat) (hM : bx W0 (memU m) = M) (h0 : lget V 0 = some M) (h1 : lget V 1 = some (accessC s (optP q1 s.help)))
    (hd : nodupB [1, q1] = true) (hz : hasNat [1, q1] 0 = false) (hp : s.help = none ∨ lget V q1 = some (optB W0 helpU s.help)) (hv : ∀ n, rn (rho [0, 1] n) v = v) (hq : Q v [bx W0 (memU m), bx W0 (accessU W0 s)]) : ReV W0 2 Q v V := by
  subst hM
  have e0 : ∀ n, rho [1, q1] n 1 = q1 := fun _ => rfl
  have hl : 1 < V.length := by rw [lget_eq] at h1; exact (List.getElem?_eq_some_iff.1 h1).1
  refine ReV.shut 1 [q1] (accessU W0 s) hd (by rw [h1]; rfl) ⟨.inr ?_, ?_, trivial⟩ ?_
  · rw [h1]
    simp only [rnB, rnL, rn, rn_optP, e0, accessC]
  · rcases hp with hp | hp
    · left; rw [hp]; rfl
    · right; rw [hp, rnB_optB]
  · exact ReV.ren [0, 1] v [bx W0 (memU m), bx W0 (accessU W0 s)] rfl rfl (hv _).symm ⟨.inr ((lget_emps hz).trans h0), .inr (lget_emps_at hd hl), trivial⟩ hq
theorem next_ev {W0 : World} (s : AccessS) {M P : VB} {vh : VV} (hM : ∀ n, rnB (rho [0, 1, 2] n) M = M) (hC : ∀ n, rnB (rho [0, 1, 2] n) (accessC s vh) = accessC s vh) (hP : ∀ n, rnB (rho [0, 1, 2] n) P = P) :
    Ev Tryz.prog W0 177 [.ptr 1 0] [M, accessC s vh, P] (fun v V' => v = .int .i64 s.next ∧ V' = [M, accessC s vh, P]) := by
  generalize hR : s.next = R
  refine Ev.out fun Q' hQ => ev177 rfl fun o => ?_
  obtain ⟨⟨xk, xh, xi, xv, xo⟩, own, ⟨hs, hg⟩, pc, w, cell, seen, read, size, help, ⟨o1, o2, o3, o4⟩⟩ := s
  have fin : ∀ (r : Nat) (rest : List VB), R = r → Q' (.int .i64 r) (M :: accessC ⟨⟨xk, xh, xi, xv, xo⟩, own, ⟨hs, hg⟩, pc, w, cell, seen, read, size, help, ⟨o1, o2, o3, o4⟩⟩ vh :: P :: rest) := by
    rintro r rest rfl
    exact hQ _ _ (ReV.ren [0, 1, 2] (.int .i64 R) [M, accessC ⟨⟨xk, xh, xi, xv, xo⟩, own, ⟨hs, hg⟩, pc, w, cell, seen, read, size, help, ⟨o1, o2, o3, o4⟩⟩ vh, P] rfl rfl rfl ⟨.inr (by rw [hM]; rfl), .inr (by rw [hC]; rfl), .inr (by rw [hP]; rfl), trivial⟩ ⟨rfl, rfl⟩)
  clear hC
  cbv
  refine Ops.call0 _ (Cell_ev cell) rfl ?_; rintro v V' ⟨rfl, rfl⟩; simp only [lapp, List.map_nil, rn, rnL]
  generalize hc : cellOf cell = c at *
  obtain ⟨c1, c2, c3⟩ := c
  cbv
  refine Ops.call0 _ (Slot_ev w) rfl ?_; rintro v V' ⟨rfl, rfl⟩; simp only [lapp, List.map_nil, rn, rnL]
  generalize hx : slotOf w = x at *
  obtain ⟨x1, x2, x3, x4⟩ := x
  cases c2
  all_goals (cbv; repeat' (first | (refine mt (fun h => ?_) (fun h => ?_) <;> first | (exfalso; simp [Ops.cmp_eq, Ops.not_eq, icmp] at h; done) | (try cbv)) | fail))
  all_goals (simp only [Ops.cmp_eq, Ops.not_eq, Ops.beq_eq, icmp] at *)
  all_goals first
    | (refine fin 0 _ ?_; rw [← hR]; simp_all [AccessS.next]; done)
    | (refine fin 3 _ ?_; rw [← hR]; simp_all [AccessS.next]; done)
    | (refine fin 4 _ ?_; rw [← hR]; simp_all [AccessS.next]; done)
    | (refine fin 5 _ ?_; rw [← hR]; simp_all [AccessS.next]; done)
    | (refine fin 6 _ ?_; rw [← hR]; simp_all [AccessS.next]; done)
theorem accessC_rn {s : AccessS} {vh : VV} (h : ∀ n, rn (rho [0, 1, 2] n) vh = vh) (n : Nat) : rnB (rho [0, 1, 2] n) (accessC s vh) = accessC s vh := by
  simp [accessC, rnB, rnL, rn, h]
theorem Access_ev {W0 : World} (m : MemS) (e : EnvS) (s : AccessS) (h4 : s.pc = 4 → s.help.isSome = true) :
    Ev Tryz.prog W0 174 [.ptr 1 0, e.v 0] [bx W0 (memU m), bx W0 (accessU W0 s)] (fun v V' => v = .bool (s.step e m).1 ∧ V' = [bx W0 (memU (s.step e m).2.2), bx W0 (accessU W0 (s.step e m).2.1)]) := by
  generalize hR : s.step e m = R
  refine Ev.outB 1 (U := accessU W0 s) rfl fun Q' hQ => ?_
  generalize hM : bx W0 (memU m) = M at *
  rw [accessU_open]
  refine ev174 rfl fun o => ?_
  obtain ⟨⟨xk, xh, xi, xv, xo⟩, own, ⟨hs, hg⟩, pc, w, cell, seen, read, size, help, ⟨o1, o2, o3, o4⟩⟩ := s
  have hpc : pc = 0 ∨ pc = 1 ∨ pc = 2 ∨ pc = 3 ∨ pc = 4 ∨ pc = 5 ∨ ∃ n, pc = n + 6 := by rcases pc with _ | _ | _ | _ | _ | _ | n <;> simp
  have fin : ∀ (b : Bool) (S : AccessS) (m' : MemS) (rest : List VB), S.help = help → R = (b, S, m') → Q' (.bool b) (bx W0 (memU m') :: accessC S (optP 2 help) :: optB W0 helpU help :: rest) := by
    rintro b S m' rest rfl rfl
    exact hQ _ _ (ReV.access 2 rfl rfl rfl rfl rfl (.inr rfl) (fun _ => rfl) ⟨rfl, rfl⟩)
  rcases hpc with rfl | rfl | rfl | rfl | rfl | rfl | ⟨n, rfl⟩
  · generalize hvh : optP 2 help = vh at *
    generalize hP : optB W0 helpU help = P at *
    (cbv; repeat' (first | (refine mt (fun h => ?_) (fun h => ?_) <;> first | (exfalso; simp [Ops.cmp_eq, Ops.not_eq, icmp] at h; done) | (try cbv)) | fail))
    refine Ops.call0 _ (Handle_ev xh) rfl ?_; rintro v V' ⟨rfl, rfl⟩; simp only [lapp, List.map_nil, rn, rnL]
    generalize hh : handleOf xh = hn at *
    obtain ⟨⟨k1, k2⟩, is⟩ := hn
    cases is
    all_goals (cbv; repeat' (first | (refine mt (fun h => ?_) (fun h => ?_) <;> first | (exfalso; simp [Ops.cmp_eq, Ops.not_eq, icmp] at h; done) | (try cbv)) | fail))
    · refine Ops.call _ [0] (eNow_ev m e) rfl rfl rfl ⟨.inr (by rw [← hM]; rfl), trivial⟩ ?_
      rintro v V' ⟨rfl, rfl⟩
      simp only [layB, lset, lapp, List.map_nil, List.map_cons, rnB_bx, rn, rnL]
      rw [hM]
      cbv
      refine Ops.evI _ (ev176 rfl fun o => ?_)
      cbv
      rw [← hM]
      refine fin true ⟨⟨xk, xh, xi, xv, xo⟩, own, ⟨k1, k2⟩, 0, w, cell, seen, read, size, help, ⟨3, 0, 0, m.steps⟩⟩ m _ rfl ?_
      rw [← hR]; simp [AccessS.step, hh]
    · have hk : e.c.slots ≤ k1 := by simpa [Ops.cmp_eq, icmp] using h
      refine Ops.call _ [0] (eNow_ev m e) rfl rfl rfl ⟨.inr (by rw [← hM]; rfl), trivial⟩ ?_
      rintro v V' ⟨rfl, rfl⟩
      simp only [layB, lset, lapp, List.map_nil, List.map_cons, rnB_bx, rn, rnL]
      rw [hM]
      cbv
      refine Ops.evI _ (ev176 rfl fun o => ?_)
      cbv
      rw [← hM]
      refine fin true ⟨⟨xk, xh, xi, xv, xo⟩, own, ⟨k1, k2⟩, 0, w, cell, seen, read, size, help, ⟨3, 0, 0, m.steps⟩⟩ m _ rfl ?_
      rw [← hR]; simp [AccessS.step, hh, hk]
    · have hk : ¬ e.c.slots ≤ k1 := by simpa [Ops.cmp_eq, icmp] using h
      refine Ops.call0 _ (lSlot_ev e.c k1) rfl ?_; rintro v V' ⟨rfl, rfl⟩; simp only [lapp, List.map_nil, rn, rnL]
      generalize ha : slotA e.c k1 = a at *
      cbv
      refine Ops.call _ [0] (eLoad_ev m e a) rfl rfl rfl ⟨.inr (by rw [← hM]; rfl), trivial⟩ ?_; rintro v V' ⟨rfl, rfl⟩; simp only [layB, lset, lapp, List.map_nil, List.map_cons, rnB_bx, rn, rnL]; clear hM; generalize hM : bx W0 (memU _) = M
      generalize hr : eld e m a = r at *
      obtain ⟨r1, m'⟩ := r
      simp only at hM
      cbv
      refine Ops.call _ [0] (eNow_ev m' e) rfl rfl rfl ⟨.inr (by rw [← hM]; rfl), trivial⟩ ?_
      rintro v V' ⟨rfl, rfl⟩
      simp only [layB, lset, lapp, List.map_nil, List.map_cons, rnB_bx, rn, rnL]
      rw [hM]
      cbv
      refine Ops.call0 _ (Slot_ev r1) rfl ?_; rintro v V' ⟨rfl, rfl⟩; simp only [lapp, List.map_nil, rn, rnL]
      generalize hx : slotOf r1 = x at *
      obtain ⟨x1, x2, x3, x4⟩ := x
      cbv
      refine Ops.call0 _ (Live_ev ⟨x1, x2, x3, x4⟩ ⟨k1, k2⟩) rfl ?_; rintro v V' ⟨rfl, rfl⟩; simp only [lapp, List.map_nil, rn, rnL]
      generalize hl : live ⟨x1, x2, x3, x4⟩ ⟨k1, k2⟩ = l at *
      cases l
      all_goals (cbv; repeat' (first | (refine mt (fun h => ?_) (fun h => ?_) <;> first | (exfalso; simp [Ops.cmp_eq, Ops.not_eq, icmp] at h; done) | (try cbv)) | fail))
      · refine Ops.call _ [0] (eNow_ev m' e) rfl rfl rfl ⟨.inr (by rw [← hM]; rfl), trivial⟩ ?_
        rintro v V' ⟨rfl, rfl⟩
        simp only [layB, lset, lapp, List.map_nil, List.map_cons, rnB_bx, rn, rnL]
        rw [hM]
        cbv
        refine Ops.evI _ (ev176 rfl fun o => ?_)
        cbv
        rw [← hM]
        refine fin true ⟨⟨xk, xh, xi, xv, xo⟩, own, ⟨k1, k2⟩, 1, r1, cell, m'.steps, read, size, help, ⟨3, 0, 0, m'.steps⟩⟩ m' _ rfl ?_
        rw [← hR]; simp [AccessS.step, hh, hk, ha, hr, hx, hl]
      · rw [← hM]
        refine fin false ⟨⟨xk, xh, xi, xv, xo⟩, own, ⟨k1, k2⟩, 1, r1, cell, m'.steps, read, size, help, ⟨o1, o2, o3, o4⟩⟩ m' _ rfl ?_
        rw [← hR]; simp [AccessS.step, hh, hk, ha, hr, hx, hl]
  · generalize hvh : optP 2 help = vh at *
    generalize hP : optB W0 helpU help = P at *
    (cbv; repeat' (first | (refine mt (fun h => ?_) (fun h => ?_) <;> first | (exfalso; simp [Ops.cmp_eq, Ops.not_eq, icmp] at h; done) | (try cbv)) | fail))
    refine Ops.call0 _ (Slot_ev w) rfl ?_; rintro v V' ⟨rfl, rfl⟩; simp only [lapp, List.map_nil, rn, rnL]
    generalize hx : slotOf w = x at *
    obtain ⟨x1, x2, x3, x4⟩ := x
    cbv
    refine Ops.call _ [0] (eLoad_ev m e x2) rfl rfl rfl ⟨.inr (by rw [← hM]; rfl), trivial⟩ ?_; rintro v V' ⟨rfl, rfl⟩; simp only [layB, lset, lapp, List.map_nil, List.map_cons, rnB_bx, rn, rnL]; clear hM; generalize hM : bx W0 (memU _) = M
    generalize hr : eld e m x2 = r at *
    obtain ⟨r1, m'⟩ := r
    simp only at hM
    cbv
    refine Ops.call0 _ (Head_ev r1) rfl ?_; rintro v V' ⟨rfl, rfl⟩; simp only [lapp, List.map_nil, rn, rnL]
    generalize hy : headOf r1 = y at *
    obtain ⟨y1, y2, y3, y4, y5⟩ := y
    (cbv; repeat' (first | (refine mt (fun h => ?_) (fun h => ?_) <;> (try cbv)) | fail))
    · have ho : y5 ≠ own := by simpa [Ops.not_eq, Ops.beq_eq] using h
      refine Ops.call _ [0] (eNow_ev m' e) rfl rfl rfl ⟨.inr (by rw [← hM]; rfl), trivial⟩ ?_
      rintro v V' ⟨rfl, rfl⟩
      simp only [layB, lset, lapp, List.map_nil, List.map_cons, rnB_bx, rn, rnL]
      rw [hM]
      cbv
      refine Ops.evI _ (ev176 rfl fun o => ?_)
      cbv
      rw [← hM]
      refine fin true ⟨⟨xk, xh, xi, xv, xo⟩, own, ⟨hs, hg⟩, 2, w, cell, seen, read, y2, help, ⟨3, 0, 0, m'.steps⟩⟩ m' _ rfl ?_
      rw [← hR]; simp [AccessS.step, hx, hr, hy, ho]
    · rename_i ho
      obtain rfl : y5 = own := by simpa [Ops.not_eq, Ops.beq_eq] using ho
      have h1 : xi < 0 := by simpa [Ops.cmp_eq, icmp] using h
      refine Ops.evI _ (ev176 rfl fun o => ?_)
      cbv
      rw [← hM]
      refine fin true ⟨⟨xk, xh, xi, xv, xo⟩, y5, ⟨hs, hg⟩, 2, w, cell, seen, read, y2, help, ⟨4, 0, 0, seen⟩⟩ m' _ rfl ?_
      rw [← hR]; simp [AccessS.step, hx, hr, hy, h1]
    · rename_i ho h1
      obtain rfl : y5 = own := by simpa [Ops.not_eq, Ops.beq_eq] using ho
      have h2 : y2 ≤ xi := by simpa [Ops.cmp_eq, icmp] using h
      refine Ops.evI _ (ev176 rfl fun o => ?_)
      cbv
      rw [← hM]
      refine fin true ⟨⟨xk, xh, xi, xv, xo⟩, y5, ⟨hs, hg⟩, 2, w, cell, seen, read, y2, help, ⟨4, 0, 0, seen⟩⟩ m' _ rfl ?_
      rw [← hR]; simp [AccessS.step, hx, hr, hy, h2]
    · rename_i ho h1
      obtain rfl : y5 = own := by simpa [Ops.not_eq, Ops.beq_eq] using ho
      have h1' : ¬ xi < 0 := by simpa [Ops.cmp_eq, icmp] using h1
      have h2 : ¬ y2 ≤ xi := by simpa [Ops.cmp_eq, icmp] using h
      rw [← hM]
      refine fin false ⟨⟨xk, xh, xi, xv, xo⟩, y5, ⟨hs, hg⟩, 2, w, cell, seen, read, y2, help, ⟨o1, o2, o3, o4⟩⟩ m' _ rfl ?_
      rw [← hR]; simp [AccessS.step, hx, hr, hy, h1', h2]
  · have hop : ∀ n, rn (rho [0, 1, 2] n) (optP 2 help) = optP 2 help := fun n => by rw [rn_optP]; rfl
    have hoB : ∀ n, rnB (rho [0, 1, 2] n) (optB W0 helpU help) = optB W0 helpU help := fun n => rnB_optB ..
    generalize hvh : optP 2 help = vh at *
    generalize hP : optB W0 helpU help = P at *
    (cbv; repeat' (first | (refine mt (fun h => ?_) (fun h => ?_) <;> first | (exfalso; simp [Ops.cmp_eq, Ops.not_eq, icmp] at h; done) | (try cbv)) | fail))
    refine Ops.evI _ (ev175 rfl fun o => ?_)
    cbv
    refine Ops.call0 _ (Slot_ev w) rfl ?_; rintro v V' ⟨rfl, rfl⟩; simp only [lapp, List.map_nil, rn, rnL]
    generalize hx : slotOf w = x at *
    obtain ⟨x1, x2, x3, x4⟩ := x
    cbv
    simp only [Ops.ar_eq, arith, w64_addl]
    generalize hat : IntKind.i64.wrap (x2 + 1 + xi) = at_ at *
    refine Ops.call _ [0] (eLoad_ev m e at_) rfl rfl rfl ⟨.inr (by rw [← hM]; rfl), trivial⟩ ?_; rintro v V' ⟨rfl, rfl⟩; simp only [layB, lset, lapp, List.map_nil, List.map_cons, rnB_bx, rn, rnL]; clear hM; generalize hM : bx W0 (memU _) = M
    generalize hr : eld e m at_ = r at *
    obtain ⟨r1, m'⟩ := r
    simp only at hM
    cbv
    refine Ops.call _ [0] (eNow_ev m' e) rfl rfl rfl ⟨.inr (by rw [← hM]; rfl), trivial⟩ ?_
    rintro v V' ⟨rfl, rfl⟩
    simp only [layB, lset, lapp, List.map_nil, List.map_cons, rnB_bx, rn, rnL]
    rw [hM]
    cbv
    refine Ops.call _ [0, 1, 2] (next_ev ⟨⟨xk, xh, xi, xv, xo⟩, own, ⟨hs, hg⟩, 2, w, r1, seen, read, size, help, ⟨o1, o2, o3, o4⟩⟩ (M := bx W0 (memU m')) (P := P) (vh := vh) (fun _ => rfl) (accessC_rn hop) hoB) rfl rfl rfl ⟨.inr (by rw [← hM]; rfl), .inr (by rw [accessC_rn hop]; rfl), .inr (by rw [hoB]; rfl), trivial⟩ ?_
    rintro v V' ⟨rfl, rfl⟩
    simp only [layB, lset, lapp_eq, List.map_nil, List.append_nil, rnB_bx, accessC_rn hop, hoB, rn]
    rw [hM]
    generalize hnx : AccessS.next ⟨⟨xk, xh, xi, xv, xo⟩, own, ⟨hs, hg⟩, 2, w, r1, seen, read, size, help, ⟨o1, o2, o3, o4⟩⟩ = nx at *
    have hnx2 : AccessS.next ⟨⟨xk, xh, xi, xv, xo⟩, own, ⟨hs, hg⟩, 2, w, r1, seen, m'.steps, size, help, ⟨o1, o2, o3, o4⟩⟩ = nx := hnx
    (cbv; repeat' (first | (refine mt (fun h => ?_) (fun h => ?_) <;> (try cbv)) | fail))
    · have h4' : nx = 4 := by
        have : (nx : Int) = 4 := by simpa [Ops.cmp_eq, icmp] using h
        omega
      subst h4'
      refine Ops.call _ [] (newHelp_ev hs w size) rfl rfl rfl trivial ?_
      rintro v V' ⟨rfl, rfl⟩
      simp only [layB, lapp, List.map_cons, List.map_nil, rnB_bx]
      generalize hN : bx W0 (helpU (newHelp hs w size)) = N
      cbv
      refine hQ _ _ (ReV.access (s := ⟨⟨xk, xh, xi, xv, xo⟩, own, ⟨hs, hg⟩, 4, w, r1, seen, m'.steps, size, some (newHelp hs w size), ⟨o1, o2, o3, o4⟩⟩) 4 hM rfl rfl rfl rfl (.inr (by rw [← hN]; rfl)) (fun _ => rfl) ⟨?_, ?_⟩)
      all_goals (rw [← hR]; simp [AccessS.step, AccessS.at, hx, hat, hr, hnx2])
    · have h4' : nx ≠ 4 := by
        have : (nx : Int) ≠ 4 := by simpa [Ops.cmp_eq, icmp] using h
        omega
      rw [← hM]
      refine fin false ⟨⟨xk, xh, xi, xv, xo⟩, own, ⟨hs, hg⟩, nx, w, r1, seen, m'.steps, size, help, ⟨o1, o2, o3, o4⟩⟩ m' _ rfl ?_
      rw [← hR]; simp [AccessS.step, AccessS.at, hx, hat, hr, hnx2, h4']
  · generalize hvh : optP 2 help = vh at *
    generalize hP : optB W0 helpU help = P at *
    (cbv; repeat' (first | (refine mt (fun h => ?_) (fun h => ?_) <;> first | (exfalso; simp [Ops.cmp_eq, Ops.not_eq, icmp] at h; done) | (try cbv)) | fail))
    refine Ops.call0 _ (Slot_ev w) rfl ?_; rintro v V' ⟨rfl, rfl⟩; simp only [lapp, List.map_nil, rn, rnL]
    generalize hx : slotOf w = x at *
    obtain ⟨x1, x2, x3, x4⟩ := x
    cbv
    simp only [Ops.ar_eq, arith]
    generalize hu : IntKind.i64.wrap (x4 + 1) = u at *
    refine Ops.call0 _ (lSlot_ev e.c hs) rfl ?_; rintro v V' ⟨rfl, rfl⟩; simp only [lapp, List.map_nil, rn, rnL]
    generalize ha : slotA e.c hs = a at *
    cbv
    refine Ops.call0 _ (PutSlot_ev ⟨1, x2, x3, u⟩) rfl ?_; rintro v V' ⟨rfl, rfl⟩; simp only [lapp, List.map_nil, rn, rnL]
    generalize hp : putSlot ⟨1, x2, x3, u⟩ = q at *
    cbv
    refine Ops.call _ [0] (eCas_ev m e a w q) rfl rfl rfl ⟨.inr (by rw [← hM]; rfl), trivial⟩ ?_; rintro v V' ⟨rfl, rfl⟩; simp only [layB, lset, lapp, List.map_nil, List.map_cons, rnB_bx, rn, rnL]; clear hM; generalize hM : bx W0 (memU _) = M
    generalize hr : ecas e m a w q = r at *
    obtain ⟨r1, m'⟩ := r
    simp only at hM
    cbv
    rw [← hM]
    refine fin false ⟨⟨xk, xh, xi, xv, xo⟩, own, ⟨hs, hg⟩, 0, w, cell, seen, read, size, help, ⟨o1, o2, o3, o4⟩⟩ m' _ rfl ?_
    rw [← hR]; simp [AccessS.step, hx, hu, ha, hp, hr]
  · have hh1 := h4 rfl
    simp only at hh1
    obtain ⟨hp, rfl⟩ := Option.isSome_iff_exists.1 hh1
    clear h4 hh1
    simp only [optP, optB] at *
    generalize hP : bx W0 (helpU hp) = P at *
    (cbv; repeat' (first | (refine mt (fun h => ?_) (fun h => ?_) <;> first | (exfalso; simp [Ops.cmp_eq, Ops.not_eq, icmp] at h; done) | (try cbv)) | fail))
    refine Ops.call _ [0, 2] (Help_ev m e hp) rfl rfl rfl ⟨.inr (by rw [← hM]; rfl), .inr (by rw [← hP]; rfl), trivial⟩ ?_
    rintro v V' ⟨rfl, rfl⟩
    generalize hr : hp.step e m = r at *
    obtain ⟨rb, hp', m'⟩ := r
    simp only [layB, lset, lapp, List.map_nil, List.map_cons, rnB_bx, rn]
    clear hM hP
    generalize hM : bx W0 (memU m') = M
    generalize hP : bx W0 (helpU hp') = P
    cases rb
    all_goals cbv
    · refine hQ _ _ (ReV.access (s := ⟨⟨xk, xh, xi, xv, xo⟩, own, ⟨hs, hg⟩, 4, w, cell, seen, read, size, some hp', ⟨o1, o2, o3, o4⟩⟩) 2 hM rfl rfl rfl rfl (.inr (by rw [← hP]; rfl)) (fun _ => rfl) ⟨?_, ?_⟩)
      all_goals (rw [← hR]; simp [AccessS.step, hr])
    · refine hQ _ _ (ReV.access (s := ⟨⟨xk, xh, xi, xv, xo⟩, own, ⟨hs, hg⟩, 0, w, cell, seen, read, size, some hp', ⟨o1, o2, o3, o4⟩⟩) 2 hM rfl rfl rfl rfl (.inr (by rw [← hP]; rfl)) (fun _ => rfl) ⟨?_, ?_⟩)
      all_goals (rw [← hR]; simp [AccessS.step, hr])
  · generalize hvh : optP 2 help = vh at *
    generalize hP : optB W0 helpU help = P at *
    (cbv; repeat' (first | (refine mt (fun h => ?_) (fun h => ?_) <;> first | (exfalso; simp [Ops.cmp_eq, Ops.not_eq, icmp] at h; done) | (try cbv)) | fail))
    refine Ops.evI _ (ev175 rfl fun o => ?_)
    cbv
    refine Ops.call0 _ (Slot_ev w) rfl ?_; rintro v V' ⟨rfl, rfl⟩; simp only [lapp, List.map_nil, rn, rnL]
    generalize hx : slotOf w = x at *
    obtain ⟨x1, x2, x3, x4⟩ := x
    cbv
    simp only [Ops.ar_eq, arith, w64_addl]
    generalize hat : IntKind.i64.wrap (x2 + 1 + xi) = at_ at *
    refine Ops.call0 _ (PutCell_ev ⟨xv, false, 0⟩) rfl ?_; rintro v V' ⟨rfl, rfl⟩; simp only [lapp, List.map_nil, rn, rnL]
    generalize hp : putCell ⟨xv, false, 0⟩ = q at *
    cbv
    refine Ops.call _ [0] (eCas_ev m e at_ cell q) rfl rfl rfl ⟨.inr (by rw [← hM]; rfl), trivial⟩ ?_; rintro v V' ⟨rfl, rfl⟩; simp only [layB, lset, lapp, List.map_nil, List.map_cons, rnB_bx, rn, rnL]; clear hM; generalize hM : bx W0 (memU _) = M
    generalize hr : ecas e m at_ cell q = r at *
    obtain ⟨r1, m'⟩ := r
    simp only at hM
    cases r1
    all_goals cbv
    · rw [← hM]
      refine fin false ⟨⟨xk, xh, xi, xv, xo⟩, own, ⟨hs, hg⟩, 0, w, cell, seen, read, size, help, ⟨o1, o2, o3, o4⟩⟩ m' _ rfl ?_
      rw [← hR]; simp [AccessS.step, AccessS.at, hx, hat, hp, hr]
    · refine Ops.call0 _ (Cell_ev cell) rfl ?_; rintro v V' ⟨rfl, rfl⟩; simp only [lapp, List.map_nil, rn, rnL]
      generalize hc : cellOf cell = c at *
      obtain ⟨c1, c2, c3⟩ := c
      cbv
      refine Ops.call _ [0] (eNow_ev m' e) rfl rfl rfl ⟨.inr (by rw [← hM]; rfl), trivial⟩ ?_
      rintro v V' ⟨rfl, rfl⟩
      simp only [layB, lset, lapp, List.map_nil, List.map_cons, rnB_bx, rn, rnL]
      rw [hM]
      cbv
      refine Ops.evI _ (ev176 rfl fun o => ?_)
      cbv
      rw [← hM]
      refine fin true ⟨⟨xk, xh, xi, xv, xo⟩, own, ⟨hs, hg⟩, 0, w, cell, seen, read, size, help, ⟨0, 0, c1, m'.steps⟩⟩ m' _ rfl ?_
      rw [← hR]; simp [AccessS.step, AccessS.at, hx, hat, hp, hr, hc]
  · generalize hvh : optP 2 help = vh at *
    generalize hP : optB W0 helpU help = P at *
    (cbv; repeat' (first | (refine mt (fun h => ?_) (fun h => ?_) <;> first | (exfalso; simp [Ops.cmp_eq, icmp] at h; omega) | (try cbv)) | fail))
    refine Ops.evI _ (ev178 rfl fun o => ?_)
    cbv
    refine Ops.call0 _ (lSlot_ev e.c hs) rfl ?_; rintro v V' ⟨rfl, rfl⟩; simp only [lapp, List.map_nil, rn, rnL]
    generalize ha : slotA e.c hs = a at *
    cbv
    refine Ops.call _ [0] (eLoad_ev m e a) rfl rfl rfl ⟨.inr (by rw [← hM]; rfl), trivial⟩ ?_; rintro v V' ⟨rfl, rfl⟩; simp only [layB, lset, lapp, List.map_nil, List.map_cons, rnB_bx, rn, rnL]; clear hM; generalize hM : bx W0 (memU _) = M
    generalize hr : eld e m a = r at *
    obtain ⟨r1, m'⟩ := r
    simp only at hM
    cbv
    refine Ops.call0 _ (Slot_ev r1) rfl ?_; rintro v V' ⟨rfl, rfl⟩; simp only [lapp, List.map_nil, rn, rnL]
    generalize hx : slotOf r1 = x at *
    obtain ⟨x1, x2, x3, x4⟩ := x
    cbv
    refine Ops.call0 _ (Cell_ev cell) rfl ?_; rintro v V' ⟨rfl, rfl⟩; simp only [lapp, List.map_nil, rn, rnL]
    generalize hc : cellOf cell = c at *
    obtain ⟨c1, c2, c3⟩ := c
    cbv
    refine Ops.call0 _ (Live_ev ⟨x1, x2, x3, x4⟩ ⟨hs, hg⟩) rfl ?_; rintro v V' ⟨rfl, rfl⟩; simp only [lapp, List.map_nil, rn, rnL]
    generalize hl : live ⟨x1, x2, x3, x4⟩ ⟨hs, hg⟩ = l at *
    cases l
    all_goals (cbv; repeat' (first | (refine mt (fun h => ?_) (fun h => ?_) <;> first | (exfalso; simp [Ops.cmp_eq, Ops.not_eq, icmp] at h; done) | (try cbv)) | fail))
    · refine Ops.call _ [0] (eNow_ev m' e) rfl rfl rfl ⟨.inr (by rw [← hM]; rfl), trivial⟩ ?_
      rintro v V' ⟨rfl, rfl⟩
      simp only [layB, lset, lapp, List.map_nil, List.map_cons, rnB_bx, rn, rnL]
      rw [hM]
      cbv
      refine Ops.evI _ (ev176 rfl fun o => ?_)
      cbv
      rw [← hM]
      refine fin true ⟨⟨xk, xh, xi, xv, xo⟩, own, ⟨hs, hg⟩, n + 6, w, cell, seen, read, size, help, ⟨3, 0, 0, m'.steps⟩⟩ m' _ rfl ?_
      rw [← hR]; simp [AccessS.step, ha, hr, hx, hc, hl]
    · refine Ops.call0 _ (Slot_ev w) rfl ?_; rintro v V' ⟨rfl, rfl⟩; simp only [lapp, List.map_nil, rn, rnL]
      generalize hy : slotOf w = y at *
      obtain ⟨y1, y2, y3, y4⟩ := y
      (cbv; repeat' (first | (refine mt (fun h => ?_) (fun h => ?_) <;> (try cbv)) | fail))
      · have h1 : x2 ≠ y2 := by simpa [Ops.cmp_eq, icmp] using h
        rw [← hM]
        refine fin false ⟨⟨xk, xh, xi, xv, xo⟩, own, ⟨hs, hg⟩, 0, w, cell, seen, read, size, help, ⟨o1, o2, o3, o4⟩⟩ m' _ rfl ?_
        rw [← hR]; simp [AccessS.step, ha, hr, hx, hc, hl, hy, h1]
      · rename_i h1
        obtain rfl : x2 = y2 := by simpa [Ops.cmp_eq, icmp] using h1
        have h2 : xk = 3 := by simpa [Ops.cmp_eq, icmp] using h
        refine Ops.evI _ (ev176 rfl fun o => ?_)
        cbv
        rw [← hM]
        refine fin true ⟨⟨xk, xh, xi, xv, xo⟩, own, ⟨hs, hg⟩, n + 6, w, cell, seen, read, size, help, ⟨8, 0, c1, read⟩⟩ m' _ rfl ?_
        rw [← hR]; simp [AccessS.step, ha, hr, hx, hc, hl, hy, h2]
      · rename_i h1
        obtain rfl : x2 = y2 := by simpa [Ops.cmp_eq, icmp] using h1
        have h2 : xk ≠ 3 := by simpa [Ops.cmp_eq, icmp] using h
        refine Ops.evI _ (ev176 rfl fun o => ?_)
        cbv
        rw [← hM]
        refine fin true ⟨⟨xk, xh, xi, xv, xo⟩, own, ⟨hs, hg⟩, n + 6, w, cell, seen, read, size, help, ⟨0, 0, c1, read⟩⟩ m' _ rfl ?_
        rw [← hR]; simp [AccessS.step, ha, hr, hx, hc, hl, hy, h2]
end Go.Proofs.YtglghdjpkecngaaGreat
