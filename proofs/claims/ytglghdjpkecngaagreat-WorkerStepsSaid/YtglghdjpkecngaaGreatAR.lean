/- drop: somebody who lets an object go. -/
import Derived.Test.YtglghdjpkecngaaGreatAQ
namespace Go.Proofs.YtglghdjpkecngaaGreat
set_option linter.unusedVariables false
set_option linter.unusedSimpArgs false
open Go Go.SL Go.FL
set_option maxRecDepth 100000
theorem Live_ev {W0 : World} (s : SlotS) (h : HandleS) : Ev Tryz.prog W0 171 [.agg [.int .i64 s.state, .int .i64 s.addr, .int .i64 s.gen, .int .i64 s.ver], .agg [.int .i64 h.slot, .int .i64 h.gen]] [] (fun v V' => v = .bool (live s h) ∧ V' = []) := by
  refine Ev.out fun Q' hQ => ev171 rfl fun o => ?_
  generalize hR : live s h = R at hQ
  obtain ⟨s1, s2, s3, s4⟩ := s
  obtain ⟨h1, h2⟩ := h
  simp only [live] at hR
  (cbv; repeat' (first | (refine mt (fun h => ?_) (fun h => ?_) <;> (try cbv)) | fail))
  all_goals (simp only [Ops.cmp_eq, Ops.ar_eq, icmp] at *)
  all_goals (refine hQ _ _ (ReV.none rfl ⟨?_, rfl⟩); subst hR; simp_all; try rfl)
theorem newHelp_ev {W0 : World} (a : Int) (w : Nat) (z : Int) : Ev Tryz.prog W0 167 [.int .i64 a, .int .u64 w, .int .i64 z] [] (fun v V' => v = .ptr 0 0 ∧ V' = [bx W0 (helpU (newHelp a w z))]) := by
  refine Ev.out fun Q' hQ => ev167 rfl fun o => ?_
  cbv
  exact hQ _ _ (ReV.shut 0 [] (helpU (newHelp a w z)) rfl rfl ⟨.inr rfl, trivial⟩ (ReV.id ⟨rfl, rfl⟩))
theorem Help_ev {W0 : World} (m : MemS) (e : EnvS) (s : HelpS) : Ev Tryz.prog W0 169 [.ptr 1 0, e.v 0] [bx W0 (memU m), bx W0 (helpU s)] (fun v V' => v = .bool (s.step e m).1 ∧ V' = [bx W0 (memU (s.step e m).2.2), bx W0 (helpU (s.step e m).2.1)]) := by
  generalize hR : s.step e m = R
  refine Ev.outB 1 (U := helpU s) rfl fun Q' hQ => ?_
  generalize hM : bx W0 (memU m) = M at *
  refine ev169 rfl fun o => ?_
  obtain ⟨slot, w, size, i, cell, read, won⟩ := s
  cbv
  refine Ops.call0 _ (Slot_ev w) rfl ?_; rintro v V' ⟨rfl, rfl⟩; simp only [lapp, List.map_nil, rn, rnL]
  generalize hx : slotOf w = x at *
  obtain ⟨x1, x2, x3, x4⟩ := x
  cbv
  simp only [Ops.ar_eq, arith, w64_addl]
  generalize hat : IntKind.i64.wrap (x2 + 1 + i) = at_ at *
  refine Ops.call0 _ (Cell_ev cell) rfl ?_; rintro v V' ⟨rfl, rfl⟩; simp only [lapp, List.map_nil, rn, rnL]
  generalize hc : cellOf cell = c at *
  obtain ⟨c1, c2, c3⟩ := c
  (cbv; repeat' (first | (refine mt (fun h => ?_) (fun h => ?_) <;> (try cbv)) | fail))
  · rename_i h1
    have h1' : size ≤ i := by simpa [Ops.cmp_eq, icmp] using h1
    have h2' : e.c.gens ≤ x3 := by simpa [Ops.cmp_eq, icmp] using h
    refine Ops.call0 _ (lSlot_ev e.c slot) rfl ?_; rintro v V' ⟨rfl, rfl⟩; simp only [lapp, List.map_nil, rn, rnL]
    generalize ha : slotA e.c slot = a at *
    cbv
    refine Ops.call0 _ (PutSlot_ev ⟨3, 0, x3, 0⟩) rfl ?_; rintro v V' ⟨rfl, rfl⟩; simp only [lapp, List.map_nil, rn, rnL]
    generalize hp : putSlot ⟨3, 0, x3, 0⟩ = q at *
    cbv
    refine Ops.call _ [0] (eCas_ev m e a w q) rfl rfl rfl ⟨.inr (by rw [← hM]; rfl), trivial⟩ ?_; rintro v V' ⟨rfl, rfl⟩; simp only [layB, lset, lapp, List.map_nil, List.map_cons, rnB_bx, rn, rnL]; clear hM; generalize hM : bx W0 (memU _) = M
    generalize hr : ecas e m a w q = r at *
    obtain ⟨r1, m'⟩ := r
    cbv
    refine hQ _ _ (ReV.m1 hM rfl (fun _ => rfl) (fun _ => rfl) ⟨?_, ?_⟩) <;> simp [← hR, HelpS.step, hx, h1', h2', ha, hp, hr, helpU]
  · rename_i h1
    have h1' : size ≤ i := by simpa [Ops.cmp_eq, icmp] using h1
    have h2' : ¬ e.c.gens ≤ x3 := by simpa [Ops.cmp_eq, icmp] using h
    simp only [Ops.ar_eq, arith]
    generalize hu : IntKind.i64.wrap (x3 + 1) = u at *
    refine Ops.call0 _ (lSlot_ev e.c slot) rfl ?_; rintro v V' ⟨rfl, rfl⟩; simp only [lapp, List.map_nil, rn, rnL]
    generalize ha : slotA e.c slot = a at *
    cbv
    refine Ops.call0 _ (PutSlot_ev ⟨0, 0, u, 0⟩) rfl ?_; rintro v V' ⟨rfl, rfl⟩; simp only [lapp, List.map_nil, rn, rnL]
    generalize hp : putSlot ⟨0, 0, u, 0⟩ = q at *
    cbv
    refine Ops.call _ [0] (eCas_ev m e a w q) rfl rfl rfl ⟨.inr (by rw [← hM]; rfl), trivial⟩ ?_; rintro v V' ⟨rfl, rfl⟩; simp only [layB, lset, lapp, List.map_nil, List.map_cons, rnB_bx, rn, rnL]; clear hM; generalize hM : bx W0 (memU _) = M
    generalize hr : ecas e m a w q = r at *
    obtain ⟨r1, m'⟩ := r
    cbv
    refine hQ _ _ (ReV.m1 hM rfl (fun _ => rfl) (fun _ => rfl) ⟨?_, ?_⟩) <;> simp [← hR, HelpS.step, hx, h1', h2', hu, ha, hp, hr, helpU]
  · rename_i h1
    have h1' : ¬ size ≤ i := by simpa [Ops.cmp_eq, icmp] using h1
    obtain rfl : read = false := by simpa [Ops.not_eq] using h
    refine Ops.call _ [0] (eLoad_ev m e at_) rfl rfl rfl ⟨.inr (by rw [← hM]; rfl), trivial⟩ ?_; rintro v V' ⟨rfl, rfl⟩; simp only [layB, lset, lapp, List.map_nil, List.map_cons, rnB_bx, rn, rnL]; clear hM; generalize hM : bx W0 (memU _) = M
    generalize hr : eld e m at_ = r at *
    obtain ⟨r1, m'⟩ := r
    cbv
    refine Ops.call0 _ (Cell_ev r1) rfl ?_; rintro v V' ⟨rfl, rfl⟩; simp only [lapp, List.map_nil, rn, rnL]
    generalize hd : cellOf r1 = d at *
    obtain ⟨d1, d2, d3⟩ := d
    cases d2
    all_goals (cbv; repeat' (first | (refine mt (fun h => ?_) (fun h => ?_) <;> first | (exfalso; simp [Ops.cmp_eq, Ops.not_eq, icmp] at h; done) | (try cbv)) | fail))
    · refine hQ _ _ (ReV.m1 hM rfl (fun _ => rfl) (fun _ => rfl) ⟨?_, ?_⟩) <;> simp [← hR, HelpS.step, hx, h1', hat, hr, hd, helpU]
    · obtain rfl : d3 = x4 := by simpa [Ops.not_eq, Ops.cmp_eq, icmp] using h
      (simp only [Ops.cmp_eq, Ops.ar_eq, Ops.wr_eq, Ops.not_eq, Ops.beq_eq, icmp, arith, bne, decide_eq_true_eq, decide_eq_false_iff_not] at *); (try simp only [cfix] at *); (try simp only [Int.ofNat_eq_natCast] at *)
      refine hQ _ _ (ReV.m1 hM rfl (fun _ => rfl) (fun _ => rfl) ⟨?_, ?_⟩) <;> simp [← hR, HelpS.step, hx, h1', hat, hr, hd, helpU]
    · have hne : d3 ≠ x4 := by simpa [Ops.not_eq, Ops.cmp_eq, icmp] using h
      have hb : (d3 == x4) = false := by simpa using hne
      (simp only [Ops.cmp_eq, Ops.ar_eq, Ops.wr_eq, Ops.not_eq, Ops.beq_eq, icmp, arith, bne, decide_eq_true_eq, decide_eq_false_iff_not] at *); (try simp only [cfix] at *); (try simp only [Int.ofNat_eq_natCast] at *)
      refine hQ _ _ (ReV.m1 hM rfl (fun _ => rfl) (fun _ => rfl) ⟨?_, ?_⟩) <;> simp [← hR, HelpS.step, hx, h1', hat, hr, hd, hne, hb, helpU]
  · rename_i h1
    have h1' : ¬ size ≤ i := by simpa [Ops.cmp_eq, icmp] using h1
    obtain rfl : read = true := by simpa [Ops.not_eq] using h
    refine Ops.call0 _ (PutCell_ev ⟨c1, true, x4⟩) rfl ?_; rintro v V' ⟨rfl, rfl⟩; simp only [lapp, List.map_nil, rn, rnL]
    generalize hp : putCell ⟨c1, true, x4⟩ = q at *
    cbv
    refine Ops.call _ [0] (eCas_ev m e at_ cell q) rfl rfl rfl ⟨.inr (by rw [← hM]; rfl), trivial⟩ ?_; rintro v V' ⟨rfl, rfl⟩; simp only [layB, lset, lapp, List.map_nil, List.map_cons, rnB_bx, rn, rnL]; clear hM; generalize hM : bx W0 (memU _) = M
    generalize hr : ecas e m at_ cell q = r at *
    obtain ⟨r1, m'⟩ := r
    cases r1
    all_goals cbv
    · refine hQ _ _ (ReV.m1 hM rfl (fun _ => rfl) (fun _ => rfl) ⟨?_, ?_⟩) <;> simp [← hR, HelpS.step, hx, h1', hat, hc, hp, hr, helpU]
    · (simp only [Ops.cmp_eq, Ops.ar_eq, Ops.wr_eq, Ops.not_eq, Ops.beq_eq, icmp, arith, bne, decide_eq_true_eq, decide_eq_false_iff_not] at *); (try simp only [cfix] at *); (try simp only [Int.ofNat_eq_natCast] at *)
      refine hQ _ _ (ReV.m1 hM rfl (fun _ => rfl) (fun _ => rfl) ⟨?_, ?_⟩) <;> simp [← hR, HelpS.step, hx, h1', hat, hc, hp, hr, helpU]
def dropC (s : DropS) (vh vg : VV) : VB := .cells [.int .u64 s.n, .bool s.own, .int .i64 s.h.slot, .int .i64 s.h.gen, .int .i64 s.pc, .int .u64 s.w, .int .i64 s.size, vh, vg,
    .int .i64 s.out.e, .int .u64 s.out.h, .int .i64 s.out.v, .int .i64 s.out.s]
theorem dropU_open {W0 : World} {M : VB} (s : DropS) : layB (rho [1] [M, bx W0 (dropU W0 s)].length) [M, bx W0 (dropU W0 s)] [1] (dropU W0 s) = [M, dropC s (optP 2 s.help) (optP 3 s.give), optB W0 helpU s.help, optB W0 giveU s.give] := by
  simp only [layB, lset, lapp, dropU, rnB_optB, List.map_cons, List.map_nil]
  simp only [rnB, rnL, rn, rn_optP]
  rfl
theorem lget_emps {V : List VB} {B : VB} {k i : Nat} {qs : List Nat} (hn : hasNat (k :: qs) i = false) : lget (emps (lset V k B) qs) i = lget V i := by
  have hk : i ≠ k := by rintro rfl; rw [hasNat, Nat.beq_refl] at hn; cases hn
  have hq : ¬ i ∈ qs := by
    intro hm
    have : hasNat (k :: qs) i = true := hasNat_iff.2 (List.mem_cons_of_mem _ hm)
    rw [this] at hn; cases hn
  rw [lget_eq, lget_eq, emps_get, if_neg (fun h => hq h.1), lset_eq, List.getElem?_set_ne (Ne.symm hk)]
theorem lget_emps_at {V : List VB} {B : VB} {k : Nat} {qs : List Nat} (hd : nodupB (k :: qs) = true) (hl : k < V.length) : lget (emps (lset V k B) qs) k = some B := by
  have hq : ¬ k ∈ qs := by
    intro hm
    simp only [nodupB, hasNat_iff.2 hm] at hd
    cases hd
  rw [lget_eq, emps_get, if_neg (fun h => hq h.1), lset_eq, List.getElem?_set_self hl]
theorem ReV.drop {W0 : World} {Q : VV → List VB → Prop} {v : VV} {M : VB} {m : MemS} {s : DropS} {V : List VB} (q1 q2 : Nat) (hM : bx W0 (memU m) = M) (h0 : lget V 0 = some M) (h1 : lget V 1 = some (dropC s (optP q1 s.help) (optP q2 s.give)))
    (hd : nodupB [1, q1, q2] = true) (hz : hasNat [1, q1, q2] 0 = false) (hp : s.help = none ∨ lget V q1 = some (optB W0 helpU s.help)) (hg : s.give = none ∨ lget V q2 = some (optB W0 giveU s.give)) (hv : ∀ n, rn (rho [0, 1] n) v = v) (hq : Q v [bx W0 (memU m), bx W0 (dropU W0 s)]) : ReV W0 2 Q v V := by
  subst hM
  have e0 : ∀ n, rho [1, q1, q2] n 1 = q1 := fun _ => rfl
  have e1 : ∀ n, rho [1, q1, q2] n 2 = q2 := fun _ => rfl
  have hl : 1 < V.length := by rw [lget_eq] at h1; exact (List.getElem?_eq_some_iff.1 h1).1
  refine ReV.shut 1 [q1, q2] (dropU W0 s) hd (by rw [h1]; rfl) ⟨.inr ?_, ?_, ?_, trivial⟩ ?_
  · rw [h1]
    simp only [rnB, rnL, rn, rn_optP, e0, e1, dropC]
  · rcases hp with hp | hp
    · left; rw [hp]; rfl
    · right; rw [hp, rnB_optB]
  · rcases hg with hg | hg
    · left; rw [hg]; rfl
    · right; rw [hg, rnB_optB]
  · exact ReV.ren [0, 1] v [bx W0 (memU m), bx W0 (dropU W0 s)] rfl rfl (hv _).symm ⟨.inr ((lget_emps hz).trans h0), .inr (lget_emps_at hd hl), trivial⟩ hq
theorem Drop_ev {W0 : World} (m : MemS) (e : EnvS) (s : DropS) (h34 : s.pc = 3 ∨ s.pc = 4 → s.help.isSome = true) (h5 : s.pc = 5 → 0 ≤ classA s.size ∧ e.c.words ≠ 0) (h6 : 6 ≤ s.pc → s.give.isSome = true) :
    Ev Tryz.prog W0 163 [.ptr 1 0, e.v 0] [bx W0 (memU m), bx W0 (dropU W0 s)] (fun v V' => v = .bool (s.step e m).1 ∧ V' = [bx W0 (memU (s.step e m).2.2), bx W0 (dropU W0 (s.step e m).2.1)]) := by
  generalize hR : s.step e m = R
  refine Ev.outB 1 (U := dropU W0 s) rfl fun Q' hQ => ?_
  generalize hM : bx W0 (memU m) = M at *
  rw [dropU_open]
  refine ev163 rfl fun o => ?_
  have hT := Two.of (W0 := W0) helpU giveU s.help s.give
  obtain ⟨n0, own, ⟨hs, hg⟩, pc, w, size, help, give, ⟨o1, o2, o3, o4⟩⟩ := s
  have hpc : pc = 0 ∨ pc = 1 ∨ pc = 2 ∨ pc = 3 ∨ pc = 4 ∨ pc = 5 ∨ ∃ n, pc = n + 6 := by rcases pc with _ | _ | _ | _ | _ | _ | n <;> simp
  have fin : ∀ (b : Bool) (S : DropS) (m' : MemS) (rest : List VB), S.help = help → S.give = give → R = (b, S, m') → Q' (.bool b) (bx W0 (memU m') :: dropC S (optP 2 help) (optP 3 give) :: optB W0 helpU help :: optB W0 giveU give :: rest) := by
    rintro b S m' rest rfl rfl rfl
    exact hQ _ _ (ReV.drop 2 3 rfl rfl rfl rfl rfl (.inr rfl) (.inr rfl) (fun _ => rfl) ⟨rfl, rfl⟩)
  rcases hpc with rfl | rfl | rfl | rfl | rfl | rfl | ⟨n, rfl⟩
  · generalize optP 2 help = vh at *
    generalize optP 3 give = vg at *
    generalize optB W0 helpU help = P at *
    generalize optB W0 giveU give = G at *
    cbv
    refine Ops.call0 _ (lSlot_ev e.c hs) rfl ?_; rintro v V' ⟨rfl, rfl⟩; simp only [lapp, List.map_nil, rn, rnL]
    generalize slotA e.c hs = a0 at *
    (cbv; repeat' (first | (refine mt (fun h => ?_) (fun h => ?_) <;> first | (exfalso; simp [Ops.cmp_eq, Ops.not_eq, icmp] at h; done) | (try cbv)) | fail))
    refine Ops.evI _ (ev164 rfl fun o => ?_)
    cbv
    refine Ops.call0 _ (Handle_ev n0) rfl ?_; rintro v V' ⟨rfl, rfl⟩; simp only [lapp, List.map_nil, rn, rnL]
    generalize hh : handleOf n0 = hn at *
    obtain ⟨⟨k1, k2⟩, is⟩ := hn
    cases is
    all_goals (cbv; repeat' (first | (refine mt (fun h => ?_) (fun h => ?_) <;> first | (exfalso; simp [Ops.cmp_eq, Ops.not_eq, icmp] at h; done) | (try cbv)) | fail))
    · have hz : (⟨k1, k2⟩ : HandleS) = ⟨k1, k2⟩ := rfl
      refine Ops.evI _ (ev166 rfl fun o => ?_)
      cbv
      refine Ops.call _ [0] (eNow_ev m e) rfl rfl rfl ⟨.inr (by rw [← hM]; rfl), trivial⟩ ?_
      rintro v V' ⟨rfl, rfl⟩
      simp only [layB, lset, lapp, List.map_nil, List.map_cons, rnB_bx, rn, rnL]
      rw [hM]
      cbv
      rw [← hM]
      refine fin true ⟨n0, own, ⟨k1, k2⟩, 0, w, size, help, give, ⟨3, 0, 0, m.steps⟩⟩ m _ rfl rfl ?_
      rw [← hR]; simp [DropS.step, hh]
    · have hk : e.c.slots ≤ k1 := by simpa [Ops.cmp_eq, icmp] using h
      refine Ops.evI _ (ev166 rfl fun o => ?_)
      cbv
      refine Ops.call _ [0] (eNow_ev m e) rfl rfl rfl ⟨.inr (by rw [← hM]; rfl), trivial⟩ ?_
      rintro v V' ⟨rfl, rfl⟩
      simp only [layB, lset, lapp, List.map_nil, List.map_cons, rnB_bx, rn, rnL]
      rw [hM]
      cbv
      rw [← hM]
      refine fin true ⟨n0, own, ⟨k1, k2⟩, 0, w, size, help, give, ⟨3, 0, 0, m.steps⟩⟩ m _ rfl rfl ?_
      rw [← hR]; simp [DropS.step, hh, hk]
    · have hk : ¬ e.c.slots ≤ k1 := by simpa [Ops.cmp_eq, icmp] using h
      refine Ops.call0 _ (lSlot_ev e.c k1) rfl ?_; rintro v V' ⟨rfl, rfl⟩; simp only [lapp, List.map_nil, rn, rnL]
      generalize ha : slotA e.c k1 = a at *
      cbv
      refine Ops.call _ [0] (eLoad_ev m e a) rfl rfl rfl ⟨.inr (by rw [← hM]; rfl), trivial⟩ ?_; rintro v V' ⟨rfl, rfl⟩; simp only [layB, lset, lapp, List.map_nil, List.map_cons, rnB_bx, rn, rnL]; clear hM; generalize hM : bx W0 (memU _) = M
      generalize hr : eld e m a = r at *
      obtain ⟨r1, m'⟩ := r
      cbv
      refine Ops.call0 _ (Slot_ev r1) rfl ?_; rintro v V' ⟨rfl, rfl⟩; simp only [lapp, List.map_nil, rn, rnL]
      generalize hx : slotOf r1 = x at *
      obtain ⟨x1, x2, x3, x4⟩ := x
      cbv
      refine Ops.call0 _ (Live_ev ⟨x1, x2, x3, x4⟩ ⟨k1, k2⟩) rfl ?_; rintro v V' ⟨rfl, rfl⟩; simp only [lapp, List.map_nil, rn, rnL]
      generalize hl : live ⟨x1, x2, x3, x4⟩ ⟨k1, k2⟩ = l at *
      cases l
      all_goals (cbv; repeat' (first | (refine mt (fun h => ?_) (fun h => ?_) <;> first | (exfalso; simp [Ops.cmp_eq, Ops.not_eq, icmp] at h; done) | (try cbv)) | fail))
      · refine Ops.evI _ (ev166 rfl fun o => ?_)
        cbv
        refine Ops.call _ [0] (eNow_ev m' e) rfl rfl rfl ⟨.inr (by rw [← hM]; rfl), trivial⟩ ?_
        rintro v V' ⟨rfl, rfl⟩
        simp only [layB, lset, lapp, List.map_nil, List.map_cons, rnB_bx, rn, rnL]
        rw [hM]
        cbv
        rw [← hM]
        refine fin true ⟨n0, own, ⟨k1, k2⟩, 0, r1, size, help, give, ⟨3, 0, 0, m'.steps⟩⟩ m' _ rfl rfl ?_
        rw [← hR]; simp [DropS.step, hh, hk, ha, hr, hx, hl]
      · rw [← hM]
        refine fin false ⟨n0, own, ⟨k1, k2⟩, 1, r1, size, help, give, ⟨o1, o2, o3, o4⟩⟩ m' _ rfl rfl ?_
        rw [← hR]; simp [DropS.step, hh, hk, ha, hr, hx, hl]
  · generalize hvh : optP 2 help = vh at *
    generalize hvg : optP 3 give = vg at *
    generalize hP : optB W0 helpU help = P at *
    generalize hG : optB W0 giveU give = G at *
    cbv
    refine Ops.call0 _ (lSlot_ev e.c hs) rfl ?_; rintro v V' ⟨rfl, rfl⟩; simp only [lapp, List.map_nil, rn, rnL]
    generalize ha0 : slotA e.c hs = a0 at *
    (cbv; repeat' (first | (refine mt (fun h => ?_) (fun h => ?_) <;> first | (exfalso; simp [Ops.cmp_eq, Ops.not_eq, icmp] at h; done) | (try cbv)) | fail))
    refine Ops.call0 _ (Slot_ev w) rfl ?_; rintro v V' ⟨rfl, rfl⟩; simp only [lapp, List.map_nil, rn, rnL]
    generalize hx : slotOf w = x at *
    obtain ⟨x1, x2, x3, x4⟩ := x
    cbv
    refine Ops.call _ [0] (eLoad_ev m e x2) rfl rfl rfl ⟨.inr (by rw [← hM]; rfl), trivial⟩ ?_; rintro v V' ⟨rfl, rfl⟩; simp only [layB, lset, lapp, List.map_nil, List.map_cons, rnB_bx, rn, rnL]; clear hM; generalize hM : bx W0 (memU _) = M
    generalize hr : eld e m x2 = r at *
    obtain ⟨r1, m'⟩ := r
    cbv
    refine Ops.call0 _ (Head_ev r1) rfl ?_; rintro v V' ⟨rfl, rfl⟩; simp only [lapp, List.map_nil, rn, rnL]
    generalize hy : headOf r1 = y at *
    obtain ⟨y1, y2, y3, y4, y5⟩ := y
    (cbv; repeat' (first | (refine mt (fun h => ?_) (fun h => ?_) <;> (try cbv)) | fail))
    · have ho : y5 ≠ own := by simpa [Ops.not_eq, Ops.beq_eq] using h
      refine Ops.evI _ (ev166 rfl fun o => ?_)
      cbv
      refine Ops.call _ [0] (eNow_ev m' e) rfl rfl rfl ⟨.inr (by rw [← hM]; rfl), trivial⟩ ?_
      rintro v V' ⟨rfl, rfl⟩
      simp only [layB, lset, lapp, List.map_nil, List.map_cons, rnB_bx, rn, rnL]
      rw [hM]
      cbv
      rw [← hM]
      refine fin true ⟨n0, own, ⟨hs, hg⟩, 1, w, size, help, give, ⟨3, 0, 0, m'.steps⟩⟩ m' _ rfl rfl ?_
      rw [← hR]; simp [DropS.step, hx, hr, hy, ho]
    · obtain rfl : y5 = own := by simpa [Ops.not_eq, Ops.beq_eq] using h
      refine Ops.call0 _ (Slot_ev w) rfl ?_; rintro v V' ⟨rfl, rfl⟩; simp only [lapp, List.map_nil, rn, rnL]
      rw [hx]
      (cbv; repeat' (first | (refine mt (fun h => ?_) (fun h => ?_) <;> (try cbv)) | fail))
      · have h4 : x1 = 4 := by simpa [Ops.cmp_eq, icmp] using h
        refine Ops.call _ [] (newHelp_ev hs w y2) rfl rfl rfl trivial ?_
        rintro v V' ⟨rfl, rfl⟩
        simp only [layB, lapp, List.map_cons, List.map_nil, rnB_bx]
        generalize hN : bx W0 (helpU (newHelp hs w y2)) = N
        cbv
        refine hQ _ _ (ReV.drop (s := ⟨n0, y5, ⟨hs, hg⟩, 4, w, y2, some (newHelp hs w y2), give, ⟨o1, o2, o3, o4⟩⟩) 6 3 hM rfl (by rw [← hvg]; rfl) rfl rfl (.inr (by rw [← hN]; rfl)) (.inr (by rw [← hG]; rfl)) (fun _ => rfl) ⟨?_, ?_⟩)
        all_goals (rw [← hR]; simp [DropS.step, hx, hr, hy, h4])
      · have h4 : x1 ≠ 4 := by simpa [Ops.cmp_eq, icmp] using h
        rw [← hM]
        refine fin false ⟨n0, y5, ⟨hs, hg⟩, 2, w, y2, help, give, ⟨o1, o2, o3, o4⟩⟩ m' _ rfl rfl ?_
        rw [← hR]; simp [DropS.step, hx, hr, hy, h4]
  · generalize hvh : optP 2 help = vh at *
    generalize hvg : optP 3 give = vg at *
    generalize hP : optB W0 helpU help = P at *
    generalize hG : optB W0 giveU give = G at *
    cbv
    refine Ops.call0 _ (lSlot_ev e.c hs) rfl ?_; rintro v V' ⟨rfl, rfl⟩; simp only [lapp, List.map_nil, rn, rnL]
    generalize ha : slotA e.c hs = a at *
    (cbv; repeat' (first | (refine mt (fun h => ?_) (fun h => ?_) <;> first | (exfalso; simp [Ops.cmp_eq, Ops.not_eq, icmp] at h; done) | (try cbv)) | fail))
    refine Ops.evI _ (ev168 rfl fun o => ?_)
    cbv
    refine Ops.call0 _ (Slot_ev w) rfl ?_; rintro v V' ⟨rfl, rfl⟩; simp only [lapp, List.map_nil, rn, rnL]
    generalize hx : slotOf w = x at *
    obtain ⟨x1, x2, x3, x4⟩ := x
    cbv
    simp only [Ops.ar_eq, arith]
    generalize hu : IntKind.i64.wrap (x4 + 1) = u at *
    refine Ops.call0 _ (PutSlot_ev ⟨4, x2, x3, u⟩) rfl ?_; rintro v V' ⟨rfl, rfl⟩; simp only [lapp, List.map_nil, rn, rnL]
    generalize hp : putSlot ⟨4, x2, x3, u⟩ = q at *
    cbv
    refine Ops.call0 _ (lSlot_ev e.c hs) rfl ?_; rintro v V' ⟨rfl, rfl⟩; simp only [lapp, List.map_nil, rn, rnL]
    rw [ha]
    cbv
    refine Ops.call _ [0] (eCas_ev m e a w q) rfl rfl rfl ⟨.inr (by rw [← hM]; rfl), trivial⟩ ?_; rintro v V' ⟨rfl, rfl⟩; simp only [layB, lset, lapp, List.map_nil, List.map_cons, rnB_bx, rn, rnL]; clear hM; generalize hM : bx W0 (memU _) = M
    generalize hr : ecas e m a w q = r at *
    obtain ⟨r1, m'⟩ := r
    cases r1
    all_goals cbv
    · rw [← hM]
      refine fin false ⟨n0, own, ⟨hs, hg⟩, 0, w, size, help, give, ⟨o1, o2, o3, o4⟩⟩ m' _ rfl rfl ?_
      rw [← hR]; simp [DropS.step, hx, hu, hp, ha, hr]
    · refine Ops.call _ [] (newHelp_ev hs q size) rfl rfl rfl trivial ?_
      rintro v V' ⟨rfl, rfl⟩
      simp only [layB, lapp, List.map_cons, List.map_nil, rnB_bx]
      generalize hN : bx W0 (helpU (newHelp hs q size)) = N
      cbv
      refine hQ _ _ (ReV.drop (s := ⟨n0, own, ⟨hs, hg⟩, 3, w, size, some (newHelp hs q size), give, ⟨o1, o2, o3, o4⟩⟩) 7 3 hM rfl (by rw [← hvg]; rfl) rfl rfl (.inr (by rw [← hN]; rfl)) (.inr (by rw [← hG]; rfl)) (fun _ => rfl) ⟨?_, ?_⟩)
      all_goals (rw [← hR]; simp [DropS.step, hx, hu, hp, ha, hr])
  · have hh1 := h34 (by simp)
    simp only at hh1
    obtain ⟨hp, rfl⟩ := Option.isSome_iff_exists.1 hh1
    clear h34 hh1
    generalize hvg : optP 3 give = vg at *
    generalize hG : optB W0 giveU give = G at *
    simp only [optP, optB] at *
    generalize hP : bx W0 (helpU hp) = P at *
    cbv
    refine Ops.call0 _ (lSlot_ev e.c hs) rfl ?_; rintro v V' ⟨rfl, rfl⟩; simp only [lapp, List.map_nil, rn, rnL]
    generalize ha : slotA e.c hs = a at *
    (cbv; repeat' (first | (refine mt (fun h => ?_) (fun h => ?_) <;> first | (exfalso; simp [Ops.cmp_eq, Ops.not_eq, icmp] at h; done) | (try cbv)) | fail))
    refine Ops.call _ [0, 2] (Help_ev m e hp) rfl rfl rfl ⟨.inr (by rw [← hM]; rfl), .inr (by rw [← hP]; rfl), trivial⟩ ?_
    rintro v V' ⟨rfl, rfl⟩
    generalize hr : hp.step e m = r at *
    obtain ⟨rb, hp', m'⟩ := r
    simp only [layB, lset, lapp, List.map_nil, List.map_cons, rnB_bx, rn]
    clear hM hP
    generalize hM : bx W0 (memU m') = M
    generalize hP : bx W0 (helpU hp') = P
    cases rb
    all_goals cbv
    · refine hQ _ _ (ReV.drop (s := ⟨n0, own, ⟨hs, hg⟩, 3, w, size, some hp', give, ⟨o1, o2, o3, o4⟩⟩) 2 3 hM rfl (by rw [← hvg]; rfl) rfl rfl (.inr (by rw [← hP]; rfl)) (.inr (by rw [← hG]; rfl)) (fun _ => rfl) ⟨?_, ?_⟩)
      all_goals (rw [← hR]; simp [DropS.step, hr])
    · refine Ops.call _ [0] (Ev.boxM (When_ev m' a) rfl) rfl rfl rfl ⟨.inr (by rw [← hM]; rfl), trivial⟩ ?_
      rintro v V' ⟨rfl, rfl⟩
      simp only [layB, lset, lapp, List.map_nil, List.map_cons, rnB_bx, rn, rnL]
      rw [hM]
      generalize hwn : m'.whenAt a = wn at *
      cbv
      refine hQ _ _ (ReV.drop (s := ⟨n0, own, ⟨hs, hg⟩, 5, w, size, some hp', give, ⟨0, 0, 0, wn⟩⟩) 2 3 hM rfl (by rw [← hvg]; rfl) rfl rfl (.inr (by rw [← hP]; rfl)) (.inr (by rw [← hG]; rfl)) (fun _ => rfl) ⟨?_, ?_⟩)
      all_goals (rw [← hR]; simp [DropS.step, hr, ha, hwn])
  · have hh1 := h34 (by simp)
    simp only at hh1
    obtain ⟨hp, rfl⟩ := Option.isSome_iff_exists.1 hh1
    clear h34 hh1
    generalize hvg : optP 3 give = vg at *
    generalize hG : optB W0 giveU give = G at *
    simp only [optP, optB] at *
    generalize hP : bx W0 (helpU hp) = P at *
    cbv
    refine Ops.call0 _ (lSlot_ev e.c hs) rfl ?_; rintro v V' ⟨rfl, rfl⟩; simp only [lapp, List.map_nil, rn, rnL]
    generalize ha : slotA e.c hs = a at *
    (cbv; repeat' (first | (refine mt (fun h => ?_) (fun h => ?_) <;> first | (exfalso; simp [Ops.cmp_eq, Ops.not_eq, icmp] at h; done) | (try cbv)) | fail))
    refine Ops.call _ [0, 2] (Help_ev m e hp) rfl rfl rfl ⟨.inr (by rw [← hM]; rfl), .inr (by rw [← hP]; rfl), trivial⟩ ?_
    rintro v V' ⟨rfl, rfl⟩
    generalize hr : hp.step e m = r at *
    obtain ⟨rb, hp', m'⟩ := r
    simp only [layB, lset, lapp, List.map_nil, List.map_cons, rnB_bx, rn]
    clear hM hP
    generalize hM : bx W0 (memU m') = M
    generalize hP : bx W0 (helpU hp') = P
    cases rb
    all_goals cbv
    · refine hQ _ _ (ReV.drop (s := ⟨n0, own, ⟨hs, hg⟩, 4, w, size, some hp', give, ⟨o1, o2, o3, o4⟩⟩) 2 3 hM rfl (by rw [← hvg]; rfl) rfl rfl (.inr (by rw [← hP]; rfl)) (.inr (by rw [← hG]; rfl)) (fun _ => rfl) ⟨?_, ?_⟩)
      all_goals (rw [← hR]; simp [DropS.step, hr])
    · refine hQ _ _ (ReV.drop (s := ⟨n0, own, ⟨hs, hg⟩, 0, w, size, some hp', give, ⟨o1, o2, o3, o4⟩⟩) 2 3 hM rfl (by rw [← hvg]; rfl) rfl rfl (.inr (by rw [← hP]; rfl)) (.inr (by rw [← hG]; rfl)) (fun _ => rfl) ⟨?_, ?_⟩)
      all_goals (rw [← hR]; simp [DropS.step, hr])
  · obtain ⟨hk0, hw0⟩ := h5 rfl
    simp only at hk0
    generalize hvh : optP 2 help = vh at *
    generalize hvg : optP 3 give = vg at *
    generalize hP : optB W0 helpU help = P at *
    generalize hG : optB W0 giveU give = G at *
    cbv
    refine Ops.call0 _ (lSlot_ev e.c hs) rfl ?_; rintro v V' ⟨rfl, rfl⟩; simp only [lapp, List.map_nil, rn, rnL]
    generalize ha : slotA e.c hs = a at *
    (cbv; repeat' (first | (refine mt (fun h => ?_) (fun h => ?_) <;> first | (exfalso; simp [Ops.cmp_eq, Ops.not_eq, icmp] at h; done) | (try cbv)) | fail))
    refine Ops.call0 _ (Slot_ev w) rfl ?_; rintro v V' ⟨rfl, rfl⟩; simp only [lapp, List.map_nil, rn, rnL]
    generalize hx : slotOf w = x at *
    obtain ⟨x1, x2, x3, x4⟩ := x
    cbv
    refine Ops.call0 _ (lOf_ev e.c x2 hw0) rfl ?_; rintro v V' ⟨rfl, rfl⟩; simp only [lapp, List.map_nil, rn, rnL]
    generalize hof : ofA e.c x2 = ch at *
    cbv
    refine Ops.call0 _ (lChunk_ev e.c ch) rfl ?_; rintro v V' ⟨rfl, rfl⟩; simp only [lapp, List.map_nil, rn, rnL]
    generalize hca : chunkA e.c ch = ca at *
    cbv
    refine Ops.call0 _ (lClass_ev size) rfl ?_; rintro v V' ⟨rfl, rfl⟩; simp only [lapp, List.map_nil, rn, rnL]
    generalize hk : classA size = k at *
    cbv
    refine Ops.call0 _ (lRoom_ev k hk0) rfl ?_; rintro v V' ⟨rfl, rfl⟩; simp only [lapp, List.map_nil, rn, rnL]
    generalize hrm : roomA k = rm at *
    cbv
    simp only [Ops.ar_eq, arith]
    generalize hca1 : IntKind.i64.wrap (ca + 1) = ca1 at *
    rw [show (0 : Int) - rm = -rm by omega]
    generalize hng : IntKind.i64.wrap (-rm) = ng at *
    refine Ops.call _ [0] (eAdd_ev m e ca1 ng) rfl rfl rfl ⟨.inr (by rw [← hM]; rfl), trivial⟩ ?_; rintro v V' ⟨rfl, rfl⟩; simp only [layB, lset, lapp, List.map_nil, List.map_cons, rnB_bx, rn, rnL]; clear hM; generalize hM : bx W0 (memU _) = M
    generalize hr : eadd e m ca1 ng = m' at *
    cbv
    refine Ops.call _ [] (giveNew_ev hs) rfl rfl rfl trivial ?_
    rintro v V' ⟨rfl, rfl⟩
    simp only [layB, lapp, List.map_cons, List.map_nil, rnB_bx]
    generalize hN : bx W0 (giveU { give0 with slot := hs }) = N
    cbv
    simp only [Ops.cmp_eq, icmp]
    refine hQ _ _ (ReV.drop (s := ⟨n0, own, ⟨hs, hg⟩, 6, w, size, help, some { give0 with slot := hs }, ⟨o1, o2, o3, o4⟩⟩) 2 5 hM rfl (by rw [← hvh]; rfl) rfl rfl (.inr (by rw [← hP]; rfl)) (.inr (by rw [← hN]; rfl)) (fun _ => rfl) ⟨?_, ?_⟩)
    all_goals (rw [← hR]; simp [DropS.step, hx, hof, hca, hk, hrm, hca1, hng, hr])
  · have hg1 := h6 (Nat.le_add_left _ _)
    simp only at hg1
    obtain ⟨g, rfl⟩ := Option.isSome_iff_exists.1 hg1
    clear h6 hg1
    generalize hvh : optP 2 help = vh at *
    generalize hP : optB W0 helpU help = P at *
    simp only [optP, optB] at *
    generalize hG : bx W0 (giveU g) = G at *
    cbv
    refine Ops.call0 _ (lSlot_ev e.c hs) rfl ?_; rintro v V' ⟨rfl, rfl⟩; simp only [lapp, List.map_nil, rn, rnL]
    generalize ha : slotA e.c hs = a at *
    (cbv; repeat' (first | (refine mt (fun h => ?_) (fun h => ?_) <;> first | (exfalso; simp [Ops.cmp_eq, icmp] at h; omega) | (try cbv)) | fail))
    refine Ops.call _ [0, 3] (Give_ev m e g) rfl rfl rfl ⟨.inr (by rw [← hM]; rfl), .inr (by rw [← hG]; rfl), trivial⟩ ?_
    rintro v V' ⟨rfl, rfl⟩
    generalize hr : g.step e m = r at *
    obtain ⟨rb, g', m'⟩ := r
    simp only [layB, lset, lapp, List.map_nil, List.map_cons, rnB_bx, rn]
    clear hM hG
    generalize hM : bx W0 (memU m') = M
    generalize hG : bx W0 (giveU g') = G
    cbv
    refine hQ _ _ (ReV.drop (s := ⟨n0, own, ⟨hs, hg⟩, n + 6, w, size, help, some g', ⟨o1, o2, o3, o4⟩⟩) 2 3 hM rfl (by rw [← hvh]; rfl) rfl rfl (.inr (by rw [← hP]; rfl)) (.inr (by rw [← hG]; rfl)) (fun _ => rfl) ⟨?_, ?_⟩)
    all_goals (rw [← hR]; simp [DropS.step, hr])
end Go.Proofs.YtglghdjpkecngaaGreat
