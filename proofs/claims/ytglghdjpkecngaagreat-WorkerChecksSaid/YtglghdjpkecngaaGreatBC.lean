/- A fresh arena, an act alone, a list begun, something asked of it: what they come to. -/
import Derived.Test.YtglghdjpkecngaaGreatAZ
import Derived.Test.YtglghdjpkecngaaGreatBA
namespace Go.Proofs.YtglghdjpkecngaaGreat
set_option linter.unusedVariables false
set_option linter.unusedSimpArgs false
open Go Go.SL Go.FL
set_option maxRecDepth 100000
theorem Arena_ev {W0 : World} (t s c w : Int) (hc : CfgOk (arena t s c w).c) : Ev Tryz.prog W0 36 [.int .i64 t, .int .i64 s, .int .i64 c, .int .i64 w] [] (fun v V' => v = .tup [(arena t s c w).v 0, .bool true] ∧ V' = [bx W0 (memU (freshM (arena t s c w).c))]) := by
  refine Ev.out fun Q' hQ => ev36 rfl fun o => ?_
  have hE : (arena t s c w).v 0 = .agg [.int .i64 t, .int .i64 s, .int .i64 c, .int .i64 w, .int .i64 100, .int .i64 600, .int .i64 3, .ptr 0 0, .int .i64 0] := rfl
  (cbv; repeat' (first | (refine ⟨by simp only [Ops.need_eq, needs]; first | rfl | decide, ?_⟩; try cbv) | (refine mt (fun _ => ?_) (fun _ => ?_) <;> (try cbv))))
  refine Ops.call _ [] (Fresh_ev (arena t s c w).c hc) rfl rfl rfl trivial ?_
  rintro v V' ⟨rfl, rfl⟩
  simp only [layB, lapp, List.map_cons, List.map_nil, rnB_bx]
  generalize hM : bx W0 (memU (freshM (arena t s c w).c)) = M
  (cbv; repeat' (first | (refine ⟨by simp only [Ops.need_eq, needs]; first | rfl | decide, ?_⟩; try cbv) | (refine mt (fun h => ?_) (fun h => ?_) <;> first | (exfalso; simp [Ops.cmp_eq, Ops.not_eq, icmp] at h; done) | (exfalso; simp [Ops.cmp_eq, icmp] at h; omega) | (try cbv))))
  simp only [Ops.cmp_eq, icmp]
  refine hQ _ _ (ReV.ren [2] (.tup [(arena t s c w).v 0, .bool true]) [M] rfl rfl ?_ ⟨.inr (by rw [← hM]; rfl), trivial⟩ ⟨rfl, by rw [hM]⟩)
  rw [hE]; rfl
def envC (e : EnvS) (i : Nat) : VB := .cells [.int .i64 e.c.threads, .int .i64 e.c.slots, .int .i64 e.c.chunks, .int .i64 e.c.words, .int .i64 e.c.gens, .int .i64 e.c.sparse, .int .i64 e.c.tries, .ptr i 0, .int .i64 e.who]
theorem Do_ev {W0 : World} (e : EnvS) (x : ActX) (m : MemS) {d : DoneS} {m' : MemS} (h : doAct e x m = some (d, m')) : Ev Tryz.prog W0 58 [e.v 0, actV x] [bx W0 (memU m)] (fun v V' => v = doneV d ∧ V' = [bx W0 (memU m')]) := by
  refine Ev.out fun Q' hQ => ?_
  generalize hM : bx W0 (memU m) = M at *
  refine ev58 rfl fun o => ?_
  (cbv; repeat' (first | (refine ⟨by simp only [Ops.need_eq, needs]; first | rfl | decide, ?_⟩; try cbv) | (refine mt (fun _ => ?_) (fun _ => ?_) <;> (try cbv))))
  refine Ops.call _ [] (actNew_ev x) rfl rfl rfl trivial ?_
  rintro r V' hr
  unfold doAct at h
  have hrun0 := h
  clear h
  generalize hc : checkAct x = c at *
  cases c with
  | false =>
    simp only [Bool.false_eq_true, if_false] at hr hrun0
    obtain ⟨rfl, rfl⟩ := hr
    obtain ⟨rfl, rfl⟩ : (⟨1, 0, 0, 0⟩ : DoneS) = d ∧ m = m' := by simpa using hrun0
    (cbv; repeat' (first | (refine ⟨by simp only [Ops.need_eq, needs]; first | rfl | decide, ?_⟩; try cbv) | (refine mt (fun h => ?_) (fun h => ?_) <;> first | (exfalso; simp [Ops.cmp_eq, Ops.not_eq, icmp] at h; done) | (exfalso; simp [Ops.cmp_eq, icmp] at h; omega) | (try cbv))))
    exact hQ _ _ (ReV.m0 hM (fun _ => rfl) ⟨rfl, by rw [hM]⟩)
  | true =>
    simp only [if_true] at hr hrun0
    obtain ⟨rfl, rfl⟩ := hr
    simp only [layB, lapp, List.map_cons, List.map_nil, rnB_bx]
    generalize newAct x = a0 at *
    generalize hA : bx W0 (actU W0 a0) = A
    (cbv; repeat' (first | (refine ⟨by simp only [Ops.need_eq, needs]; first | rfl | decide, ?_⟩; try cbv) | (refine mt (fun h => ?_) (fun h => ?_) <;> first | (exfalso; simp [Ops.cmp_eq, Ops.not_eq, icmp] at h; done) | (exfalso; simp [Ops.cmp_eq, icmp] at h; omega) | (try cbv))))
    subst hM hA
    refine ⟨fun k env V => ∃ (i : Nat) (a : ActS) (mi : MemS) (r : Nat → Value), i + k = 500 ∧ (actRun e k a mi).map (fun r => (r.1.out, r.2)) = some (d, m') ∧
      env = mix [(2, .ptr 1 0), (4, .ptr 2 0), (5, .ptr 3 0), (7, .int .i64 i)] r ∧ V = [bx W0 (memU mi), envC e 0, .cells [.int .i64 0, .int .u64 0, .int .i64 0, .int .i64 0], bx W0 (actU W0 a)],
      ⟨500, o.reI (Re.ren [0, 1, 3, 4] _ _ rfl rfl ?_ ?_ fun r => ⟨0, a0, m, r, rfl, hrun0, rfl, rfl⟩)⟩, ?_⟩
    · exact ⟨rfl, rfl, rfl, rfl, trivial⟩
    · exact ⟨.inr rfl, .inr rfl, .inr rfl, .inr rfl, trivial⟩
    rintro k env V ⟨i, a, mi, r, hik, hrun, rfl, rfl⟩
    generalize hM : bx W0 (memU mi) = M
    generalize hA : bx W0 (actU W0 a) = A
    (cbv; repeat' (first | (refine ⟨by simp only [Ops.need_eq, needs]; first | rfl | decide, ?_⟩; try cbv) | (refine mt (fun _ => ?_) (fun _ => ?_) <;> (try cbv))))
    · rename_i h1
      have h2 : i < 500 := by
        have : (i : Int) < 500 := by simpa [Ops.cmp_eq, icmp] using h1
        omega
      obtain ⟨k', rfl⟩ : ∃ k', k = k' + 1 := ⟨k - 1, by omega⟩
      have hwf : a.wfb e.c = true := by
        cases hw : a.wfb e.c with
        | true => rfl
        | false => simp [actRun, hw] at hrun
      simp only [actRun, hwf, if_true] at hrun
      refine Ops.call _ [0, 3] (Act_ev mi e a (awf_of hwf)) rfl rfl rfl ⟨.inr (by rw [← hM]; rfl), .inr (by rw [← hA]; rfl), trivial⟩ ?_
      rintro v V' ⟨rfl, rfl⟩
      generalize hr : a.step e mi = q at *
      obtain ⟨rb, a', m2⟩ := q
      simp only [layB, lset, lapp, List.map_nil, List.map_cons, rnB_bx, rn]
      clear hM hA
      generalize hM : bx W0 (memU m2) = M
      generalize hA : bx W0 (actU W0 a') = A
      cases rb with
      | true =>
        (cbv; repeat' (first | (refine ⟨by simp only [Ops.need_eq, needs]; first | rfl | decide, ?_⟩; try cbv) | (refine mt (fun _ => ?_) (fun _ => ?_) <;> (try cbv))))
        simp only [if_true, Option.map_some, Option.some.injEq, Prod.mk.injEq] at hrun
        obtain ⟨hd, rfl⟩ := hrun
        refine Ops.call _ [3] (actDone_ev a') rfl rfl rfl ⟨.inr (by rw [← hA]; rfl), trivial⟩ ?_
        rintro v V' ⟨rfl, rfl⟩
        rw [hd]
        obtain ⟨d1, d2, d3, d4⟩ := d
        simp only [layB, lset, lapp, List.map_nil, List.map_cons, rnB_bx, doneV, rn, rnL]
        rw [hA]
        (cbv; repeat' (first | (refine ⟨by simp only [Ops.need_eq, needs]; first | rfl | decide, ?_⟩; try cbv) | (refine mt (fun _ => ?_) (fun _ => ?_) <;> (try cbv))))
        exact hQ _ _ (ReV.m0 hM (fun _ => rfl) ⟨rfl, rfl⟩)
      | false =>
        (cbv; repeat' (first | (refine ⟨by simp only [Ops.need_eq, needs]; first | rfl | decide, ?_⟩; try cbv) | (refine mt (fun _ => ?_) (fun _ => ?_) <;> (try cbv))))
        simp only [Bool.false_eq_true, if_false] at hrun
        refine ⟨k', by omega, o.reI (Re.ren [0, 1, 2, 3] _ _ rfl rfl ?_ ?_ fun r => ⟨i + 1, a', m2, r, by omega, hrun, rfl, rfl⟩)⟩
        · refine ⟨rfl, rfl, rfl, ?_, trivial⟩
          exact congrArg (VV.int .i64) (by simp only [Ops.ar_eq]; exact add1 (i := i) (by omega))
        · exact ⟨.inr (by rw [← hM]; rfl), .inr rfl, .inr rfl, .inr (by rw [← hA]; rfl), trivial⟩
    · rename_i h1
      have h2 : ¬ i < 500 := by
        have : (500 : Int) ≤ i := by simpa [Ops.cmp_eq, icmp] using h1
        omega
      obtain rfl : k = 0 := by omega
      simp only [actRun, Option.map_some, Option.some.injEq, Prod.mk.injEq] at hrun
      obtain ⟨hd, rfl⟩ := hrun
      refine Ops.call _ [3] (actDone_ev a) rfl rfl rfl ⟨.inr (by rw [← hA]; rfl), trivial⟩ ?_
      rintro v V' ⟨rfl, rfl⟩
      rw [hd]
      obtain ⟨d1, d2, d3, d4⟩ := d
      simp only [layB, lset, lapp, List.map_nil, List.map_cons, rnB_bx, doneV, rn, rnL]
      rw [hA]
      (cbv; repeat' (first | (refine ⟨by simp only [Ops.need_eq, needs]; first | rfl | decide, ?_⟩; try cbv) | (refine mt (fun _ => ?_) (fun _ => ?_) <;> (try cbv))))
      exact hQ _ _ (ReV.m0 hM (fun _ => rfl) ⟨rfl, rfl⟩)
theorem Ask_ev {W0 : World} (e : EnvS) (head : Nat) (kind key : Int) (m : MemS) {d : DoneS} {m' : MemS} (h : FL.ask e head kind key m = some (d, m')) : Ev Tryz.prog W0 27 [e.v 0, .int .u64 head, .int .i64 kind, .int .i64 key] [bx W0 (memU m)] (fun v V' => v = doneV d ∧ V' = [bx W0 (memU m')]) := by
  refine Ev.out fun Q' hQ => ?_
  generalize hM : bx W0 (memU m) = M at *
  refine ev27 rfl fun o => ?_
  (cbv; repeat' (first | (refine ⟨by simp only [Ops.need_eq, needs]; first | rfl | decide, ?_⟩; try cbv) | (refine mt (fun _ => ?_) (fun _ => ?_) <;> (try cbv))))
  refine Ops.call _ [] (listNew_ev kind key head) rfl rfl rfl trivial ?_
  rintro r V' hr
  unfold FL.ask at h
  have hrun0 := h
  clear h
  generalize hc : checkList kind key = c at *
  cases c with
  | false =>
    simp only [Bool.false_eq_true, if_false] at hr hrun0
    obtain ⟨rfl, rfl⟩ := hr
    obtain ⟨rfl, rfl⟩ : (⟨1, 0, 0, 0⟩ : DoneS) = d ∧ m = m' := by simpa using hrun0
    (cbv; repeat' (first | (refine ⟨by simp only [Ops.need_eq, needs]; first | rfl | decide, ?_⟩; try cbv) | (refine mt (fun h => ?_) (fun h => ?_) <;> first | (exfalso; simp [Ops.cmp_eq, Ops.not_eq, icmp] at h; done) | (exfalso; simp [Ops.cmp_eq, icmp] at h; omega) | (try cbv))))
    exact hQ _ _ (ReV.m0 hM (fun _ => rfl) ⟨rfl, by rw [hM]⟩)
  | true =>
    simp only [if_true] at hr hrun0
    obtain ⟨rfl, rfl⟩ := hr
    simp only [layB, lapp, List.map_cons, List.map_nil, rnB_bx]
    generalize newList kind key head = a0 at *
    generalize hA : bx W0 (listU W0 a0) = A
    (cbv; repeat' (first | (refine ⟨by simp only [Ops.need_eq, needs]; first | rfl | decide, ?_⟩; try cbv) | (refine mt (fun h => ?_) (fun h => ?_) <;> first | (exfalso; simp [Ops.cmp_eq, Ops.not_eq, icmp] at h; done) | (exfalso; simp [Ops.cmp_eq, icmp] at h; omega) | (try cbv))))
    subst hM hA
    refine ⟨fun k env V => ∃ (i : Nat) (a : ListS) (mi : MemS) (r : Nat → Value), i + k = 20000 ∧ (listRun e k a mi).map (fun r => (r.1.out, r.2)) = some (d, m') ∧
      env = mix [(4, .ptr 1 0), (8, .ptr 2 0), (9, .ptr 3 0), (11, .int .i64 i)] r ∧ V = [bx W0 (memU mi), envC e 0, .cells [.int .i64 0, .int .u64 0, .int .i64 0, .int .i64 0], bx W0 (listU W0 a)],
      ⟨20000, o.reI (Re.ren [0, 1, 2, 3] _ _ rfl rfl ?_ ?_ fun r => ⟨0, a0, m, r, rfl, hrun0, rfl, rfl⟩)⟩, ?_⟩
    · exact ⟨rfl, rfl, rfl, rfl, trivial⟩
    · exact ⟨.inr rfl, .inr rfl, .inr rfl, .inr rfl, trivial⟩
    rintro k env V ⟨i, a, mi, r, hik, hrun, rfl, rfl⟩
    generalize hM : bx W0 (memU mi) = M
    generalize hA : bx W0 (listU W0 a) = A
    (cbv; repeat' (first | (refine ⟨by simp only [Ops.need_eq, needs]; first | rfl | decide, ?_⟩; try cbv) | (refine mt (fun _ => ?_) (fun _ => ?_) <;> (try cbv))))
    · rename_i h1
      have h2 : i < 20000 := by
        have : (i : Int) < 20000 := by simpa [Ops.cmp_eq, icmp] using h1
        omega
      obtain ⟨k', rfl⟩ : ∃ k', k = k' + 1 := ⟨k - 1, by omega⟩
      have hwf : a.wfb e.c = true := by
        cases hw : a.wfb e.c with
        | true => rfl
        | false => simp [listRun, hw] at hrun
      simp only [listRun, hwf, if_true] at hrun
      refine Ops.call _ [0, 3] (ListStep_ev mi e a (lwf_of hwf)) rfl rfl rfl ⟨.inr (by rw [← hM]; rfl), .inr (by rw [← hA]; rfl), trivial⟩ ?_
      rintro v V' ⟨rfl, rfl⟩
      generalize hr : a.step e mi = q at *
      obtain ⟨rb, a', m2⟩ := q
      simp only [layB, lset, lapp, List.map_nil, List.map_cons, rnB_bx, rn]
      clear hM hA
      generalize hM : bx W0 (memU m2) = M
      generalize hA : bx W0 (listU W0 a') = A
      cases rb with
      | true =>
        (cbv; repeat' (first | (refine ⟨by simp only [Ops.need_eq, needs]; first | rfl | decide, ?_⟩; try cbv) | (refine mt (fun _ => ?_) (fun _ => ?_) <;> (try cbv))))
        simp only [if_true, Option.map_some, Option.some.injEq, Prod.mk.injEq] at hrun
        obtain ⟨hd, rfl⟩ := hrun
        refine Ops.call _ [3] (listDone_ev a') rfl rfl rfl ⟨.inr (by rw [← hA]; rfl), trivial⟩ ?_
        rintro v V' ⟨rfl, rfl⟩
        rw [hd]
        obtain ⟨d1, d2, d3, d4⟩ := d
        simp only [layB, lset, lapp, List.map_nil, List.map_cons, rnB_bx, doneV, rn, rnL]
        rw [hA]
        (cbv; repeat' (first | (refine ⟨by simp only [Ops.need_eq, needs]; first | rfl | decide, ?_⟩; try cbv) | (refine mt (fun _ => ?_) (fun _ => ?_) <;> (try cbv))))
        exact hQ _ _ (ReV.m0 hM (fun _ => rfl) ⟨rfl, rfl⟩)
      | false =>
        (cbv; repeat' (first | (refine ⟨by simp only [Ops.need_eq, needs]; first | rfl | decide, ?_⟩; try cbv) | (refine mt (fun _ => ?_) (fun _ => ?_) <;> (try cbv))))
        simp only [Bool.false_eq_true, if_false] at hrun
        refine ⟨k', by omega, o.reI (Re.ren [0, 1, 2, 3] _ _ rfl rfl ?_ ?_ fun r => ⟨i + 1, a', m2, r, by omega, hrun, rfl, rfl⟩)⟩
        · refine ⟨rfl, rfl, rfl, ?_, trivial⟩
          exact congrArg (VV.int .i64) (by simp only [Ops.ar_eq]; exact add1 (i := i) (by omega))
        · exact ⟨.inr (by rw [← hM]; rfl), .inr rfl, .inr rfl, .inr (by rw [← hA]; rfl), trivial⟩
    · rename_i h1
      have h2 : ¬ i < 20000 := by
        have : (20000 : Int) ≤ i := by simpa [Ops.cmp_eq, icmp] using h1
        omega
      obtain rfl : k = 0 := by omega
      simp only [listRun, Option.map_some, Option.some.injEq, Prod.mk.injEq] at hrun
      obtain ⟨hd, rfl⟩ := hrun
      refine Ops.call _ [3] (listDone_ev a) rfl rfl rfl ⟨.inr (by rw [← hA]; rfl), trivial⟩ ?_
      rintro v V' ⟨rfl, rfl⟩
      rw [hd]
      obtain ⟨d1, d2, d3, d4⟩ := d
      simp only [layB, lset, lapp, List.map_nil, List.map_cons, rnB_bx, doneV, rn, rnL]
      rw [hA]
      (cbv; repeat' (first | (refine ⟨by simp only [Ops.need_eq, needs]; first | rfl | decide, ?_⟩; try cbv) | (refine mt (fun _ => ?_) (fun _ => ?_) <;> (try cbv))))
      exact hQ _ _ (ReV.m0 hM (fun _ => rfl) ⟨rfl, rfl⟩)
theorem arenaOk {t s c w : Int} (t0 : 1 ≤ t) (t1 : t ≤ 8) (s0 : 1 ≤ s) (s1 : s ≤ 65536) (c0 : 1 ≤ c) (c1 : c ≤ 64) (w0 : 17 ≤ w) (w1 : w ≤ 256) : CfgOk (arena t s c w).c := by
  constructor <;> simp only [arena] <;> omega
theorem begun_ev {W0 : World} (n : Int) (h0 : 1 ≤ n) (h1 : n ≤ 65536) {d : DoneS} {m : MemS} (h : FL.begun n = some (d, m)) : Ev Tryz.prog W0 23 [.int .i64 n] [] (fun v V' => v = .tup [(arena 4 n 12 40).v 0, .int .u64 d.h, .bool (d.e == 0)] ∧ V' = [bx W0 (memU m)]) := by
  refine Ev.out fun Q' hQ => ev23 rfl fun o => ?_
  have hE : (arena 4 n 12 40).v 0 = .agg [.int .i64 4, .int .i64 n, .int .i64 12, .int .i64 40, .int .i64 100, .int .i64 600, .int .i64 3, .ptr 0 0, .int .i64 0] := rfl
  have hb := h
  clear h
  (cbv; repeat' (first | (refine ⟨by simp only [Ops.need_eq, needs]; first | rfl | decide, ?_⟩; try cbv) | (refine mt (fun h => ?_) (fun h => ?_) <;> first | (exfalso; simp [Ops.cmp_eq, Ops.not_eq, icmp] at h; done) | (exfalso; simp [Ops.cmp_eq, icmp] at h; omega) | (try cbv))))
  refine Ops.call _ [] (Arena_ev 4 n 12 40 (arenaOk (by decide) (by decide) h0 h1 (by decide) (by decide) (by decide) (by decide))) rfl rfl rfl trivial ?_
  rintro v V' ⟨rfl, rfl⟩
  rw [hE]
  simp only [layB, lapp, List.map_cons, List.map_nil, rnB_bx, rn, rnL]
  generalize hM : bx W0 (memU (freshM (arena 4 n 12 40).c)) = M
  (cbv; repeat' (first | (refine ⟨by simp only [Ops.need_eq, needs]; first | rfl | decide, ?_⟩; try cbv) | (refine mt (fun h => ?_) (fun h => ?_) <;> first | (exfalso; simp [Ops.cmp_eq, Ops.not_eq, icmp] at h; done) | (exfalso; simp [Ops.cmp_eq, icmp] at h; omega) | (try cbv))))
  refine Ops.call _ [1] (Do_ev (arena 4 n 12 40) ⟨1, 2, 0, 0, 0, 0, true⟩ (freshM (arena 4 n 12 40).c) hb) rfl rfl rfl ⟨.inr (by rw [← hM]; rfl), trivial⟩ ?_
  rintro v V' ⟨rfl, rfl⟩
  obtain ⟨d1, d2, d3, d4⟩ := d
  simp only [layB, lset, lapp, List.map_nil, List.map_cons, rnB_bx, doneV, rn, rnL]
  clear hM
  generalize hM : bx W0 (memU m) = M
  (cbv; repeat' (first | (refine ⟨by simp only [Ops.need_eq, needs]; first | rfl | decide, ?_⟩; try cbv) | (refine mt (fun h => ?_) (fun h => ?_) <;> first | (exfalso; simp [Ops.cmp_eq, Ops.not_eq, icmp] at h; done) | (exfalso; simp [Ops.cmp_eq, icmp] at h; omega) | (try cbv))))
  simp only [Ops.cmp_eq, icmp]
  exact hQ _ _ (ReV.ren [1] (.tup [(arena 4 n 12 40).v 0, .int .u64 d2, .bool (d1 == 0)]) [M] rfl rfl (by rw [hE]; rfl) ⟨.inr (by rw [← hM]; rfl), trivial⟩ ⟨rfl, by rw [hM]⟩)
theorem awake16_ok : FL.awake16 = true := by decide +kernel
theorem awake16_ev {W0 : World} : Ev Tryz.prog W0 19 [] [] (fun v V' => v = .bool true ∧ V' = []) := by
  refine Ev.out fun Q' hQ => ev19 rfl fun o => ?_
  have hw := awake16_ok
  unfold FL.awake16 at hw
  have hE : ∀ i, (arena 4 8 12 40).v i = .agg [.int .i64 4, .int .i64 8, .int .i64 12, .int .i64 40, .int .i64 100, .int .i64 600, .int .i64 3, .ptr i 0, .int .i64 0] := fun _ => rfl
  cases hb : FL.begun 8 with
  | none => rw [hb] at hw; cases hw
  | some r =>
    obtain ⟨⟨d1, d2, d3, d4⟩, m0⟩ := r
    simp only [hb] at hw
    cases ha1 : FL.ask (arena 4 8 12 40) d2 2 5 m0 with
    | none => rw [ha1] at hw; cases hw
    | some r =>
      obtain ⟨⟨a1, a2, a3, a4⟩, m1⟩ := r
      simp only [ha1] at hw
      cases ha2 : FL.ask (arena 4 8 12 40) d2 1 5 m1 with
      | none => rw [ha2] at hw; cases hw
      | some r =>
        obtain ⟨⟨b1, b2, b3, b4⟩, m2⟩ := r
        simp only [ha2] at hw
        cases ha3 : FL.ask (arena 4 8 12 40) d2 3 5 m2 with
        | none => rw [ha3] at hw; cases hw
        | some r =>
          obtain ⟨⟨c1, c2, c3, c4⟩, m3⟩ := r
          simp only [ha3] at hw
          cases ha4 : FL.ask (arena 4 8 12 40) d2 1 5 m3 with
          | none => rw [ha4] at hw; cases hw
          | some r =>
            obtain ⟨⟨e1, e2, e3, e4⟩, m4⟩ := r
            simp only [ha4, Bool.and_eq_true, decide_eq_true_eq] at hw
            obtain ⟨⟨⟨⟨⟨rfl, rfl⟩, rfl⟩, rfl⟩, rfl⟩, rfl⟩ := hw
            (cbv; repeat' (first | (refine ⟨by simp only [Ops.need_eq, needs]; first | rfl | decide, ?_⟩; try cbv) | (refine mt (fun h => ?_) (fun h => ?_) <;> first | (exfalso; simp [Ops.cmp_eq, Ops.not_eq, icmp] at h; done) | (exfalso; simp [Ops.cmp_eq, icmp] at h; omega) | (try cbv))))
            refine Ops.call _ [] (begun_ev 8 (by decide) (by decide) hb) rfl rfl rfl trivial ?_
            rintro v V' ⟨rfl, rfl⟩
            rw [hE]
            simp only [layB, lapp, List.map_cons, List.map_nil, rnB_bx, rn, rnL]
            generalize hM : bx W0 (memU m0) = M
            (cbv; repeat' (first | (refine ⟨by simp only [Ops.need_eq, needs]; first | rfl | decide, ?_⟩; try cbv) | (refine mt (fun h => ?_) (fun h => ?_) <;> first | (exfalso; simp [Ops.cmp_eq, Ops.not_eq, icmp] at h; done) | (exfalso; simp [Ops.cmp_eq, icmp] at h; omega) | (try cbv))))
            refine Ops.call _ [0] (Ask_ev (arena 4 8 12 40) d2 2 5 m0 ha1) rfl rfl rfl ⟨.inr (by rw [← hM]; rfl), trivial⟩ ?_
            rintro v V' ⟨rfl, rfl⟩
            simp only [layB, lset, lapp, List.map_nil, List.map_cons, rnB_bx, doneV, rn, rnL]
            clear hM
            generalize hM : bx W0 (memU m1) = M
            (cbv; repeat' (first | (refine ⟨by simp only [Ops.need_eq, needs]; first | rfl | decide, ?_⟩; try cbv) | (refine mt (fun h => ?_) (fun h => ?_) <;> first | (exfalso; simp [Ops.cmp_eq, Ops.not_eq, icmp] at h; done) | (exfalso; simp [Ops.cmp_eq, icmp] at h; omega) | (try cbv))))
            refine Ops.call _ [0] (Ask_ev (arena 4 8 12 40) d2 1 5 m1 ha2) rfl rfl rfl ⟨.inr (by rw [← hM]; rfl), trivial⟩ ?_
            rintro v V' ⟨rfl, rfl⟩
            simp only [layB, lset, lapp, List.map_nil, List.map_cons, rnB_bx, doneV, rn, rnL]
            clear hM
            generalize hM : bx W0 (memU m2) = M
            (cbv; repeat' (first | (refine ⟨by simp only [Ops.need_eq, needs]; first | rfl | decide, ?_⟩; try cbv) | (refine mt (fun h => ?_) (fun h => ?_) <;> first | (exfalso; simp [Ops.cmp_eq, Ops.not_eq, icmp] at h; done) | (exfalso; simp [Ops.cmp_eq, icmp] at h; omega) | (try cbv))))
            refine Ops.call _ [0] (Ask_ev (arena 4 8 12 40) d2 3 5 m2 ha3) rfl rfl rfl ⟨.inr (by rw [← hM]; rfl), trivial⟩ ?_
            rintro v V' ⟨rfl, rfl⟩
            simp only [layB, lset, lapp, List.map_nil, List.map_cons, rnB_bx, doneV, rn, rnL]
            clear hM
            generalize hM : bx W0 (memU m3) = M
            (cbv; repeat' (first | (refine ⟨by simp only [Ops.need_eq, needs]; first | rfl | decide, ?_⟩; try cbv) | (refine mt (fun h => ?_) (fun h => ?_) <;> first | (exfalso; simp [Ops.cmp_eq, Ops.not_eq, icmp] at h; done) | (exfalso; simp [Ops.cmp_eq, icmp] at h; omega) | (try cbv))))
            refine Ops.call _ [0] (Ask_ev (arena 4 8 12 40) d2 1 5 m3 ha4) rfl rfl rfl ⟨.inr (by rw [← hM]; rfl), trivial⟩ ?_
            rintro v V' ⟨rfl, rfl⟩
            simp only [layB, lset, lapp, List.map_nil, List.map_cons, rnB_bx, doneV, rn, rnL]
            clear hM
            generalize hM : bx W0 (memU m4) = M
            (cbv; repeat' (first | (refine ⟨by simp only [Ops.need_eq, needs]; first | rfl | decide, ?_⟩; try cbv) | (refine mt (fun h => ?_) (fun h => ?_) <;> first | (exfalso; simp [Ops.cmp_eq, Ops.not_eq, icmp] at h; done) | (exfalso; simp [Ops.cmp_eq, icmp] at h; omega) | (try cbv))))
            refine hQ _ _ (ReV.none rfl ⟨?_, rfl⟩)
            simp [Ops.cmp_eq, icmp]
end Go.Proofs.YtglghdjpkecngaaGreat
