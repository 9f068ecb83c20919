/- mem: what its functions compute. -/
import Derived.Test.YtglghdjpkecngaaGreatAW
namespace Go.Proofs.YtglghdjpkecngaaGreat
set_option linter.unusedVariables false
set_option linter.unusedSimpArgs false
open Go Go.SL Go.FL
set_option maxRecDepth 100000
theorem wcs_plain (l : List (Nat × Int)) : Plain (l.map wcs) := Plain.of (fun _ _ => rfl) l
theorem ncs_plain (l : List (Nat × Int)) : Plain (l.map ncs) := Plain.of (fun _ _ => rfl) l
theorem memU_rn (m : MemS) (ρ : Nat → Nat) (h0 : ρ 1 = 1) (h1 : ρ 2 = 2) : (memU m).map (rnB ρ) = memU m := by
  simp [memU, rnB, rnL, rn, Cap.rn, h0, h1, wcs_plain m.cs ρ, ncs_plain m.cs ρ]
theorem memO {W0 : World} (m : MemS) : layB (rho [0] [bx W0 (memU m)].length) [bx W0 (memU m)] [0] (memU m) = memU m := by
  have := memU_rn m (rho [0] 1) rfl rfl
  simp only [memU, List.map_cons, List.map_nil] at this
  simp only [memU, layB, lset, lapp, List.length_cons, List.length_nil, List.map_cons, List.map_nil, Nat.zero_add]
  exact this
theorem memF (m : MemS) : fitB (rho [0, 1, 2] (memU m).length) (memU m) [0, 1, 2] (memU m) := by
  have := memU_rn m (rho [0, 1, 2] 3) rfl rfl
  simp only [memU, List.map_cons, List.map_nil, List.cons.injEq, and_true] at this
  obtain ⟨h1, h2, h3⟩ := this
  exact ⟨.inr (congrArg some h1.symm), .inr (congrArg some h2.symm), .inr (congrArg some h3.symm), trivial⟩
theorem Ev.boxM {P : Program} {W0 : World} {f : FuncId} {args : List VV} {m m' : MemS} {r : VV} (h : Ev P W0 f args (memU m) (fun v V' => v = r ∧ V' = memU m')) (hr : r = rn (rho [0] 3) r) :
    Ev P W0 f args [bx W0 (memU m)] (fun v V' => v = r ∧ V' = [bx W0 (memU m')]) := by
  refine Ev.outB 0 (U := memU m) rfl fun Q' hQ => ?_
  rw [memO]
  refine h.mono ?_
  rintro v V' ⟨rfl, rfl⟩
  refine hQ _ _ (ReV.shut 0 [1, 2] (memU m') rfl rfl (memF m') (ReV.ren [0] v [bx W0 (memU m')] rfl rfl hr ⟨.inr rfl, trivial⟩ ⟨rfl, rfl⟩))
theorem at_get (m : MemS) (a : Int) (h0 : 0 ≤ a) (h1 : a < m.cs.length) : (m.cs.map wcs)[a.toNat]? = some [.int .u64 (m.at a).1] := by
  have : a.toNat < m.cs.length := by omega
  simp [MemS.at, wcs, List.getElem?_eq_getElem this, List.getD_eq_getElem?_getD]
theorem at_getn (m : MemS) (a : Int) (h0 : 0 ≤ a) (h1 : a < m.cs.length) : (m.cs.map ncs)[a.toNat]? = some [.int .i64 (m.at a).2] := by
  have : a.toNat < m.cs.length := by omega
  simp [MemS.at, ncs, List.getElem?_eq_getElem this, List.getD_eq_getElem?_getD]
theorem step_ev {W0 : World} (m : MemS) (a : Int) : Ev Tryz.prog W0 115 [.ptr 0 0, .int .i64 a] (memU m) (fun v V' => v = .bool (m.inR a) ∧ V' = memU (if m.inR a then m.tick a else m)) := by
  refine Ev.out fun Q' hQ => ev115 rfl fun o => ?_
  generalize hU : memU (if m.inR a then m.tick a else m) = U at hQ
  generalize hR : m.inR a = R at hQ hU
  unfold MemS.inR at hR
  obtain ⟨cs, st, who, la, lw, lc⟩ := m
  simp only [memU]
  generalize hxs : cs.map wcs = xs at *
  generalize hys : cs.map ncs = ys at *
  generalize hn : cs.length = n at *
  (cbv; repeat' (first | (refine mt (fun _ => ?_) (fun _ => ?_) <;> (try cbv)) | fail))
  all_goals (simp only [o.cmp_eq, o.ar_eq, icmp, decide_eq_true_eq, decide_eq_false_iff_not] at *; (try simp only [cfix] at *); (try simp only [Int.ofNat_eq_natCast] at *))
  · rename_i h
    obtain rfl : R = false := by rw [← hR]; simp; omega
    exact hQ _ _ (ReV.id ⟨rfl, by subst hU; simp [memU, hxs, hys, hn]⟩)
  · rename_i h h2
    obtain rfl : R = false := by rw [← hR]; simp; omega
    exact hQ _ _ (ReV.id ⟨rfl, by subst hU; simp [memU, hxs, hys, hn]⟩)
  · rename_i h h2
    obtain rfl : R = true := by rw [← hR]; simp; omega
    exact hQ _ _ (ReV.id ⟨rfl, by subst hU; simp [memU, MemS.tick, hxs, hys, hn, arith]⟩)
theorem set_ev {W0 : World} (m : MemS) (a : Int) (w : Nat) (h0 : 0 ≤ a) (h1 : a < m.cs.length) : Ev Tryz.prog W0 116 [.ptr 0 0, .int .i64 a, .int .u64 w] (memU m) (fun v V' => v = .tup [] ∧ V' = memU (m.lay a w)) := by
  refine Ev.out fun Q' hQ => ev116 rfl fun o => ?_
  generalize hU : memU (m.lay a w) = U at hQ
  have hg := at_get m a h0 h1
  have hg2 := at_getn m a h0 h1
  simp only [MemS.lay] at hU
  generalize hu : m.at a = u at *
  obtain ⟨u1, u2⟩ := u
  obtain ⟨cs, st, who, la, lw, lc⟩ := m
  simp only [memU] at *
  have hx1 : ∀ x, (cs.set a.toNat x).map wcs = (cs.map wcs).set a.toNat (wcs x) := fun x => List.map_set
  have hx2 : ∀ x, (cs.set a.toNat x).map ncs = (cs.map ncs).set a.toNat (ncs x) := fun x => List.map_set
  generalize hxs : cs.map wcs = xs at *
  generalize hys : cs.map ncs = ys at *
  generalize hn : cs.length = n at *
  generalize hk : a.toNat = k at *
  cbv
  refine ⟨by simp only [o.inb_eq]; exact decide_eq_true ⟨h0, h1⟩, ?_⟩
  simp only [Int.toNat_natCast, Int.ofNat_eq_natCast, Ops.get_eq, Ops.nadd_eq, Ops.nat_eq, Nat.zero_add, hk, hg]
  (cbv; repeat' (first | (refine mt (fun _ => ?_) (fun _ => ?_) <;> (try cbv)) | fail))
  · rename_i h
    refine ⟨by simp only [o.inb_eq]; exact decide_eq_true ⟨h0, h1⟩, ?_⟩
    simp only [Int.toNat_natCast, Int.ofNat_eq_natCast, Ops.get_eq, Ops.nadd_eq, Ops.nat_eq, Nat.zero_add, hk, hg2]
    cbv
    refine ⟨by simp only [o.inb_eq]; exact decide_eq_true ⟨h0, h1⟩, ?_⟩
    simp only [Int.toNat_natCast, Int.ofNat_eq_natCast, Ops.get_eq, Ops.nadd_eq, Ops.nat_eq, Nat.zero_add, hk, hg]
    cbv
    simp only [o.cmp_eq, o.set_eq, o.nat_eq, o.nadd_eq, Nat.zero_add, icmp, bne] at *; (try simp only [cfix] at *); (try simp only [Int.ofNat_eq_natCast] at *)
    simp only [beq_nat] at *
    refine hQ _ _ (ReV.id ⟨rfl, ?_⟩)
    subst hU
    simp [h, hx1, hx2, hn, wcs, ncs]
  · rename_i h
    refine ⟨by simp only [o.inb_eq]; exact decide_eq_true ⟨h0, h1⟩, ?_⟩
    simp only [Int.toNat_natCast, Int.ofNat_eq_natCast, Ops.get_eq, Ops.nadd_eq, Ops.nat_eq, Nat.zero_add, hk, hg]
    cbv
    simp only [o.cmp_eq, o.set_eq, o.nat_eq, o.nadd_eq, Nat.zero_add, icmp, bne] at *; (try simp only [cfix] at *); (try simp only [Int.ofNat_eq_natCast] at *)
    simp only [beq_nat] at *
    refine hQ _ _ (ReV.id ⟨rfl, ?_⟩)
    subst hU
    have hself : ys.set k [VV.int .i64 u2] = ys := by
      apply List.ext_getElem?
      intro j
      rw [List.getElem?_set]
      split
      · rename_i e; subst e
        split
        · exact hg2.symm
        · rename_i hj; rw [List.getElem?_eq_none (by omega)] 
      · rfl
    simp [h, hx1, hx2, hn, wcs, ncs, hself]
theorem inR_iff {m : MemS} {a : Int} : m.inR a = true ↔ 0 ≤ a ∧ a < m.cs.length := by simp [MemS.inR]
theorem By_ev {W0 : World} (m : MemS) (who : Int) : Ev Tryz.prog W0 118 [.ptr 0 0, .int .i64 who] (memU m) (fun v V' => v = .tup [] ∧ V' = memU (m.by who)) := by
  refine Ev.out fun Q' hQ => ev118 rfl fun o => ?_
  generalize hU : memU (m.by who) = U at hQ
  obtain ⟨cs, st, who', la, lw, lc⟩ := m
  simp only [memU] at *
  generalize hxs : cs.map wcs = xs at *
  generalize hys : cs.map ncs = ys at *
  generalize hn : cs.length = n at *
  (cbv; repeat' (first | (refine mt (fun _ => ?_) (fun _ => ?_) <;> (try cbv)) | fail))
  (all_goals try (exfalso; rename_i h; simp only [Ops.not_eq, Ops.cmp_eq, icmp, Bool.not_false, Bool.not_true, reduceCtorEq] at h; done))
  refine hQ _ _ (ReV.id ⟨rfl, ?_⟩)
  subst hU
  simp [MemS.by, hxs, hys, hn]
theorem Steps_ev {W0 : World} (m : MemS) : Ev Tryz.prog W0 72 [.ptr 0 0] (memU m) (fun v V' => v = .int .i64 m.steps ∧ V' = memU m) := by
  refine Ev.out fun Q' hQ => ev72 rfl fun o => ?_
  generalize hU : memU m = U at *
  obtain ⟨cs, st, who', la, lw, lc⟩ := m
  simp only [memU] at hU
  subst hU
  generalize hxs : cs.map wcs = xs at *
  generalize hys : cs.map ncs = ys at *
  generalize hn : cs.length = n at *
  cbv
  (all_goals try (exfalso; rename_i h; simp only [Ops.not_eq, Ops.cmp_eq, icmp, Bool.not_false, Bool.not_true, reduceCtorEq] at h; done))
  exact hQ _ _ (ReV.id ⟨rfl, rfl⟩)
theorem memL (c a b : VB) (m' : MemS) : layB (rho [0, 1, 2] [c, a, b].length) [c, a, b] [0, 1, 2] (memU m') = memU m' := by
  have := memU_rn m' (rho [0, 1, 2] 3) rfl rfl
  simp only [memU, List.map_cons, List.map_nil] at this
  simp only [memU, layB, lset, lapp, List.length_cons, List.length_nil, List.map_nil, Nat.zero_add]
  exact this
theorem mem3 (m : MemS) : ∃ c a b, memU m = [c, a, b] := ⟨_, _, _, rfl⟩
theorem memF3 {m : MemS} {c a b : VB} (h : memU m = [c, a, b]) : fitB (rho [0, 1, 2] [c, a, b].length) [c, a, b] [0, 1, 2] (memU m) := by
  have := memF m
  rw [h] at this ⊢; exact this
theorem callM {W0 : World} {RE : (Env → List VB → Prop) → Env → List VB → Prop} (o : Ops (Ev Tryz.prog W0) RE) {f : FuncId} {args : List VV} {m m' : MemS} {r : VV} {c a b : VB} {K : VV → List VB → Prop} (hm : memU m = [c, a, b])
    (he : Ev Tryz.prog W0 f args (memU m) (fun v V' => v = r ∧ V' = memU m')) (ha : args = rnL (rho [0, 1, 2] 3) args) (hr : rn (rho [0, 1, 2] 3) r = r) (hk : K r (memU m')) : o.ev f args [c, a, b] K := by
  refine o.call [0, 1, 2] he ha rfl rfl (memF3 hm) ?_
  rintro v V' ⟨rfl, rfl⟩
  rw [memL]
  exact hr.symm ▸ hk
theorem Load_ev {W0 : World} (m : MemS) (a : Int) : Ev Tryz.prog W0 119 [.ptr 0 0, .int .i64 a] (memU m) (fun v V' => v = .tup [.int .u64 (m.ld a).1, .int .i64 (if m.inR a then 0 else 2)] ∧ V' = memU (m.ld a).2) := by
  obtain ⟨c1, c2, c3, hm⟩ := mem3 m
  rw [hm]
  refine Ev.out fun Q' hQ => ev119 rfl fun o => ?_
  generalize hU : memU (m.ld a).2 = U at hQ
  cbv
  refine callM o hm (step_ev m a) rfl rfl ?_
  cases hi : m.inR a with
  | false =>
    simp only [hi, Bool.false_eq_true, if_false]
    rw [hm]
    (cbv; repeat' (first | (refine mt (fun _ => ?_) (fun _ => ?_) <;> (try cbv)) | fail))
    (all_goals try (exfalso; rename_i h; simp only [Ops.not_eq, Ops.cmp_eq, icmp, Bool.not_false, Bool.not_true, reduceCtorEq] at h; done))
    refine hQ _ _ (ReV.id ⟨?_, ?_⟩)
    · simp [MemS.ld, hi]
    · rw [← hm, ← hU]; simp [MemS.ld, hi]
  | true =>
    obtain ⟨h0, h1⟩ := inR_iff.1 hi
    have hg := at_get m a h0 h1
    simp only [if_true]
    have hU2 : U = memU (m.tick a) := by rw [← hU]; simp [MemS.ld, hi]
    have hv : (m.ld a).1 = (m.at a).1 := by simp [MemS.ld, hi]
    rw [hv] at hQ
    clear hU hv
    generalize (m.at a).1 = u at *
    simp only [memU, MemS.tick] at *
    generalize w64 (m.steps + 1) = st at *
    generalize m.cs.map wcs = xs at *
    generalize m.cs.map ncs = ys at *
    generalize m.cs.length = n at *
    generalize hk : a.toNat = k at *
    (cbv; repeat' (first | (refine mt (fun _ => ?_) (fun _ => ?_) <;> (try cbv)) | fail))
    (all_goals try (exfalso; rename_i h; simp only [Ops.not_eq, Ops.cmp_eq, icmp, Bool.not_false, Bool.not_true, reduceCtorEq] at h; done))
    refine ⟨by simp only [o.inb_eq]; exact decide_eq_true ⟨h0, h1⟩, ?_⟩
    simp only [Int.toNat_natCast, Int.ofNat_eq_natCast, Ops.get_eq, Ops.nadd_eq, Ops.nat_eq, Nat.zero_add, hk, hg]
    cbv
    exact hQ _ _ (ReV.id ⟨by simp [hi], by rw [hU2]⟩)
theorem Store_ev {W0 : World} (m : MemS) (a : Int) (w : Nat) : Ev Tryz.prog W0 103 [.ptr 0 0, .int .i64 a, .int .u64 w] (memU m) (fun v V' => v = .int .i64 (if m.inR a then 0 else 2) ∧ V' = memU (m.st a w)) := by
  obtain ⟨c1, c2, c3, hm⟩ := mem3 m
  rw [hm]
  refine Ev.out fun Q' hQ => ev103 rfl fun o => ?_
  generalize hU : memU (m.st a w) = U at hQ
  cbv
  refine callM o hm (step_ev m a) rfl rfl ?_
  cases hi : m.inR a with
  | false =>
    simp only [hi, Bool.false_eq_true, if_false]
    rw [hm]
    (cbv; repeat' (first | (refine mt (fun _ => ?_) (fun _ => ?_) <;> (try cbv)) | fail))
    (all_goals try (exfalso; rename_i h; simp only [Ops.not_eq, Ops.cmp_eq, icmp, Bool.not_false, Bool.not_true, reduceCtorEq] at h; done))
    refine hQ _ _ (ReV.id ⟨?_, ?_⟩)
    · simp [hi]
    · rw [← hm, ← hU]; simp [MemS.st, hi]
  | true =>
    obtain ⟨h0, h1⟩ := inR_iff.1 hi
    simp only [if_true]
    have hU2 : U = memU ((m.tick a).lay a w) := by rw [← hU]; simp [MemS.st, hi]
    obtain ⟨d1, d2, d3, hm2⟩ := mem3 (m.tick a)
    rw [hm2]
    (cbv; repeat' (first | (refine mt (fun _ => ?_) (fun _ => ?_) <;> (try cbv)) | fail))
    (all_goals try (exfalso; rename_i h; simp only [Ops.not_eq, Ops.cmp_eq, icmp, Bool.not_false, Bool.not_true, reduceCtorEq] at h; done))
    refine callM o hm2 (set_ev (m.tick a) a w h0 h1) rfl rfl ?_
    obtain ⟨e1, e2, e3, hm3⟩ := mem3 ((m.tick a).lay a w)
    rw [hm3]
    cbv
    exact hQ _ _ (ReV.id ⟨by simp [hi], by rw [hU2, hm3]⟩)
theorem Cas_ev {W0 : World} (m : MemS) (a : Int) (old w : Nat) : Ev Tryz.prog W0 161 [.ptr 0 0, .int .i64 a, .int .u64 old, .int .u64 w] (memU m) (fun v V' => v = .tup [.bool (m.cas a old w).1, .int .i64 (if m.inR a then 0 else 2)] ∧ V' = memU (m.cas a old w).2) := by
  obtain ⟨c1, c2, c3, hm⟩ := mem3 m
  rw [hm]
  refine Ev.out fun Q' hQ => ev161 rfl fun o => ?_
  generalize hU : memU (m.cas a old w).2 = U at hQ
  cbv
  refine callM o hm (step_ev m a) rfl rfl ?_
  cases hi : m.inR a with
  | false =>
    simp only [hi, Bool.false_eq_true, if_false]
    rw [hm]
    (cbv; repeat' (first | (refine mt (fun _ => ?_) (fun _ => ?_) <;> (try cbv)) | fail))
    (all_goals try (exfalso; rename_i h; simp only [Ops.not_eq, Ops.cmp_eq, icmp, Bool.not_false, Bool.not_true, reduceCtorEq] at h; done))
    refine hQ _ _ (ReV.id ⟨?_, ?_⟩)
    · simp [MemS.cas, hi]
    · rw [← hm, ← hU]; simp [MemS.cas, hi]
  | true =>
    obtain ⟨h0, h1⟩ := inR_iff.1 hi
    have hg := at_get m a h0 h1
    simp only [if_true]
    have hU2 : U = memU (if Nat.beq (m.at a).1 old then (m.tick a).lay a w else m.tick a) := by rw [← hU]; simp only [MemS.cas, hi, if_true]; split <;> rfl
    have hv : (m.cas a old w).1 = Nat.beq (m.at a).1 old := by simp only [MemS.cas, hi, if_true]; split <;> (rename_i e; simp [e])
    rw [hv] at hQ
    clear hU hv
    have hset := set_ev (W0 := W0) (m.tick a) a w h0 h1
    have hflat : memU (m.tick a) = [.cells [.sl 1 1 0 m.cs.length m.cs.length, .sl 2 1 0 m.cs.length m.cs.length, .int .i64 (w64 (m.steps + 1)), .int .i64 m.who, .int .i64 a, .int .i64 m.who, .bool false], .arr 1 (m.cs.map wcs) m.cs.length, .arr 1 (m.cs.map ncs) m.cs.length] := rfl
    generalize (m.at a).1 = u at *
    generalize hM1 : memU (m.tick a) = M1 at *
    generalize hM2 : memU ((m.tick a).lay a w) = M2 at *
    rw [hflat]
    generalize w64 (m.steps + 1) = st at *
    generalize m.cs.map wcs = xs at *
    generalize m.cs.map ncs = ys at *
    generalize m.cs.length = n at *
    generalize hk : a.toNat = k at *
    (cbv; repeat' (first | (refine mt (fun _ => ?_) (fun _ => ?_) <;> (try cbv)) | fail))
    (all_goals try (exfalso; rename_i h; simp only [Ops.not_eq, Ops.cmp_eq, icmp, Bool.not_false, Bool.not_true, reduceCtorEq] at h; done))
    refine ⟨by simp only [o.inb_eq]; exact decide_eq_true ⟨h0, h1⟩, ?_⟩
    simp only [Int.toNat_natCast, Int.ofNat_eq_natCast, Ops.get_eq, Ops.nadd_eq, Ops.nat_eq, Nat.zero_add, hk, hg]
    (cbv; repeat' (first | (refine mt (fun _ => ?_) (fun _ => ?_) <;> (try cbv)) | fail))
    · rename_i h
      simp only [o.cmp_eq, icmp, bne] at h; (try simp only [cfix] at *); (try simp only [Int.ofNat_eq_natCast] at *)
      simp only [beq_nat] at h
      have hb : Nat.beq u old = false := by simpa only [Bool.not_eq_true'] using h
      refine hQ _ _ (ReV.id ⟨by simp [hi, hb], ?_⟩)
      rw [hU2, hb, if_neg (by decide), hM1, hflat]
    · rename_i h
      simp only [o.cmp_eq, icmp, bne] at h; (try simp only [cfix] at *); (try simp only [Int.ofNat_eq_natCast] at *)
      simp only [beq_nat] at h
      have hb : Nat.beq u old = true := by simpa only [Bool.not_eq_false'] using h
      refine callM o (r := .tup []) (m := m.tick a) (m' := (m.tick a).lay a w) (hM1.trans hflat) (by rw [hM1, hM2]; exact hset) rfl rfl ?_
      obtain ⟨e1, e2, e3, hm3⟩ := mem3 ((m.tick a).lay a w)
      rw [hm3]
      cbv
      refine hQ _ _ (ReV.id ⟨by simp [hi, hb], ?_⟩)
      rw [hU2, hb, if_pos rfl, hm3]
theorem Add_ev {W0 : World} (m : MemS) (a d : Int) : Ev Tryz.prog W0 160 [.ptr 0 0, .int .i64 a, .int .u64 (IntKind.u64.wrap d)] (memU m) (fun v V' => v = .tup [.int .u64 (m.ld a).1, .int .i64 (if m.inR a then 0 else 2)] ∧ V' = memU (m.add a d)) := by
  obtain ⟨c1, c2, c3, hm⟩ := mem3 m
  rw [hm]
  refine Ev.out fun Q' hQ => ev160 rfl fun o => ?_
  generalize hU : memU (m.add a d) = U at hQ
  generalize hdw : IntKind.u64.wrap d = dw
  cbv
  refine callM o hm (step_ev m a) rfl rfl ?_
  cases hi : m.inR a with
  | false =>
    simp only [hi, Bool.false_eq_true, if_false]
    rw [hm]
    (cbv; repeat' (first | (refine mt (fun _ => ?_) (fun _ => ?_) <;> (try cbv)) | fail))
    (all_goals try (exfalso; rename_i h; simp only [Ops.not_eq, Ops.cmp_eq, icmp, Bool.not_false, Bool.not_true, reduceCtorEq] at h; done))
    refine hQ _ _ (ReV.id ⟨?_, ?_⟩)
    · simp [MemS.ld, hi]
    · rw [← hm, ← hU]; simp [MemS.add, hi]
  | true =>
    obtain ⟨h0, h1⟩ := inR_iff.1 hi
    have hg := at_get m a h0 h1
    simp only [if_true]
    have hU2 : U = memU ((m.tick a).lay a (((m.at a).1 + d) % 18446744073709551616).toNat) := by rw [← hU]; simp only [MemS.add, hi, if_true]
    have hv : (m.ld a).1 = (m.at a).1 := by simp [MemS.ld, hi]
    rw [hv] at hQ
    clear hU hv
    have hset := set_ev (W0 := W0) (m.tick a) a (((m.at a).1 + d) % 18446744073709551616).toNat h0 h1
    have hflat : memU (m.tick a) = [.cells [.sl 1 1 0 m.cs.length m.cs.length, .sl 2 1 0 m.cs.length m.cs.length, .int .i64 (w64 (m.steps + 1)), .int .i64 m.who, .int .i64 a, .int .i64 m.who, .bool false], .arr 1 (m.cs.map wcs) m.cs.length, .arr 1 (m.cs.map ncs) m.cs.length] := rfl
    have hsum : arith .add .u64 ((m.at a).1 : Int) dw = (((((m.at a).1 + d) % 18446744073709551616).toNat : Nat) : Int) := by
      rw [← hdw]; simp only [arith, u64w]; omega
    generalize (((m.at a).1 + d) % 18446744073709551616).toNat = w at *
    generalize (m.at a).1 = u at *
    generalize hM1 : memU (m.tick a) = M1 at *
    generalize hM2 : memU ((m.tick a).lay a w) = M2 at *
    rw [hflat]
    generalize w64 (m.steps + 1) = st at *
    generalize m.cs.map wcs = xs at *
    generalize m.cs.map ncs = ys at *
    generalize m.cs.length = n at *
    generalize hk : a.toNat = k at *
    (cbv; repeat' (first | (refine mt (fun _ => ?_) (fun _ => ?_) <;> (try cbv)) | fail))
    (all_goals try (exfalso; rename_i h; simp only [Ops.not_eq, Ops.cmp_eq, icmp, Bool.not_false, Bool.not_true, reduceCtorEq] at h; done))
    refine ⟨by simp only [o.inb_eq]; exact decide_eq_true ⟨h0, h1⟩, ?_⟩
    simp only [Int.toNat_natCast, Int.ofNat_eq_natCast, Ops.get_eq, Ops.nadd_eq, Ops.nat_eq, Nat.zero_add, hk, hg]
    cbv
    simp only [o.ar_eq]
    rw [show arith .add .u64 (Int.ofNat u) dw = (w : Int) from hsum]
    refine callM o (r := .tup []) (m := m.tick a) (m' := (m.tick a).lay a w) (hM1.trans hflat) (by rw [hM1, hM2]; exact hset) rfl rfl ?_
    obtain ⟨e1, e2, e3, hm3⟩ := mem3 ((m.tick a).lay a w)
    rw [hm3]
    cbv
    refine hQ _ _ (ReV.id ⟨by simp [hi], ?_⟩)
    rw [hU2, ← hM2, hm3]
theorem When_ev {W0 : World} (m : MemS) (a : Int) : Ev Tryz.prog W0 170 [.ptr 0 0, .int .i64 a] (memU m) (fun v V' => v = .int .i64 (m.whenAt a) ∧ V' = memU m) := by
  refine Ev.out fun Q' hQ => ev170 rfl fun o => ?_
  have hp : m.whenAt a = if m.inR a then (m.at a).2 else 0 := rfl
  have hg := at_getn m a
  have hi : ∀ b, m.inR a = b ↔ (decide (0 ≤ a) && decide (a < (m.cs.length : Int))) = b := fun b => Iff.rfl
  generalize m.inR a = I at *
  generalize m.whenAt a = R at *
  simp only [memU] at *
  generalize m.cs.map wcs = xs at *
  generalize m.cs.map ncs = ys at *
  generalize m.cs.length = n at *
  generalize (m.at a).2 = u at *
  generalize hk : a.toNat = k at *
  have h3 : I = true → 0 ≤ a ∧ a < (n : Int) := fun h => by have := (hi true).1 h; simpa using this
  have h4 : I = false → ¬ (0 ≤ a ∧ a < (n : Int)) := fun h hc => by have := (hi false).1 h; simp at this; omega
  clear hi
  (cbv; repeat' (first | (refine mt (fun _ => ?_) (fun _ => ?_) <;> (try cbv)) | fail))
  (all_goals try (exfalso; rename_i h; simp only [Ops.not_eq, Ops.cmp_eq, icmp, Bool.not_false, Bool.not_true, reduceCtorEq] at h; done))
  · rename_i h
    simp only [o.cmp_eq, icmp, decide_eq_true_eq] at h; (try simp only [cfix] at *); (try simp only [Int.ofNat_eq_natCast] at *)
    cases I with
    | false => exact hQ _ _ (ReV.id ⟨by simp [hp], rfl⟩)
    | true => have := h3 rfl; omega
  · rename_i h h2
    simp only [o.cmp_eq, icmp, decide_eq_true_eq, decide_eq_false_iff_not] at h h2; (try simp only [cfix] at *); (try simp only [Int.ofNat_eq_natCast] at *)
    cases I with
    | false => exact hQ _ _ (ReV.id ⟨by simp [hp], rfl⟩)
    | true => have := h3 rfl; omega
  · rename_i h h2
    simp only [o.cmp_eq, icmp, decide_eq_false_iff_not] at h h2; (try simp only [cfix] at *); (try simp only [Int.ofNat_eq_natCast] at *)
    cases I with
    | false => have := h4 rfl; omega
    | true =>
      obtain ⟨h0, h1⟩ := h3 rfl
      refine ⟨by simp only [o.inb_eq]; exact decide_eq_true ⟨h0, h1⟩, ?_⟩
      simp only [Int.toNat_natCast, Int.ofNat_eq_natCast, Ops.get_eq, Ops.nadd_eq, Ops.nat_eq, Nat.zero_add, hk, hg h0 h1]
      cbv
      exact hQ _ _ (ReV.id ⟨by simp [hp], rfl⟩)
theorem ReV.m0 {W0 : World} {Q : VV → List VB → Prop} {v : VV} {M : VB} {m : MemS} {rest : List VB} (hM : bx W0 (memU m) = M) (hv : ∀ n, rn (rho [0] n) v = v) (hq : Q v [bx W0 (memU m)]) : ReV W0 1 Q v (M :: rest) := by
  subst hM
  exact ReV.ren [0] v [bx W0 (memU m)] rfl rfl (hv _).symm ⟨.inr rfl, trivial⟩ hq
theorem eLoad_ev {W0 : World} (m : MemS) (e : EnvS) (a : Int) : Ev Tryz.prog W0 112 [e.v 0, .int .i64 a] [bx W0 (memU m)] (fun v V' => v = .int .u64 (eld e m a).1 ∧ V' = [bx W0 (memU (eld e m a).2)]) := by
  refine Ev.out fun Q' hQ => ev112 rfl fun o => ?_
  generalize hR : eld e m a = R at hQ
  generalize hM : bx W0 (memU m) = M
  cbv
  refine Ops.call _ [0] (Ev.boxM (By_ev m e.who) rfl) rfl rfl rfl ⟨.inr (by rw [← hM]; rfl), trivial⟩ ?_; rintro v V' ⟨rfl, rfl⟩; simp only [layB, lset, lapp, List.map_nil, List.map_cons, rnB_bx, rn, rnL]; clear hM; generalize hM : bx W0 (memU _) = M
  cbv
  refine Ops.call _ [0] (Ev.boxM (Load_ev (m.by e.who) a) rfl) rfl rfl rfl ⟨.inr (by rw [← hM]; rfl), trivial⟩ ?_; rintro v V' ⟨rfl, rfl⟩; simp only [layB, lset, lapp, List.map_nil, List.map_cons, rnB_bx, rn, rnL]; clear hM; generalize hM : bx W0 (memU _) = M
  generalize hv : ((m.by e.who).ld a).1 = u
  generalize (if (m.by e.who).inR a then (0 : Int) else 2) = x
  cbv
  refine hQ _ _ (ReV.m0 hM (fun _ => rfl) ⟨?_, ?_⟩)
  · rw [← hR, ← hv]; rfl
  · rw [← hR]; rfl
theorem eStore_ev {W0 : World} (m : MemS) (e : EnvS) (a : Int) (w : Nat) : Ev Tryz.prog W0 114 [e.v 0, .int .i64 a, .int .u64 w] [bx W0 (memU m)] (fun v V' => v = .tup [] ∧ V' = [bx W0 (memU (est e m a w))]) := by
  refine Ev.out fun Q' hQ => ev114 rfl fun o => ?_
  generalize hR : est e m a w = R at hQ
  generalize hM : bx W0 (memU m) = M
  cbv
  refine Ops.call _ [0] (Ev.boxM (By_ev m e.who) rfl) rfl rfl rfl ⟨.inr (by rw [← hM]; rfl), trivial⟩ ?_; rintro v V' ⟨rfl, rfl⟩; simp only [layB, lset, lapp, List.map_nil, List.map_cons, rnB_bx, rn, rnL]; clear hM; generalize hM : bx W0 (memU _) = M
  cbv
  refine Ops.call _ [0] (Ev.boxM (Store_ev (m.by e.who) a w) rfl) rfl rfl rfl ⟨.inr (by rw [← hM]; rfl), trivial⟩ ?_; rintro v V' ⟨rfl, rfl⟩; simp only [layB, lset, lapp, List.map_nil, List.map_cons, rnB_bx, rn, rnL]; clear hM; generalize hM : bx W0 (memU _) = M
  generalize (if (m.by e.who).inR a then (0 : Int) else 2) = x
  cbv
  refine hQ _ _ (ReV.m0 hM (fun _ => rfl) ⟨?_, ?_⟩)
  · rfl
  · rw [← hR]; rfl
theorem eCas_ev {W0 : World} (m : MemS) (e : EnvS) (a : Int) (old w : Nat) : Ev Tryz.prog W0 153 [e.v 0, .int .i64 a, .int .u64 old, .int .u64 w] [bx W0 (memU m)] (fun v V' => v = .bool (ecas e m a old w).1 ∧ V' = [bx W0 (memU (ecas e m a old w).2)]) := by
  refine Ev.out fun Q' hQ => ev153 rfl fun o => ?_
  generalize hR : ecas e m a old w = R at hQ
  generalize hM : bx W0 (memU m) = M
  cbv
  refine Ops.call _ [0] (Ev.boxM (By_ev m e.who) rfl) rfl rfl rfl ⟨.inr (by rw [← hM]; rfl), trivial⟩ ?_; rintro v V' ⟨rfl, rfl⟩; simp only [layB, lset, lapp, List.map_nil, List.map_cons, rnB_bx, rn, rnL]; clear hM; generalize hM : bx W0 (memU _) = M
  cbv
  refine Ops.call _ [0] (Ev.boxM (Cas_ev (m.by e.who) a old w) rfl) rfl rfl rfl ⟨.inr (by rw [← hM]; rfl), trivial⟩ ?_; rintro v V' ⟨rfl, rfl⟩; simp only [layB, lset, lapp, List.map_nil, List.map_cons, rnB_bx, rn, rnL]; clear hM; generalize hM : bx W0 (memU _) = M
  generalize hv : ((m.by e.who).cas a old w).1 = u
  generalize (if (m.by e.who).inR a then (0 : Int) else 2) = x
  cbv
  refine hQ _ _ (ReV.m0 hM (fun _ => rfl) ⟨?_, ?_⟩)
  · rw [← hR, ← hv]; rfl
  · rw [← hR]; rfl
theorem eAdd_ev {W0 : World} (m : MemS) (e : EnvS) (a d : Int) : Ev Tryz.prog W0 146 [e.v 0, .int .i64 a, .int .i64 d] [bx W0 (memU m)] (fun v V' => v = .tup [] ∧ V' = [bx W0 (memU (eadd e m a d))]) := by
  refine Ev.out fun Q' hQ => ev146 rfl fun o => ?_
  generalize hR : eadd e m a d = R at hQ
  generalize hM : bx W0 (memU m) = M
  cbv
  refine Ops.call _ [0] (Ev.boxM (By_ev m e.who) rfl) rfl rfl rfl ⟨.inr (by rw [← hM]; rfl), trivial⟩ ?_; rintro v V' ⟨rfl, rfl⟩; simp only [layB, lset, lapp, List.map_nil, List.map_cons, rnB_bx, rn, rnL]; clear hM; generalize hM : bx W0 (memU _) = M
  cbv
  simp only [o.wr_eq]
  refine Ops.call _ [0] (Ev.boxM (Add_ev (m.by e.who) a d) rfl) rfl rfl rfl ⟨.inr (by rw [← hM]; rfl), trivial⟩ ?_; rintro v V' ⟨rfl, rfl⟩; simp only [layB, lset, lapp, List.map_nil, List.map_cons, rnB_bx, rn, rnL]; clear hM; generalize hM : bx W0 (memU _) = M
  generalize hv : ((m.by e.who).ld a).1 = u
  generalize (if (m.by e.who).inR a then (0 : Int) else 2) = x
  cbv
  refine hQ _ _ (ReV.m0 hM (fun _ => rfl) ⟨?_, ?_⟩)
  · rfl
  · rw [← hR]; rfl
theorem eNow_ev {W0 : World} (m : MemS) (e : EnvS) : Ev Tryz.prog W0 29 [e.v 0] [bx W0 (memU m)] (fun v V' => v = .int .i64 m.steps ∧ V' = [bx W0 (memU m)]) := by
  refine Ev.out fun Q' hQ => ev29 rfl fun o => ?_
  generalize hM : bx W0 (memU m) = M
  cbv
  refine Ops.call _ [0] (Ev.boxM (Steps_ev m) rfl) rfl rfl rfl ⟨.inr (by rw [← hM]; rfl), trivial⟩ ?_; rintro v V' ⟨rfl, rfl⟩; simp only [layB, lset, lapp, List.map_nil, List.map_cons, rnB_bx, rn, rnL]; clear hM; generalize hM : bx W0 (memU _) = M
  cbv
  refine hQ _ _ (ReV.m0 hM (fun _ => rfl) ⟨?_, ?_⟩)
  · rfl
  · rfl
end Go.Proofs.YtglghdjpkecngaaGreat
