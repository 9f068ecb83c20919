/- hist: calls are ordered by the steps at which they took effect: the law. -/
import Derived.Test.YthoodnlihbaimaaHR
namespace Go.Proofs.Ythoodnlihbaimaa
set_option linter.unusedVariables false
set_option linter.unusedSimpArgs false
open Go Go.SL Go.FL
set_option maxRecDepth 100000
theorem orderA_ev {W0 : World} : Ev Try.prog W0 12 [.sl 0 18 0 0 (.n 0)] [.arr 18 [] (.n 0)] (fun v V' => v = .sl 1 18 0 0 (.n 0) ∧ V' = [.arr 18 [] (.n 0), .arr 18 [] (.n 0)]) := by
  refine Ev.out fun Q' hQ => ev12 rfl fun o => ?_
  (cbv; repeat' (first | (refine ⟨by simp only [Ops.need_eq, needs]; first | rfl | decide, ?_⟩; try cbv) | (refine mt (fun h => ?_) (fun h => ?_) <;> first | (exfalso; simp [Ops.cmp_eq, Ops.not_eq, icmp] at h; done) | (exfalso; simp [Ops.cmp_eq, icmp] at h; omega) | (try cbv))))
  refine ⟨fun k env V => ∃ r : Nat → Value, env = mix [(0, .sl 0 18 0 0 (.n 0)), (3, .sl 1 18 0 0 (.n 0)), (4, .int .i64 0)] r ∧ V = [.arr 18 [] (.n 0), .arr 18 [] (.n 0)], ⟨0, o.reI (Re.ren [0, 1] _ _ rfl rfl ?_ ?_ fun r => ⟨r, rfl, rfl⟩)⟩, ?_⟩
  · exact ⟨rfl, rfl, rfl, trivial⟩
  · exact ⟨.inr rfl, .inr rfl, trivial⟩
  rintro k env V ⟨r, rfl, rfl⟩
  (cbv; repeat' (first | (refine ⟨by simp only [Ops.need_eq, needs]; first | rfl | decide, ?_⟩; try cbv) | (refine mt (fun h => ?_) (fun h => ?_) <;> first | (exfalso; simp [Ops.cmp_eq, Ops.not_eq, icmp] at h; done) | (exfalso; simp [Ops.cmp_eq, icmp] at h; omega) | (try cbv))))
  exact hQ _ _ (ReV.ren [0, 1] (.sl 1 18 0 0 (.n 0)) [.arr 18 [] (.n 0), .arr 18 [] (.n 0)] rfl rfl rfl ⟨.inr rfl, .inr rfl, trivial⟩ ⟨rfl, rfl⟩)
theorem eqL_cs (t : Told) : eqL t.cs t.cs = true := by simp [Told.cs, eqL, eqV]
theorem HistOrder_ev {W0 : World} (l : List Told) (oid : Option Nat) (cap : Nat) (ho : oid = some 0 ∨ (oid = none ∧ l = [])) : Ev Try.prog W0 3 [.osl oid 18 0 l.length cap] [.ro 18 (l.map Told.cs)] (fun v V' => v = .bool true) := by
  have hc := cutAll_ev (W0 := W0) l oid cap ho
  have hpl := Told.plain l
  have hXr : ∀ ρ, rnB ρ (.ro 18 (l.map Told.cs)) = .ro 18 (l.map Told.cs) := fun ρ => by simp only [rnB, hpl _]
  have hlen := cut40_len l
  have ho2 : oid = some 0 ∨ (oid = none ∧ l.length = 0) := by
    rcases ho with h | ⟨h, rfl⟩
    · exact .inl h
    · exact .inr ⟨h, rfl⟩
  have hB := OrderB_ev (W0 := W0) (cut40 l) (by omega) (cut_low l)
  have hB2 := order_ev (W0 := W0) (cut40 l) (by omega)
  rw [orderT_st] at hB2
  have hpy := Told.plain (cut40 l)
  have hpz := Told.plain (st key (cut40 l))
  have hzl : (st key (cut40 l)).length = (cut40 l).length := st_len _
  have hgz := tat_get (st key (cut40 l))
  rw [hzl] at hgz
  have haw := awake20_ev (W0 := W0)
  have hst := out_st (.ro 18 (l.map Told.cs)) ((cut40 l).map Told.cs) (cut40 l).length
  clear ho hpl
  refine Ev.out fun Q' hQ => ?_
  generalize hzt : tat (st key (cut40 l)) = zt at *
  generalize (st key (cut40 l)).map Told.cs = zs at *
  generalize (cut40 l).map Told.cs = ys at *
  generalize (cut40 l).length = n at *
  generalize l.map Told.cs = xs at *
  generalize l.length = nx at *
  clear hzl hzt
  have hr : ∀ (ρ : Nat → Nat) c, rnB ρ (.arr 18 ys c) = .arr 18 ys (c.rn ρ) := by intro ρ c; simp only [rnB, hpy _]
  have hrz : ∀ (ρ : Nat → Nat) c, rnB ρ (.arr 18 zs c) = .arr 18 zs (c.rn ρ) := by intro ρ c; simp only [rnB, hpz _]
  generalize n * 18 = tt at *
  refine ev3 rfl fun o => ?_
  (cbv; repeat' (first | (refine ⟨by simp only [Ops.need_eq, needs]; first | rfl | decide, ?_⟩; try cbv) | (refine mt (fun h => ?_) (fun h => ?_) <;> first | (exfalso; simp [Ops.cmp_eq, Ops.not_eq, icmp] at h; done) | (exfalso; simp [Ops.cmp_eq, icmp] at h; omega) | (try cbv))))
  refine Ops.call _ [0] hc (by rcases ho2 with rfl | ⟨rfl, _⟩ <;> rfl) rfl rfl ⟨.inr (by rw [hXr]; rfl), trivial⟩ ?_
  rintro v V' ⟨rfl, rfl⟩
  rcases hst with ⟨hi, e1, e2⟩ | ⟨hi, e1, e2⟩
  · rw [e1, e2]
    clear e1 e2 hB hB2 hgz
    simp only [layB, lset, lapp, List.map_nil, List.map_cons, hXr, rn, rnL, Cap.rn]
    (cbv; repeat' (first | (refine ⟨by simp only [Ops.need_eq, needs]; first | rfl | decide, ?_⟩; try cbv) | (refine mt (fun h => ?_) (fun h => ?_) <;> first | (exfalso; simp [Ops.cmp_eq, Ops.not_eq, icmp] at h; done) | (exfalso; simp [Ops.cmp_eq, icmp] at h; omega) | (try cbv))))
    refine Ops.call _ [1] OrderA_ev rfl rfl rfl ⟨.inr rfl, trivial⟩ ?_
    rintro v V' ⟨rfl, rfl⟩
    simp only [layB, lset, lapp, List.map_nil, List.map_cons, rn, rnL, Cap.rn]
    (cbv; repeat' (first | (refine ⟨by simp only [Ops.need_eq, needs]; first | rfl | decide, ?_⟩; try cbv) | (refine mt (fun h => ?_) (fun h => ?_) <;> first | (exfalso; simp [Ops.cmp_eq, Ops.not_eq, icmp] at h; done) | (exfalso; simp [Ops.cmp_eq, icmp] at h; omega) | (try cbv))))
    refine Ops.call _ [1] orderA_ev rfl rfl rfl ⟨.inr rfl, trivial⟩ ?_
    rintro v V' ⟨rfl, rfl⟩
    simp only [layB, lset, lapp, List.map_nil, List.map_cons, rn, rnL, Cap.rn]
    (cbv; repeat' (first | (refine ⟨by simp only [Ops.need_eq, needs]; first | rfl | decide, ?_⟩; try cbv) | (refine mt (fun h => ?_) (fun h => ?_) <;> first | (exfalso; simp [Ops.cmp_eq, Ops.not_eq, icmp] at h; done) | (exfalso; simp [Ops.cmp_eq, icmp] at h; omega) | (try cbv))))
    refine Ops.call0 _ (haw) rfl ?_; rintro v V' ⟨rfl, rfl⟩; simp only [lapp, List.map_nil, rn, rnL]
    (cbv; repeat' (first | (refine ⟨by simp only [Ops.need_eq, needs]; first | rfl | decide, ?_⟩; try cbv) | (refine mt (fun h => ?_) (fun h => ?_) <;> first | (exfalso; simp [Ops.cmp_eq, Ops.not_eq, icmp] at h; done) | (exfalso; simp [Ops.cmp_eq, icmp] at h; omega) | (try cbv))))
    refine ⟨fun k env V => ∃ r : Nat → Value, env = mix [(5, .sl 1 18 0 0 (.n 0)), (6, .int .i64 0)] r ∧ V = [.ro 18 xs, .arr 18 [] (.n 0)], ⟨0, o.reI (Re.ren [0, 3] _ _ rfl rfl ?_ ?_ fun r => ⟨r, rfl, rfl⟩)⟩, ?_⟩
    · exact ⟨rfl, rfl, trivial⟩
    · exact ⟨.inr (by rw [hXr]; rfl), .inr rfl, trivial⟩
    rintro k env V ⟨r, rfl, rfl⟩
    (cbv; repeat' (first | (refine ⟨by simp only [Ops.need_eq, needs]; first | rfl | decide, ?_⟩; try cbv) | (refine mt (fun h => ?_) (fun h => ?_) <;> first | (exfalso; simp [Ops.cmp_eq, Ops.not_eq, icmp] at h; done) | (exfalso; simp [Ops.cmp_eq, icmp] at h; omega) | (try cbv))))
    exact hQ _ _ (ReV.ren [0] (.bool true) [.ro 18 xs] rfl rfl rfl ⟨.inr (by rw [hXr]; rfl), trivial⟩ rfl)
  · rw [e1, e2]
    clear e1 e2
    have r1 : ∀ m, rho [0] m 1 = m := fun _ => rfl
    have hr2 : ∀ ρ : Nat → Nat, rnB ρ .num = .num := fun _ => rfl
    simp only [layB, lset, lapp, List.map_nil, List.map_cons, hXr, hr, hr2, rn, rnL, Cap.rn]
    (cbv; repeat' (first | (refine ⟨by simp only [Ops.need_eq, needs]; first | rfl | decide, ?_⟩; try cbv) | (refine mt (fun h => ?_) (fun h => ?_) <;> first | (exfalso; simp [Ops.cmp_eq, Ops.not_eq, icmp] at h; done) | (exfalso; simp [Ops.cmp_eq, icmp] at h; omega) | (try cbv))))
    refine Ops.call _ [1, 2] hB rfl rfl rfl ⟨.inr rfl, .inr (by rw [hr]; rfl), trivial⟩ ?_
    rintro v V' ⟨rfl, rfl⟩
    simp only [layB, lset, lapp, List.map_nil, List.map_cons, hr, hrz, hr2, rn, rnL, Cap.rn]
    (cbv; repeat' (first | (refine ⟨by simp only [Ops.need_eq, needs]; first | rfl | decide, ?_⟩; try cbv) | (refine mt (fun h => ?_) (fun h => ?_) <;> first | (exfalso; simp [Ops.cmp_eq, Ops.not_eq, icmp] at h; done) | (exfalso; simp [Ops.cmp_eq, icmp] at h; omega) | (try cbv))))
    refine Ops.call _ [1, 2] hB2 rfl rfl rfl ⟨.inr rfl, .inr (by rw [hr]; rfl), trivial⟩ ?_
    rintro v V' ⟨c, tot, htot, hcn, rfl, rfl⟩
    simp only [layB, lset, lapp, List.map_nil, List.map_cons, hr, hrz, hr2, rn, rnL, Cap.rn]
    (cbv; repeat' (first | (refine ⟨by simp only [Ops.need_eq, needs]; first | rfl | decide, ?_⟩; try cbv) | (refine mt (fun h => ?_) (fun h => ?_) <;> first | (exfalso; simp [Ops.cmp_eq, Ops.not_eq, icmp] at h; done) | (exfalso; simp [Ops.cmp_eq, icmp] at h; omega) | (try cbv))))
    refine Ops.call0 _ (haw) rfl ?_; rintro v V' ⟨rfl, rfl⟩; simp only [lapp, List.map_nil, rn, rnL]
    (cbv; repeat' (first | (refine ⟨by simp only [Ops.need_eq, needs]; first | rfl | decide, ?_⟩; try cbv) | (refine mt (fun h => ?_) (fun h => ?_) <;> first | (exfalso; simp [Ops.cmp_eq, Ops.not_eq, icmp] at h; done) | (exfalso; simp [Ops.cmp_eq, icmp] at h; omega) | (try cbv))))
    refine ⟨fun k env V => ∃ (i : Nat) (r : Nat → Value), i ≤ n ∧ k = n - i ∧ env = mix [(4, .sl 1 18 0 n (.n n)), (5, .sl 2 18 0 n (.n c)), (6, .int .i64 i)] r ∧ V = [.ro 18 xs, .arr 18 zs (.n tt), .arr 18 zs (.n tot)], ⟨n, o.reI (Re.ren [0, 3, 4] _ _ rfl rfl ?_ ?_ fun r => ⟨0, r, Nat.zero_le _, rfl, rfl, rfl⟩)⟩, ?_⟩
    · exact ⟨rfl, rfl, rfl, trivial⟩
    · exact ⟨.inr (by rw [hXr]; rfl), .inr (by rw [hrz]; rfl), .inr (by rw [hrz]; rfl), trivial⟩
    rintro k env V ⟨i, r, hin, hk, rfl, rfl⟩
    by_cases hlt : i < n
    · have hg := hgz i hlt
      have heq := eqL_cs (zt i)
      have hi1 := add1 (i := i) (by omega)
      clear hgz hB hB2 hc haw
      generalize zt i = u at *
      obtain ⟨u1, u2, u3, u4, u5, u6, u7, u8, u9, u10, u11, u12, u13, u14, u15, u16, u17, u18⟩ := u
      simp only [Told.cs] at hg heq
      (cbv; repeat' (first | (refine ⟨by simp only [Ops.need_eq, needs]; first | rfl | decide, ?_⟩; try cbv) | (refine mt (fun h => ?_) (fun h => ?_) <;> first | (exfalso; simp [Ops.cmp_eq, Ops.not_eq, icmp] at h; done) | (exfalso; simp [Ops.cmp_eq, icmp] at h; omega) | (try cbv))))
      refine ⟨by simp only [Ops.inb_eq]; exact decide_eq_true ⟨by first | exact (Int.natCast_nonneg i) | (simp only [Int.ofNat_eq_natCast]; exact (Int.natCast_nonneg i)), by first | exact (show (i : Int) < n by omega) | (simp only [Int.ofNat_eq_natCast]; exact (show (i : Int) < n by omega))⟩, ?_⟩
      simp only [Int.toNat_natCast, Int.ofNat_eq_natCast, Ops.get_eq, Ops.nadd_eq, Ops.nat_eq, Nat.zero_add, hg]
      (cbv; repeat' (first | (refine ⟨by simp only [Ops.need_eq, needs]; first | rfl | decide, ?_⟩; try cbv) | (refine mt (fun h => ?_) (fun h => ?_) <;> first | (exfalso; simp [Ops.cmp_eq, Ops.not_eq, icmp] at h; done) | (exfalso; simp [Ops.cmp_eq, icmp] at h; omega) | (try cbv))))
      refine ⟨by simp only [Ops.inb_eq]; exact decide_eq_true ⟨by first | exact (Int.natCast_nonneg i) | (simp only [Int.ofNat_eq_natCast]; exact (Int.natCast_nonneg i)), by first | exact (show (i : Int) < n by omega) | (simp only [Int.ofNat_eq_natCast]; exact (show (i : Int) < n by omega))⟩, ?_⟩
      simp only [Int.toNat_natCast, Int.ofNat_eq_natCast, Ops.get_eq, Ops.nadd_eq, Ops.nat_eq, Nat.zero_add, hg]
      (cbv; repeat' (first | (refine ⟨by simp only [Ops.need_eq, needs]; first | rfl | decide, ?_⟩; try cbv) | (refine mt (fun h => ?_) (fun h => ?_) <;> first | (exfalso; simp [Ops.cmp_eq, Ops.not_eq, Ops.beq_eq, icmp, Ops.eqs_eq, heq] at h; done) | (exfalso; simp [Ops.cmp_eq, Ops.not_eq, Ops.beq_eq, icmp, Ops.eqs_eq, heq] at h; omega) | (try cbv))))
      refine ⟨k - 1, by omega, o.reI (Re.ren [0, 1, 2] _ _ rfl rfl ?_ ?_ fun r => ⟨i + 1, r, by omega, by omega, rfl, rfl⟩)⟩
      · exact ⟨rfl, rfl, congrArg (VV.int .i64) (by simp only [Ops.ar_eq]; exact hi1), trivial⟩
      · exact ⟨.inr (by rw [hXr]; rfl), .inr (by rw [hrz]; rfl), .inr (by rw [hrz]; rfl), trivial⟩
    · have : i = n := by omega
      subst this
      (cbv; repeat' (first | (refine ⟨by simp only [Ops.need_eq, needs]; first | rfl | decide, ?_⟩; try cbv) | (refine mt (fun h => ?_) (fun h => ?_) <;> first | (exfalso; simp [Ops.cmp_eq, Ops.not_eq, icmp] at h; done) | (exfalso; simp [Ops.cmp_eq, icmp] at h; omega) | (try cbv))))
      exact hQ _ _ (ReV.ren [0] (.bool true) [.ro 18 xs] rfl rfl rfl ⟨.inr (by rw [hXr]; rfl), trivial⟩ rfl)
end Go.Proofs.Ythoodnlihbaimaa
