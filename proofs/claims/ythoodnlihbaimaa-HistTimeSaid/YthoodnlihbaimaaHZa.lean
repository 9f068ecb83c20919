/- hist: of linear calls one that ended ahead of another one's beginning took effect ahead of it: the law. -/
import Derived.Test.YthoodnlihbaimaaHZ
namespace Go.Proofs.Ythoodnlihbaimaa
set_option linter.unusedVariables false
set_option linter.unusedSimpArgs false
open Go Go.SL Go.FL
set_option maxRecDepth 100000
theorem within_at {l : List Told} (h : withinT l = true) {i : Nat} (hi : i < l.length) : (tat l i).began ≤ (tat l i).stamp ∧ (tat l i).stamp ≤ (tat l i).ended := by
  unfold withinT wto at h
  have := List.all_eq_true.1 h i (List.mem_range.2 hi)
  unfold wok at this
  simp at this
  omega
set_option maxHeartbeats 1000000 in
theorem HistTime_ev {W0 : World} (l : List Told) (oid : Option Nat) (cap : Nat) (ho : oid = some 0 ∨ (oid = none ∧ l = [])) : Ev Try.prog W0 5 [.osl oid 18 0 l.length cap] [.ro 18 (l.map Told.cs)] (fun v V' => v = .bool true) := by
  have hc := cutAll_ev (W0 := W0) l oid cap ho
  have hpl := Told.plain l
  have hXr : ∀ ρ, rnB ρ (.ro 18 (l.map Told.cs)) = .ro 18 (l.map Told.cs) := fun ρ => by simp only [rnB, hpl _]
  have hlen := cut40_len l
  have ho2 : oid = some 0 ∨ (oid = none ∧ l.length = 0) := by
    rcases ho with h | ⟨h, rfl⟩
    · exact .inl h
    · exact .inr ⟨h, rfl⟩
  have hB := LinearB_ev (W0 := W0) (cut40 l) (by omega) (cut_low l) (cut40_ok l)
  have hpy := Told.plain (cut40 l)
  have hgy := tat_get (cut40 l)
  have hat : linT (cut40 l) = true → ∀ i, i < (cut40 l).length → (tat (cut40 l) i).began ≤ (tat (cut40 l) i).stamp ∧ (tat (cut40 l) i).stamp ≤ (tat (cut40 l) i).ended := fun h i hi => within_at (by unfold linT at h; simp at h; exact h.2) hi
  have haw := awake20_ev (W0 := W0)
  have hst := out_st (.ro 18 (l.map Told.cs)) ((cut40 l).map Told.cs) (cut40 l).length
  clear ho hpl
  refine Ev.out fun Q' hQ => ?_
  generalize linT (cut40 l) = lt at *
  generalize tat (cut40 l) = zt at *
  generalize (cut40 l).map Told.cs = ys at *
  generalize (cut40 l).length = n at *
  generalize l.map Told.cs = xs at *
  generalize l.length = nx at *
  have hr : ∀ (ρ : Nat → Nat) c, rnB ρ (.arr 18 ys c) = .arr 18 ys (c.rn ρ) := by intro ρ c; simp only [rnB, hpy _]
  refine ev5 rfl fun o => ?_
  (cbv; repeat' (first | (refine ⟨by simp only [Ops.need_eq, needs]; first | rfl | decide, ?_⟩; try cbv) | (refine mt (fun h => ?_) (fun h => ?_) <;> first | (exfalso; simp [Ops.cmp_eq, Ops.not_eq, icmp] at h; done) | (exfalso; simp [Ops.cmp_eq, icmp] at h; omega) | (try cbv))))
  refine Ops.call _ [0] hc (by rcases ho2 with rfl | ⟨rfl, _⟩ <;> rfl) rfl rfl ⟨.inr (by rw [hXr]; rfl), trivial⟩ ?_
  rintro v V' ⟨rfl, rfl⟩
  rcases hst with ⟨hi, e1, e2⟩ | ⟨hi, e1, e2⟩
  · rw [e1, e2]
    clear e1 e2 hB hgy hat
    simp only [layB, lset, lapp, List.map_nil, List.map_cons, hXr, rn, rnL, Cap.rn]
    (cbv; repeat' (first | (refine ⟨by simp only [Ops.need_eq, needs]; first | rfl | decide, ?_⟩; try cbv) | (refine mt (fun h => ?_) (fun h => ?_) <;> first | (exfalso; simp [Ops.cmp_eq, Ops.not_eq, icmp] at h; done) | (exfalso; simp [Ops.cmp_eq, icmp] at h; omega) | (try cbv))))
    refine Ops.call0 _ (haw) rfl ?_; rintro v V' ⟨rfl, rfl⟩; simp only [lapp, List.map_nil, rn, rnL]
    (cbv; repeat' (first | (refine ⟨by simp only [Ops.need_eq, needs]; first | rfl | decide, ?_⟩; try cbv) | (refine mt (fun h => ?_) (fun h => ?_) <;> first | (exfalso; simp [Ops.cmp_eq, Ops.not_eq, icmp] at h; done) | (exfalso; simp [Ops.cmp_eq, icmp] at h; omega) | (try cbv))))
    refine Ops.call _ [1] LinearA_ev rfl rfl rfl ⟨.inr rfl, trivial⟩ ?_
    rintro v V' ⟨rfl, rfl⟩
    simp only [layB, lset, lapp, List.map_nil, List.map_cons, rn, rnL, Cap.rn]
    (cbv; repeat' (first | (refine ⟨by simp only [Ops.need_eq, needs]; first | rfl | decide, ?_⟩; try cbv) | (refine mt (fun h => ?_) (fun h => ?_) <;> first | (exfalso; simp [Ops.cmp_eq, Ops.not_eq, icmp] at h; done) | (exfalso; simp [Ops.cmp_eq, icmp] at h; omega) | (try cbv))))
    refine ⟨fun k env V => ∃ r : Nat → Value, env = mix [(3, .sl 1 18 0 0 (.n 0)), (4, .int .i64 0)] r ∧ V = [.ro 18 xs, .arr 18 [] (.n 0)], ⟨0, o.reI (Re.ren [0, 1] _ _ rfl rfl ?_ ?_ fun r => ⟨r, rfl, rfl⟩)⟩, ?_⟩
    · exact ⟨rfl, rfl, trivial⟩
    · exact ⟨.inr (by rw [hXr]; rfl), .inr rfl, trivial⟩
    rintro k env V ⟨r, rfl, rfl⟩
    (cbv; repeat' (first | (refine ⟨by simp only [Ops.need_eq, needs]; first | rfl | decide, ?_⟩; try cbv) | (refine mt (fun h => ?_) (fun h => ?_) <;> first | (exfalso; simp [Ops.cmp_eq, Ops.not_eq, icmp] at h; done) | (exfalso; simp [Ops.cmp_eq, icmp] at h; omega) | (try cbv))))
    exact hQ _ _ (ReV.ren [0] (.bool true) [.ro 18 xs] rfl rfl rfl ⟨.inr (by rw [hXr]; rfl), trivial⟩ rfl)
  · rw [e1, e2]
    clear e1 e2
    have r1 : ∀ m, rho [0] m 1 = m := fun _ => rfl
    have hr2 : ∀ ρ : Nat → Nat, rnB ρ .num = .num := fun _ => rfl
    simp only [layB, lset, lapp, List.map_nil, List.map_cons, hXr, hr, hr2, rn, rnL, Cap.rn]
    (cbv; repeat' (first | (refine ⟨by simp only [Ops.need_eq, needs]; first | rfl | decide, ?_⟩; try cbv) | (refine mt (fun h => ?_) (fun h => ?_) <;> first | (exfalso; simp [Ops.cmp_eq, Ops.not_eq, icmp] at h; done) | (exfalso; simp [Ops.cmp_eq, icmp] at h; omega) | (try cbv))))
    refine Ops.call0 _ (haw) rfl ?_; rintro v V' ⟨rfl, rfl⟩; simp only [lapp, List.map_nil, rn, rnL]
    (cbv; repeat' (first | (refine ⟨by simp only [Ops.need_eq, needs]; first | rfl | decide, ?_⟩; try cbv) | (refine mt (fun h => ?_) (fun h => ?_) <;> first | (exfalso; simp [Ops.cmp_eq, Ops.not_eq, icmp] at h; done) | (exfalso; simp [Ops.cmp_eq, icmp] at h; omega) | (try cbv))))
    refine Ops.call _ [1, 2] hB rfl rfl rfl ⟨.inr rfl, .inr (by rw [hr]; rfl), trivial⟩ ?_
    rintro v V' ⟨rfl, rfl⟩
    simp only [layB, lset, lapp, List.map_nil, List.map_cons, hr, hr2, rn, rnL, Cap.rn]
    cases lt
    · clear hat hgy
      (cbv; repeat' (first | (refine ⟨by simp only [Ops.need_eq, needs]; first | rfl | decide, ?_⟩; try cbv) | (refine mt (fun h => ?_) (fun h => ?_) <;> first | (exfalso; simp [Ops.cmp_eq, Ops.not_eq, icmp] at h; done) | (exfalso; simp [Ops.cmp_eq, icmp] at h; omega) | (try cbv))))
      refine Ops.call0 _ (haw) rfl ?_; rintro v V' ⟨rfl, rfl⟩; simp only [lapp, List.map_nil, rn, rnL]
      (cbv; repeat' (first | (refine ⟨by simp only [Ops.need_eq, needs]; first | rfl | decide, ?_⟩; try cbv) | (refine mt (fun h => ?_) (fun h => ?_) <;> first | (exfalso; simp [Ops.cmp_eq, Ops.not_eq, icmp] at h; done) | (exfalso; simp [Ops.cmp_eq, icmp] at h; omega) | (try cbv))))
      exact hQ _ _ (ReV.ren [0] (.bool true) [.ro 18 xs] rfl rfl rfl ⟨.inr (by rw [hXr]; rfl), trivial⟩ rfl)
    · have hat := hat rfl
      clear hB hc
      (cbv; repeat' (first | (refine ⟨by simp only [Ops.need_eq, needs]; first | rfl | decide, ?_⟩; try cbv) | (refine mt (fun h => ?_) (fun h => ?_) <;> first | (exfalso; simp [Ops.cmp_eq, Ops.not_eq, icmp] at h; done) | (exfalso; simp [Ops.cmp_eq, icmp] at h; omega) | (try cbv))))
      refine ⟨fun m env V => ∃ (i : Nat) (r : Nat → Value), i ≤ n ∧ m = n - i ∧ env = mix [(3, .sl 2 18 0 n (.v 1)), (4, .int .i64 i)] r ∧ V = [.ro 18 xs, .num, .arr 18 ys (.v 1)], ⟨n, o.reI (Re.ren [0, 1, 2] _ _ rfl rfl ?_ ?_ fun r => ⟨0, r, Nat.zero_le _, rfl, rfl, rfl⟩)⟩, ?_⟩
      · exact ⟨rfl, rfl, trivial⟩
      · exact ⟨.inr (by rw [hXr]; rfl), .inr rfl, .inr (by rw [hr]; rfl), trivial⟩
      rintro m env V ⟨i, r, hin, hm, rfl, rfl⟩
      by_cases hlt : i < n
      · have hi1 := add1 (i := i) (by omega)
        (cbv; repeat' (first | (refine ⟨by simp only [Ops.need_eq, needs]; first | rfl | decide, ?_⟩; try cbv) | (refine mt (fun h => ?_) (fun h => ?_) <;> first | (exfalso; simp [Ops.cmp_eq, Ops.not_eq, icmp] at h; done) | (exfalso; simp [Ops.cmp_eq, icmp] at h; omega) | (try cbv))))
        refine ⟨fun m env V => ∃ (k : Nat) (r : Nat → Value), k ≤ n ∧ m = n - k ∧ env = mix [(3, .sl 2 18 0 n (.v 1)), (4, .int .i64 i), (5, .int .i64 k)] r ∧ V = [.ro 18 xs, .num, .arr 18 ys (.v 1)], ⟨n, o.reI (Re.ren [0, 1, 2] _ _ rfl rfl ?_ ?_ fun r => ⟨0, r, Nat.zero_le _, rfl, rfl, rfl⟩)⟩, ?_⟩
        · exact ⟨rfl, rfl, rfl, trivial⟩
        · exact ⟨.inr (by rw [hXr]; rfl), .inr rfl, .inr (by rw [hr]; rfl), trivial⟩
        rintro m' env V ⟨k, r, hkn, hm', rfl, rfl⟩
        by_cases hlk : k < n
        · have hk1 := add1 (i := k) (by omega)
          have hgi := hgy i hlt
          have hgk := hgy k hlk
          have hai := hat i hlt
          have hak := hat k hlk
          clear hgy hat
          generalize zt i = u at *
          generalize zt k = w at *
          obtain ⟨u1, u2, u3, u4, u5, u6, u7, u8, u9, u10, u11, u12, u13, u14, u15, u16, u17, u18⟩ := u
          obtain ⟨w1, w2, w3, w4, w5, w6, w7, w8, w9, w10, w11, w12, w13, w14, w15, w16, w17, w18⟩ := w
          simp only [Told.cs] at hgi hgk
          simp only at hai hak
          have hnot : u18 < w17 → ¬ u16 ≥ w16 := by omega
          by_cases hc : u18 < w17
          · have hnot := hnot hc
            (cbv; repeat' (first | (refine ⟨by simp only [Ops.need_eq, needs]; first | rfl | decide, ?_⟩; try cbv) | (refine mt (fun h => ?_) (fun h => ?_) <;> first | (exfalso; simp [Ops.cmp_eq, Ops.not_eq, icmp] at h; done) | (exfalso; simp [Ops.cmp_eq, icmp] at h; omega) | (try cbv))))
            refine ⟨by simp only [Ops.inb_eq]; exact decide_eq_true ⟨by first | exact (Int.natCast_nonneg i) | (simp only [Int.ofNat_eq_natCast]; exact (Int.natCast_nonneg i)), by first | exact (show (i : Int) < n by omega) | (simp only [Int.ofNat_eq_natCast]; exact (show (i : Int) < n by omega))⟩, ?_⟩
            simp only [Int.toNat_natCast, Int.ofNat_eq_natCast, Ops.get_eq, Ops.nadd_eq, Ops.nat_eq, Nat.zero_add, hgi]
            (cbv; repeat' (first | (refine ⟨by simp only [Ops.need_eq, needs]; first | rfl | decide, ?_⟩; try cbv) | (refine mt (fun h => ?_) (fun h => ?_) <;> first | (exfalso; simp [Ops.cmp_eq, Ops.not_eq, icmp] at h; done) | (exfalso; simp [Ops.cmp_eq, icmp] at h; omega) | (try cbv))))
            refine ⟨by simp only [Ops.inb_eq]; exact decide_eq_true ⟨by first | exact (Int.natCast_nonneg k) | (simp only [Int.ofNat_eq_natCast]; exact (Int.natCast_nonneg k)), by first | exact (show (k : Int) < n by omega) | (simp only [Int.ofNat_eq_natCast]; exact (show (k : Int) < n by omega))⟩, ?_⟩
            simp only [Int.toNat_natCast, Int.ofNat_eq_natCast, Ops.get_eq, Ops.nadd_eq, Ops.nat_eq, Nat.zero_add, hgk]
            (cbv; repeat' (first | (refine ⟨by simp only [Ops.need_eq, needs]; first | rfl | decide, ?_⟩; try cbv) | (refine mt (fun h => ?_) (fun h => ?_) <;> first | (exfalso; simp [Ops.cmp_eq, Ops.not_eq, icmp] at h; done) | (exfalso; simp [Ops.cmp_eq, icmp] at h; omega) | (try cbv))))
            refine ⟨by simp only [Ops.inb_eq]; exact decide_eq_true ⟨by first | exact (Int.natCast_nonneg i) | (simp only [Int.ofNat_eq_natCast]; exact (Int.natCast_nonneg i)), by first | exact (show (i : Int) < n by omega) | (simp only [Int.ofNat_eq_natCast]; exact (show (i : Int) < n by omega))⟩, ?_⟩
            simp only [Int.toNat_natCast, Int.ofNat_eq_natCast, Ops.get_eq, Ops.nadd_eq, Ops.nat_eq, Nat.zero_add, hgi]
            (cbv; repeat' (first | (refine ⟨by simp only [Ops.need_eq, needs]; first | rfl | decide, ?_⟩; try cbv) | (refine mt (fun h => ?_) (fun h => ?_) <;> first | (exfalso; simp [Ops.cmp_eq, Ops.not_eq, icmp] at h; done) | (exfalso; simp [Ops.cmp_eq, icmp] at h; omega) | (try cbv))))
            refine ⟨by simp only [Ops.inb_eq]; exact decide_eq_true ⟨by first | exact (Int.natCast_nonneg k) | (simp only [Int.ofNat_eq_natCast]; exact (Int.natCast_nonneg k)), by first | exact (show (k : Int) < n by omega) | (simp only [Int.ofNat_eq_natCast]; exact (show (k : Int) < n by omega))⟩, ?_⟩
            simp only [Int.toNat_natCast, Int.ofNat_eq_natCast, Ops.get_eq, Ops.nadd_eq, Ops.nat_eq, Nat.zero_add, hgk]
            (cbv; repeat' (first | (refine ⟨by simp only [Ops.need_eq, needs]; first | rfl | decide, ?_⟩; try cbv) | (refine mt (fun h => ?_) (fun h => ?_) <;> first | (exfalso; simp [Ops.cmp_eq, Ops.not_eq, icmp] at h; done) | (exfalso; simp [Ops.cmp_eq, icmp] at h; omega) | (try cbv))))
            refine ⟨n - (k + 1), by omega, o.reI (Re.ren [0, 1, 2] _ _ rfl rfl ?_ ?_ fun r => ⟨k + 1, r, by omega, rfl, rfl, rfl⟩)⟩
            · exact ⟨rfl, rfl, congrArg (VV.int .i64) (by simp only [Ops.ar_eq]; exact hk1), trivial⟩
            · exact ⟨.inr (by rw [hXr]; rfl), .inr rfl, .inr (by rw [hr]; rfl), trivial⟩
          · clear hnot hai hak
            (cbv; repeat' (first | (refine ⟨by simp only [Ops.need_eq, needs]; first | rfl | decide, ?_⟩; try cbv) | (refine mt (fun h => ?_) (fun h => ?_) <;> first | (exfalso; simp [Ops.cmp_eq, Ops.not_eq, icmp] at h; done) | (exfalso; simp [Ops.cmp_eq, icmp] at h; omega) | (try cbv))))
            refine ⟨by simp only [Ops.inb_eq]; exact decide_eq_true ⟨by first | exact (Int.natCast_nonneg i) | (simp only [Int.ofNat_eq_natCast]; exact (Int.natCast_nonneg i)), by first | exact (show (i : Int) < n by omega) | (simp only [Int.ofNat_eq_natCast]; exact (show (i : Int) < n by omega))⟩, ?_⟩
            simp only [Int.toNat_natCast, Int.ofNat_eq_natCast, Ops.get_eq, Ops.nadd_eq, Ops.nat_eq, Nat.zero_add, hgi]
            (cbv; repeat' (first | (refine ⟨by simp only [Ops.need_eq, needs]; first | rfl | decide, ?_⟩; try cbv) | (refine mt (fun h => ?_) (fun h => ?_) <;> first | (exfalso; simp [Ops.cmp_eq, Ops.not_eq, icmp] at h; done) | (exfalso; simp [Ops.cmp_eq, icmp] at h; omega) | (try cbv))))
            refine ⟨by simp only [Ops.inb_eq]; exact decide_eq_true ⟨by first | exact (Int.natCast_nonneg k) | (simp only [Int.ofNat_eq_natCast]; exact (Int.natCast_nonneg k)), by first | exact (show (k : Int) < n by omega) | (simp only [Int.ofNat_eq_natCast]; exact (show (k : Int) < n by omega))⟩, ?_⟩
            simp only [Int.toNat_natCast, Int.ofNat_eq_natCast, Ops.get_eq, Ops.nadd_eq, Ops.nat_eq, Nat.zero_add, hgk]
            (cbv; repeat' (first | (refine ⟨by simp only [Ops.need_eq, needs]; first | rfl | decide, ?_⟩; try cbv) | (refine mt (fun h => ?_) (fun h => ?_) <;> first | (exfalso; simp [Ops.cmp_eq, Ops.not_eq, icmp] at h; done) | (exfalso; simp [Ops.cmp_eq, icmp] at h; omega) | (try cbv))))
            refine ⟨n - (k + 1), by omega, o.reI (Re.ren [0, 1, 2] _ _ rfl rfl ?_ ?_ fun r => ⟨k + 1, r, by omega, rfl, rfl, rfl⟩)⟩
            · exact ⟨rfl, rfl, congrArg (VV.int .i64) (by simp only [Ops.ar_eq]; exact hk1), trivial⟩
            · exact ⟨.inr (by rw [hXr]; rfl), .inr rfl, .inr (by rw [hr]; rfl), trivial⟩
        · (cbv; repeat' (first | (refine ⟨by simp only [Ops.need_eq, needs]; first | rfl | decide, ?_⟩; try cbv) | (refine mt (fun h => ?_) (fun h => ?_) <;> first | (exfalso; simp [Ops.cmp_eq, Ops.not_eq, icmp] at h; done) | (exfalso; simp [Ops.cmp_eq, icmp] at h; omega) | (try cbv))))
          refine ⟨n - (i + 1), by omega, o.reI (Re.ren [0, 1, 2] _ _ rfl rfl ?_ ?_ fun r => ⟨i + 1, r, by omega, rfl, rfl, rfl⟩)⟩
          · exact ⟨rfl, congrArg (VV.int .i64) (by simp only [Ops.ar_eq]; exact hi1), trivial⟩
          · exact ⟨.inr (by rw [hXr]; rfl), .inr rfl, .inr (by rw [hr]; rfl), trivial⟩
      · (cbv; repeat' (first | (refine ⟨by simp only [Ops.need_eq, needs]; first | rfl | decide, ?_⟩; try cbv) | (refine mt (fun h => ?_) (fun h => ?_) <;> first | (exfalso; simp [Ops.cmp_eq, Ops.not_eq, icmp] at h; done) | (exfalso; simp [Ops.cmp_eq, icmp] at h; omega) | (try cbv))))
        exact hQ _ _ (ReV.ren [0] (.bool true) [.ro 18 xs] rfl rfl rfl ⟨.inr (by rw [hXr]; rfl), trivial⟩ rfl)
end Go.Proofs.Ythoodnlihbaimaa
