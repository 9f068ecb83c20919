/- hist: whether each took effect while it was under way. -/
import Derived.Test.YthoodnlihbaimaaHA
namespace Go.Proofs.Ythoodnlihbaimaa
set_option linter.unusedVariables false
set_option linter.unusedSimpArgs false
open Go Go.SL
set_option maxRecDepth 100000
def bad2 (a b : Told) : Bool := decide (a.thread = b.thread) && decide (a.began < b.ended) && decide (b.began < a.ended)
def wone (l : List Told) (i k : Nat) : Bool := (List.range k).all fun j => !bad2 (tat l i) (tat l j)
def wok (l : List Told) (i : Nat) : Bool := !(decide ((tat l i).stamp < (tat l i).began) || decide ((tat l i).stamp > (tat l i).ended)) && wone l i i
def wto (l : List Told) (n : Nat) : Bool := (List.range n).all fun i => wok l i
def withinT (l : List Told) : Bool := wto l l.length
theorem wone_succ (l : List Told) (i k : Nat) : wone l i (k + 1) = (wone l i k && !bad2 (tat l i) (tat l k)) := by simp [wone, List.range_succ]
theorem wto_succ (l : List Told) (k : Nat) : wto l (k + 1) = (wto l k && wok l k) := by simp [wto, List.range_succ]
theorem wto_not {l : List Told} {i n : Nat} (h : i < n) (hb : wok l i = false) : wto l n = false := by
  simp only [wto, List.all_eq_false, List.mem_range]
  exact ⟨i, h, by rw [hb]; simp⟩
theorem wone_not {l : List Told} {i j k : Nat} (h : j < k) (hb : bad2 (tat l i) (tat l j) = true) : wone l i k = false := by
  simp only [wone, List.all_eq_false, List.mem_range]
  exact ⟨j, h, by rw [hb]; simp⟩
set_option maxHeartbeats 4000000 in
theorem Within_ev {W0 : World} (l : List Told) (cap tot : Nat) (hlen : l.length ≤ 1000000) (hcap : l.length ≤ cap) : Ev Try.prog W0 14 [.sl 0 18 0 l.length cap] [.arr 18 (l.map Told.cs) tot] (fun v V' => v = .bool (withinT l) ∧ V' = [.arr 18 (l.map Told.cs) tot]) := by
  refine Ev.out fun Q' hQ => ev14 rfl fun o => ?_
  have hg := tat_get l
  have hpl := Told.plain l
  generalize hR : withinT l = R at hQ
  generalize hxs : l.map Told.cs = xs at *
  generalize hn : l.length = n at *
  have hno : ∀ i, i < n → wok l i = false → R = false := fun i hi hb => by rw [← hR, withinT, hn]; exact wto_not hi hb
  (cbv; repeat' (refine mt (fun _ => ?_) (fun _ => ?_) <;> cbv))
  refine ⟨fun m env V => ∃ (i : Nat) (r : Nat → Value), i ≤ n ∧ m = n - i ∧ wto l i = true ∧
    env = mix [(0, .sl 0 18 0 n cap), (7, .sl 0 18 0 n cap), (8, .int .i64 n), (9, .int .i64 i)] r ∧
    V = [.arr 18 xs tot], ⟨n, o.reI (Re.ren [0] _ _ rfl rfl ?_ ?_ fun r => ⟨0, r, Nat.zero_le _, rfl, rfl, rfl, rfl⟩)⟩, ?_⟩
  · clear hg hno hQ; simp_all [Cap.rn, fitB, mixOk, rnB, lget, rnL, rn, rho, llen, Plain, assoc, mix, envOf]
  · clear hg hno hQ; simp_all [Cap.rn, fitB, mixOk, rnB, lget, rnL, rn, rho, llen, Plain, assoc, mix, envOf]
  rintro m env V ⟨i, r, hi, rfl, hw, rfl, rfl⟩
  (cbv; repeat' (refine mt (fun _ => ?_) (fun _ => ?_) <;> cbv))
  · rename_i h
    have h1 : i < n := by
      have : (i : Int) < n := by simpa [o.cmp_eq, icmp] using h
      omega
    clear h
    have hgi := hg i h1
    have hwk : wok l i = (!(decide ((tat l i).stamp < (tat l i).began) || decide ((tat l i).stamp > (tat l i).ended)) && wone l i i) := rfl
    have hws := wto_succ l i
    have hws1 := fun k => wone_succ l i k
    have hwn : ∀ j, j < i → bad2 (tat l i) (tat l j) = true → wone l i i = false := fun j hj hb => wone_not hj hb
    have hw0 : wone l i 0 = true := rfl
    generalize hu : tat l i = u at *
    obtain ⟨u1, u2, u3, u4, u5, u6, u7, u8, u9, u10, u11, u12, u13, u14, u15, u16, u17, u18⟩ := u
    refine ⟨by simp only [Ops.inb_eq]; exact decide_eq_true ⟨by first | exact (Int.natCast_nonneg i) | (simp only [Int.ofNat_eq_natCast]; exact (Int.natCast_nonneg i)), by first | exact (show (i : Int) < n by omega) | (simp only [Int.ofNat_eq_natCast]; exact (show (i : Int) < n by omega))⟩, ?_⟩
    simp only [Int.toNat_natCast, Int.ofNat_eq_natCast, Ops.get_eq, Ops.nadd_eq, Ops.nat_eq, Nat.zero_add, hgi]
    (cbv; repeat' (refine mt (fun _ => ?_) (fun _ => ?_) <;> cbv))
    · rename_i hc
      have hc1 : u16 < u17 := by simpa [o.cmp_eq, icmp] using hc
      have : R = false := hno i h1 (by rw [hwk, decide_eq_true hc1]; rfl)
      subst this
      exact hQ _ _ (ReV.ren [0] (.bool false) [.arr 18 xs tot] rfl rfl rfl (by clear hQ hg hno hws hws1 hwn hwk; simp_all [Cap.rn, fitB, mixOk, rnB, lget, rnL, rn, rho, llen, Plain, assoc, mix, envOf]) ⟨rfl, rfl⟩)
    · rename_i hc'
      have hc2 : u16 > u18 := by simpa [o.cmp_eq, icmp] using hc'
      have : R = false := hno i h1 (by rw [hwk, decide_eq_true hc2]; simp)
      subst this
      exact hQ _ _ (ReV.ren [0] (.bool false) [.arr 18 xs tot] rfl rfl rfl (by clear hQ hg hno hws hws1 hwn hwk; simp_all [Cap.rn, fitB, mixOk, rnB, lget, rnL, rn, rho, llen, Plain, assoc, mix, envOf]) ⟨rfl, rfl⟩)
    · rename_i hc hc'
      have hc1 : ¬ u16 < u17 := by simpa [o.cmp_eq, icmp] using hc
      have hc2 : ¬ u16 > u18 := by simpa [o.cmp_eq, icmp] using hc'
      rw [decide_eq_false hc1, decide_eq_false hc2] at hwk
      simp only [Bool.or_self, Bool.not_false, Bool.true_and] at hwk
      refine ⟨by simp [o.slb_eq]; omega, ?_⟩
      simp only [o.nat_eq, Int.ofNat_eq_natCast, Int.toNat_natCast]
      refine ⟨fun m env V => ∃ (k : Nat) (r : Nat → Value), k ≤ i ∧ m = i - k ∧ wone l i k = true ∧
        env = mix [(0, .sl 0 18 0 n cap), (4, .ptr 1 0), (7, .sl 0 18 0 n cap), (8, .int .i64 n), (9, .int .i64 i), (30, .sl 0 18 0 i cap), (31, .int .i64 i), (32, .int .i64 k)] r ∧
        V = [.arr 18 xs tot, .cells [.int .i64 u1, .int .i64 u2, .int .i64 u3, .int .i64 u4, .int .i64 u5, .int .i64 u6, .int .u64 u7, .int .i64 u8, .int .i64 u9, .int .i64 u10, .int .i64 u11, .int .u64 u12, .int .i64 u13, .int .u64 u14, .int .i64 u15, .int .i64 u16, .int .i64 u17, .int .i64 u18]], ⟨i, o.reI (Re.ren [0, 1] _ _ rfl rfl ?_ ?_ fun r => ⟨0, r, Nat.zero_le _, rfl, hw0, rfl, rfl⟩)⟩, ?_⟩
      · clear hg hno hQ hws hws1 hwn hwk; simp_all [Cap.rn, fitB, mixOk, rnB, lget, rnL, rn, rho, llen, Plain, assoc, mix, envOf]
      · clear hg hno hQ hws hws1 hwn hwk; simp_all [Cap.rn, fitB, mixOk, rnB, lget, rnL, rn, rho, llen, Plain, assoc, mix, envOf]
      rintro m env V ⟨k, r2, hk, rfl, hwo, rfl, rfl⟩
      (cbv; repeat' (refine mt (fun _ => ?_) (fun _ => ?_) <;> cbv))
      · rename_i h
        have h2 : k < i := by
          have : (k : Int) < i := by simpa [o.cmp_eq, icmp] using h
          omega
        clear h
        have hgk := hg k (by omega)
        have hwk2 := hws1 k
        have hwn2 := hwn k h2
        generalize tat l k = w at *
        obtain ⟨w1, w2, w3, w4, w5, w6, w7, w8, w9, w10, w11, w12, w13, w14, w15, w16, w17, w18⟩ := w
        simp only [bad2] at hwk2 hwn2
        refine ⟨by simp only [Ops.inb_eq]; exact decide_eq_true ⟨by first | exact (Int.natCast_nonneg k) | (simp only [Int.ofNat_eq_natCast]; exact (Int.natCast_nonneg k)), by first | exact (show (k : Int) < i by omega) | (simp only [Int.ofNat_eq_natCast]; exact (show (k : Int) < i by omega))⟩, ?_⟩
        simp only [Int.toNat_natCast, Int.ofNat_eq_natCast, Ops.get_eq, Ops.nadd_eq, Ops.nat_eq, Nat.zero_add, hgk]
        (cbv; repeat' (refine mt (fun _ => ?_) (fun _ => ?_) <;> cbv))
        · rename_i e1 e2 e3
          have e1 : u1 = w1 := by simpa [o.cmp_eq, icmp] using e1
          have e2 : u17 < w18 := by simpa [o.cmp_eq, icmp] using e2
          have e3 : w17 < u18 := by simpa [o.cmp_eq, icmp] using e3
          have : R = false := hno i h1 (by rw [hwk]; exact hwn2 (by simp [e1, e2, e3]))
          subst this
          exact hQ _ _ (ReV.ren [0] (.bool false) [.arr 18 xs tot] rfl rfl rfl (by clear hQ hg hno hws hws1 hwn hwk hwk2 hwn2; simp_all [Cap.rn, fitB, mixOk, rnB, lget, rnL, rn, rho, llen, Plain, assoc, mix, envOf]) ⟨rfl, rfl⟩)
        · rename_i e1 e2 e3
          have e3 : ¬ w17 < u18 := by simpa [o.cmp_eq, icmp] using e3
          have hwk3 : wone l i (k + 1) = true := by rw [hwk2, hwo, decide_eq_false e3]; simp
          clear hg hno hQ hws hws1 hwn hwk hwk2 hwn2 hwo hw
          refine ⟨i - (k + 1), by omega, o.reI (Re.ren [0, 1] _ _ rfl rfl ?_ ?_ fun r => ⟨k + 1, r, by omega, rfl, hwk3, rfl, rfl⟩)⟩
          · clear hwk3; simp_all [Cap.rn, fitB, mixOk, rnB, lget, rnL, rn, rho, llen, Plain, assoc, mix, envOf, o.ar_eq, add1 (i := k) (by omega)]
          · clear hwk3; simp_all [Cap.rn, fitB, mixOk, rnB, lget, rnL, rn, rho, llen, Plain, assoc, mix, envOf]
        · rename_i e1 e2
          have e2 : ¬ u17 < w18 := by simpa [o.cmp_eq, icmp] using e2
          have hwk3 : wone l i (k + 1) = true := by rw [hwk2, hwo, decide_eq_false e2]; simp
          clear hg hno hQ hws hws1 hwn hwk hwk2 hwn2 hwo hw
          refine ⟨i - (k + 1), by omega, o.reI (Re.ren [0, 1] _ _ rfl rfl ?_ ?_ fun r => ⟨k + 1, r, by omega, rfl, hwk3, rfl, rfl⟩)⟩
          · clear hwk3; simp_all [Cap.rn, fitB, mixOk, rnB, lget, rnL, rn, rho, llen, Plain, assoc, mix, envOf, o.ar_eq, add1 (i := k) (by omega)]
          · clear hwk3; simp_all [Cap.rn, fitB, mixOk, rnB, lget, rnL, rn, rho, llen, Plain, assoc, mix, envOf]
        · rename_i e1
          have e1 : ¬ u1 = w1 := by simpa [o.cmp_eq, icmp] using e1
          have hwk3 : wone l i (k + 1) = true := by rw [hwk2, hwo, decide_eq_false e1]; simp
          clear hg hno hQ hws hws1 hwn hwk hwk2 hwn2 hwo hw
          refine ⟨i - (k + 1), by omega, o.reI (Re.ren [0, 1] _ _ rfl rfl ?_ ?_ fun r => ⟨k + 1, r, by omega, rfl, hwk3, rfl, rfl⟩)⟩
          · clear hwk3; simp_all [Cap.rn, fitB, mixOk, rnB, lget, rnL, rn, rho, llen, Plain, assoc, mix, envOf, o.ar_eq, add1 (i := k) (by omega)]
          · clear hwk3; simp_all [Cap.rn, fitB, mixOk, rnB, lget, rnL, rn, rho, llen, Plain, assoc, mix, envOf]
      · rename_i h
        have h2 : k = i := by
          have : (i : Int) ≤ k := by simpa [o.cmp_eq, icmp] using h
          omega
        subst h2
        have hwi : wto l (k + 1) = true := by rw [hws, hw, hwk, hwo]; rfl
        clear hg hno hQ hws hws1 hwn hwk hwo hw
        refine ⟨n - (k + 1), by omega, o.reI (Re.ren [0] _ _ rfl rfl ?_ ?_ fun r => ⟨k + 1, r, by omega, rfl, hwi, rfl, rfl⟩)⟩
        · clear hwi; simp_all [Cap.rn, fitB, mixOk, rnB, lget, rnL, rn, rho, llen, Plain, assoc, mix, envOf, o.ar_eq, add1 (i := k) (by omega)]
        · clear hwi; simp_all [Cap.rn, fitB, mixOk, rnB, lget, rnL, rn, rho, llen, Plain, assoc, mix, envOf]
  · rename_i h
    have h1 : i = n := by
      have : (n : Int) ≤ i := by simpa [o.cmp_eq, icmp] using h
      omega
    subst h1
    have : R = true := by rw [← hR, withinT, hn]; exact hw
    subst this
    exact hQ _ _ (ReV.ren [0] (.bool true) [.arr 18 xs tot] rfl rfl rfl (by clear hQ hg hno; simp_all [Cap.rn, fitB, mixOk, rnB, lget, rnL, rn, rho, llen, Plain, assoc, mix, envOf]) ⟨rfl, rfl⟩)
set_option maxHeartbeats 4000000 in
theorem lwithin_ev {W0 : World} (l : List Told) (cap tot : Nat) (hlen : l.length ≤ 1000000) : Ev Try.prog W0 15 [.sl 0 18 0 l.length cap] [.arr 18 (l.map Told.cs) tot] (fun v V' => v = .bool (withinT l) ∧ V' = [.arr 18 (l.map Told.cs) tot]) := by
  refine Ev.out fun Q' hQ => ev15 rfl fun o => ?_
  have hg := tat_get l
  have hpl := Told.plain l
  generalize hR : withinT l = R at hQ
  generalize hxs : l.map Told.cs = xs at *
  generalize hn : l.length = n at *
  have hno : ∀ i, i < n → wok l i = false → R = false := fun i hi hb => by rw [← hR, withinT, hn]; exact wto_not hi hb
  (cbv; repeat' (refine mt (fun _ => ?_) (fun _ => ?_) <;> cbv))
  refine ⟨fun m env V => ∃ (i : Nat) (r : Nat → Value), i ≤ n ∧ m = n - i ∧ wto l i = true ∧
    env = mix [(0, .sl 0 18 0 n cap), (3, .int .i64 i)] r ∧
    V = [.arr 18 xs tot], ⟨n, o.reI (Re.ren [0] _ _ rfl rfl ?_ ?_ fun r => ⟨0, r, Nat.zero_le _, rfl, rfl, rfl, rfl⟩)⟩, ?_⟩
  · clear hg hno hQ; simp_all [Cap.rn, fitB, mixOk, rnB, lget, rnL, rn, rho, llen, Plain, assoc, mix, envOf]
  · clear hg hno hQ; simp_all [Cap.rn, fitB, mixOk, rnB, lget, rnL, rn, rho, llen, Plain, assoc, mix, envOf]
  rintro m env V ⟨i, r, hi, rfl, hw, rfl, rfl⟩
  (cbv; repeat' (refine mt (fun _ => ?_) (fun _ => ?_) <;> cbv))
  · rename_i h
    have h1 : i < n := by
      have : (i : Int) < n := by simpa [o.cmp_eq, icmp] using h
      omega
    clear h
    have hgi := hg i h1
    have hwk : wok l i = (!(decide ((tat l i).stamp < (tat l i).began) || decide ((tat l i).stamp > (tat l i).ended)) && wone l i i) := rfl
    have hws := wto_succ l i
    have hws1 := fun k => wone_succ l i k
    have hwn : ∀ j, j < i → bad2 (tat l i) (tat l j) = true → wone l i i = false := fun j hj hb => wone_not hj hb
    have hw0 : wone l i 0 = true := rfl
    generalize hu : tat l i = u at *
    obtain ⟨u1, u2, u3, u4, u5, u6, u7, u8, u9, u10, u11, u12, u13, u14, u15, u16, u17, u18⟩ := u
    refine ⟨by simp only [Ops.inb_eq]; exact decide_eq_true ⟨by first | exact (Int.natCast_nonneg i) | (simp only [Int.ofNat_eq_natCast]; exact (Int.natCast_nonneg i)), by first | exact (show (i : Int) < n by omega) | (simp only [Int.ofNat_eq_natCast]; exact (show (i : Int) < n by omega))⟩, ?_⟩
    simp only [Int.toNat_natCast, Int.ofNat_eq_natCast, Ops.get_eq, Ops.nadd_eq, Ops.nat_eq, Nat.zero_add, hgi]
    (cbv; repeat' (refine mt (fun _ => ?_) (fun _ => ?_) <;> cbv))
    · rename_i hc
      have hc1 : u16 < u17 := by simpa [o.cmp_eq, icmp] using hc
      have : R = false := hno i h1 (by rw [hwk, decide_eq_true hc1]; rfl)
      subst this
      exact hQ _ _ (ReV.ren [0] (.bool false) [.arr 18 xs tot] rfl rfl rfl (by clear hQ hg hno hws hws1 hwn hwk; simp_all [Cap.rn, fitB, mixOk, rnB, lget, rnL, rn, rho, llen, Plain, assoc, mix, envOf]) ⟨rfl, rfl⟩)
    · rename_i hc'
      have hc2 : u16 > u18 := by simpa [o.cmp_eq, icmp] using hc'
      have : R = false := hno i h1 (by rw [hwk, decide_eq_true hc2]; simp)
      subst this
      exact hQ _ _ (ReV.ren [0] (.bool false) [.arr 18 xs tot] rfl rfl rfl (by clear hQ hg hno hws hws1 hwn hwk; simp_all [Cap.rn, fitB, mixOk, rnB, lget, rnL, rn, rho, llen, Plain, assoc, mix, envOf]) ⟨rfl, rfl⟩)
    · rename_i hc hc'
      have hc1 : ¬ u16 < u17 := by simpa [o.cmp_eq, icmp] using hc
      have hc2 : ¬ u16 > u18 := by simpa [o.cmp_eq, icmp] using hc'
      rw [decide_eq_false hc1, decide_eq_false hc2] at hwk
      simp only [Bool.or_self, Bool.not_false, Bool.true_and] at hwk
      refine ⟨fun m env V => ∃ (k : Nat) (r : Nat → Value), k ≤ i ∧ m = i - k ∧ wone l i k = true ∧
        env = mix [(0, .sl 0 18 0 n cap), (3, .int .i64 i), (4, .ptr 1 0), (5, .int .i64 k)] r ∧
        V = [.arr 18 xs tot, .cells [.int .i64 u1, .int .i64 u2, .int .i64 u3, .int .i64 u4, .int .i64 u5, .int .i64 u6, .int .u64 u7, .int .i64 u8, .int .i64 u9, .int .i64 u10, .int .i64 u11, .int .u64 u12, .int .i64 u13, .int .u64 u14, .int .i64 u15, .int .i64 u16, .int .i64 u17, .int .i64 u18]], ⟨i, o.reI (Re.ren [0, 1] _ _ rfl rfl ?_ ?_ fun r => ⟨0, r, Nat.zero_le _, rfl, hw0, rfl, rfl⟩)⟩, ?_⟩
      · clear hg hno hQ hws hws1 hwn hwk; simp_all [Cap.rn, fitB, mixOk, rnB, lget, rnL, rn, rho, llen, Plain, assoc, mix, envOf]
      · clear hg hno hQ hws hws1 hwn hwk; simp_all [Cap.rn, fitB, mixOk, rnB, lget, rnL, rn, rho, llen, Plain, assoc, mix, envOf]
      rintro m env V ⟨k, r2, hk, rfl, hwo, rfl, rfl⟩
      (cbv; repeat' (refine mt (fun _ => ?_) (fun _ => ?_) <;> cbv))
      · rename_i h
        have h2 : k < i := by
          have : (k : Int) < i := by simpa [o.cmp_eq, icmp] using h
          omega
        clear h
        have hgk := hg k (by omega)
        have hwk2 := hws1 k
        have hwn2 := hwn k h2
        generalize tat l k = w at *
        obtain ⟨w1, w2, w3, w4, w5, w6, w7, w8, w9, w10, w11, w12, w13, w14, w15, w16, w17, w18⟩ := w
        simp only [bad2] at hwk2 hwn2
        refine ⟨by simp only [Ops.inb_eq]; exact decide_eq_true ⟨by first | exact (Int.natCast_nonneg k) | (simp only [Int.ofNat_eq_natCast]; exact (Int.natCast_nonneg k)), by first | exact (show (k : Int) < n by omega) | (simp only [Int.ofNat_eq_natCast]; exact (show (k : Int) < n by omega))⟩, ?_⟩
        simp only [Int.toNat_natCast, Int.ofNat_eq_natCast, Ops.get_eq, Ops.nadd_eq, Ops.nat_eq, Nat.zero_add, hgk]
        (cbv; repeat' (refine mt (fun _ => ?_) (fun _ => ?_) <;> cbv))
        · rename_i e1 e2 e3
          have e1 : u1 = w1 := by simpa [o.cmp_eq, icmp] using e1
          have e2 : u17 < w18 := by simpa [o.cmp_eq, icmp] using e2
          have e3 : w17 < u18 := by simpa [o.cmp_eq, icmp] using e3
          have : R = false := hno i h1 (by rw [hwk]; exact hwn2 (by simp [e1, e2, e3]))
          subst this
          exact hQ _ _ (ReV.ren [0] (.bool false) [.arr 18 xs tot] rfl rfl rfl (by clear hQ hg hno hws hws1 hwn hwk hwk2 hwn2; simp_all [Cap.rn, fitB, mixOk, rnB, lget, rnL, rn, rho, llen, Plain, assoc, mix, envOf]) ⟨rfl, rfl⟩)
        · rename_i e1 e2 e3
          have e3 : ¬ w17 < u18 := by simpa [o.cmp_eq, icmp] using e3
          have hwk3 : wone l i (k + 1) = true := by rw [hwk2, hwo, decide_eq_false e3]; simp
          clear hg hno hQ hws hws1 hwn hwk hwk2 hwn2 hwo hw
          refine ⟨i - (k + 1), by omega, o.reI (Re.ren [0, 1] _ _ rfl rfl ?_ ?_ fun r => ⟨k + 1, r, by omega, rfl, hwk3, rfl, rfl⟩)⟩
          · clear hwk3; simp_all [Cap.rn, fitB, mixOk, rnB, lget, rnL, rn, rho, llen, Plain, assoc, mix, envOf, o.ar_eq, add1 (i := k) (by omega)]
          · clear hwk3; simp_all [Cap.rn, fitB, mixOk, rnB, lget, rnL, rn, rho, llen, Plain, assoc, mix, envOf]
        · rename_i e1 e2
          have e2 : ¬ u17 < w18 := by simpa [o.cmp_eq, icmp] using e2
          have hwk3 : wone l i (k + 1) = true := by rw [hwk2, hwo, decide_eq_false e2]; simp
          clear hg hno hQ hws hws1 hwn hwk hwk2 hwn2 hwo hw
          refine ⟨i - (k + 1), by omega, o.reI (Re.ren [0, 1] _ _ rfl rfl ?_ ?_ fun r => ⟨k + 1, r, by omega, rfl, hwk3, rfl, rfl⟩)⟩
          · clear hwk3; simp_all [Cap.rn, fitB, mixOk, rnB, lget, rnL, rn, rho, llen, Plain, assoc, mix, envOf, o.ar_eq, add1 (i := k) (by omega)]
          · clear hwk3; simp_all [Cap.rn, fitB, mixOk, rnB, lget, rnL, rn, rho, llen, Plain, assoc, mix, envOf]
        · rename_i e1
          have e1 : ¬ u1 = w1 := by simpa [o.cmp_eq, icmp] using e1
          have hwk3 : wone l i (k + 1) = true := by rw [hwk2, hwo, decide_eq_false e1]; simp
          clear hg hno hQ hws hws1 hwn hwk hwk2 hwn2 hwo hw
          refine ⟨i - (k + 1), by omega, o.reI (Re.ren [0, 1] _ _ rfl rfl ?_ ?_ fun r => ⟨k + 1, r, by omega, rfl, hwk3, rfl, rfl⟩)⟩
          · clear hwk3; simp_all [Cap.rn, fitB, mixOk, rnB, lget, rnL, rn, rho, llen, Plain, assoc, mix, envOf, o.ar_eq, add1 (i := k) (by omega)]
          · clear hwk3; simp_all [Cap.rn, fitB, mixOk, rnB, lget, rnL, rn, rho, llen, Plain, assoc, mix, envOf]
      · rename_i h
        have h2 : k = i := by
          have : (i : Int) ≤ k := by simpa [o.cmp_eq, icmp] using h
          omega
        subst h2
        have hwi : wto l (k + 1) = true := by rw [hws, hw, hwk, hwo]; rfl
        clear hg hno hQ hws hws1 hwn hwk hwo hw
        refine ⟨n - (k + 1), by omega, o.reI (Re.ren [0] _ _ rfl rfl ?_ ?_ fun r => ⟨k + 1, r, by omega, rfl, hwi, rfl, rfl⟩)⟩
        · clear hwi; simp_all [Cap.rn, fitB, mixOk, rnB, lget, rnL, rn, rho, llen, Plain, assoc, mix, envOf, o.ar_eq, add1 (i := k) (by omega)]
        · clear hwi; simp_all [Cap.rn, fitB, mixOk, rnB, lget, rnL, rn, rho, llen, Plain, assoc, mix, envOf]
  · rename_i h
    have h1 : i = n := by
      have : (n : Int) ≤ i := by simpa [o.cmp_eq, icmp] using h
      omega
    subst h1
    have : R = true := by rw [← hR, withinT, hn]; exact hw
    subst this
    exact hQ _ _ (ReV.ren [0] (.bool true) [.arr 18 xs tot] rfl rfl rfl (by clear hQ hg hno; simp_all [Cap.rn, fitB, mixOk, rnB, lget, rnL, rn, rho, llen, Plain, assoc, mix, envOf]) ⟨rfl, rfl⟩)
set_option maxHeartbeats 4000000 in
theorem WithinB_ev {W0 : World} (l : List Told) (hlen : l.length ≤ 1000000) : Ev Try.prog W0 14 [.sl 1 18 0 l.length (.v 0)] [.num, .arr 18 (l.map Told.cs) (.v 0)] (fun v V' => v = .bool (withinT l) ∧ V' = [.num, .arr 18 (l.map Told.cs) (.v 0)]) := by
  refine Ev.out fun Q' hQ => ev14 rfl fun o => ?_
  have hg := tat_get l
  have hpl := Told.plain l
  generalize hR : withinT l = R at hQ
  generalize hxs : l.map Told.cs = xs at *
  generalize hn : l.length = n at *
  have hno : ∀ i, i < n → wok l i = false → R = false := fun i hi hb => by rw [← hR, withinT, hn]; exact wto_not hi hb
  (cbv; repeat' (refine mt (fun _ => ?_) (fun _ => ?_) <;> cbv))
  refine ⟨fun m env V => ∃ (i : Nat) (r : Nat → Value), i ≤ n ∧ m = n - i ∧ wto l i = true ∧
    env = mix [(0, .sl 1 18 0 n (.v 0)), (7, .sl 1 18 0 n (.v 0)), (8, .int .i64 n), (9, .int .i64 i)] r ∧
    V = [.num, .arr 18 xs (.v 0)], ⟨n, o.reI (Re.ren [0, 1] _ _ rfl rfl ?_ ?_ fun r => ⟨0, r, Nat.zero_le _, rfl, rfl, rfl, rfl⟩)⟩, ?_⟩
  · clear hg hno hQ; simp_all [Cap.rn, fitB, mixOk, rnB, lget, rnL, rn, rho, llen, Plain, assoc, mix, envOf]
  · clear hg hno hQ; simp_all [Cap.rn, fitB, mixOk, rnB, lget, rnL, rn, rho, llen, Plain, assoc, mix, envOf]
  rintro m env V ⟨i, r, hi, rfl, hw, rfl, rfl⟩
  (cbv; repeat' (refine mt (fun _ => ?_) (fun _ => ?_) <;> cbv))
  · rename_i h
    have h1 : i < n := by
      have : (i : Int) < n := by simpa [o.cmp_eq, icmp] using h
      omega
    clear h
    have hgi := hg i h1
    have hwk : wok l i = (!(decide ((tat l i).stamp < (tat l i).began) || decide ((tat l i).stamp > (tat l i).ended)) && wone l i i) := rfl
    have hws := wto_succ l i
    have hws1 := fun k => wone_succ l i k
    have hwn : ∀ j, j < i → bad2 (tat l i) (tat l j) = true → wone l i i = false := fun j hj hb => wone_not hj hb
    have hw0 : wone l i 0 = true := rfl
    generalize hu : tat l i = u at *
    obtain ⟨u1, u2, u3, u4, u5, u6, u7, u8, u9, u10, u11, u12, u13, u14, u15, u16, u17, u18⟩ := u
    refine ⟨by simp only [Ops.inb_eq]; exact decide_eq_true ⟨by first | exact (Int.natCast_nonneg i) | (simp only [Int.ofNat_eq_natCast]; exact (Int.natCast_nonneg i)), by first | exact (show (i : Int) < n by omega) | (simp only [Int.ofNat_eq_natCast]; exact (show (i : Int) < n by omega))⟩, ?_⟩
    simp only [Int.toNat_natCast, Int.ofNat_eq_natCast, Ops.get_eq, Ops.nadd_eq, Ops.nat_eq, Nat.zero_add, hgi]
    (cbv; repeat' (refine mt (fun _ => ?_) (fun _ => ?_) <;> cbv))
    · rename_i hc
      have hc1 : u16 < u17 := by simpa [o.cmp_eq, icmp] using hc
      have : R = false := hno i h1 (by rw [hwk, decide_eq_true hc1]; rfl)
      subst this
      exact hQ _ _ (ReV.ren [0, 1] (.bool false) [.num, .arr 18 xs (.v 0)] rfl rfl rfl (by clear hQ hg hno hws hws1 hwn hwk; simp_all [Cap.rn, fitB, mixOk, rnB, lget, rnL, rn, rho, llen, Plain, assoc, mix, envOf]) ⟨rfl, rfl⟩)
    · rename_i hc'
      have hc2 : u16 > u18 := by simpa [o.cmp_eq, icmp] using hc'
      have : R = false := hno i h1 (by rw [hwk, decide_eq_true hc2]; simp)
      subst this
      exact hQ _ _ (ReV.ren [0, 1] (.bool false) [.num, .arr 18 xs (.v 0)] rfl rfl rfl (by clear hQ hg hno hws hws1 hwn hwk; simp_all [Cap.rn, fitB, mixOk, rnB, lget, rnL, rn, rho, llen, Plain, assoc, mix, envOf]) ⟨rfl, rfl⟩)
    · rename_i hc hc'
      have hc1 : ¬ u16 < u17 := by simpa [o.cmp_eq, icmp] using hc
      have hc2 : ¬ u16 > u18 := by simpa [o.cmp_eq, icmp] using hc'
      rw [decide_eq_false hc1, decide_eq_false hc2] at hwk
      simp only [Bool.or_self, Bool.not_false, Bool.true_and] at hwk
      refine ⟨by simp [o.slb_eq]; omega, ?_⟩
      simp only [o.nat_eq, Int.ofNat_eq_natCast, Int.toNat_natCast]
      refine ⟨fun m env V => ∃ (k : Nat) (r : Nat → Value), k ≤ i ∧ m = i - k ∧ wone l i k = true ∧
        env = mix [(0, .sl 1 18 0 n (.v 0)), (4, .ptr 2 0), (7, .sl 1 18 0 n (.v 0)), (8, .int .i64 n), (9, .int .i64 i), (30, .sl 1 18 0 i (.v 0)), (31, .int .i64 i), (32, .int .i64 k)] r ∧
        V = [.num, .arr 18 xs (.v 0), .cells [.int .i64 u1, .int .i64 u2, .int .i64 u3, .int .i64 u4, .int .i64 u5, .int .i64 u6, .int .u64 u7, .int .i64 u8, .int .i64 u9, .int .i64 u10, .int .i64 u11, .int .u64 u12, .int .i64 u13, .int .u64 u14, .int .i64 u15, .int .i64 u16, .int .i64 u17, .int .i64 u18]], ⟨i, o.reI (Re.ren [0, 1, 2] _ _ rfl rfl ?_ ?_ fun r => ⟨0, r, Nat.zero_le _, rfl, hw0, rfl, rfl⟩)⟩, ?_⟩
      · clear hg hno hQ hws hws1 hwn hwk; simp_all [Cap.rn, fitB, mixOk, rnB, lget, rnL, rn, rho, llen, Plain, assoc, mix, envOf]
      · clear hg hno hQ hws hws1 hwn hwk; simp_all [Cap.rn, fitB, mixOk, rnB, lget, rnL, rn, rho, llen, Plain, assoc, mix, envOf]
      rintro m env V ⟨k, r2, hk, rfl, hwo, rfl, rfl⟩
      (cbv; repeat' (refine mt (fun _ => ?_) (fun _ => ?_) <;> cbv))
      · rename_i h
        have h2 : k < i := by
          have : (k : Int) < i := by simpa [o.cmp_eq, icmp] using h
          omega
        clear h
        have hgk := hg k (by omega)
        have hwk2 := hws1 k
        have hwn2 := hwn k h2
        generalize tat l k = w at *
        obtain ⟨w1, w2, w3, w4, w5, w6, w7, w8, w9, w10, w11, w12, w13, w14, w15, w16, w17, w18⟩ := w
        simp only [bad2] at hwk2 hwn2
        refine ⟨by simp only [Ops.inb_eq]; exact decide_eq_true ⟨by first | exact (Int.natCast_nonneg k) | (simp only [Int.ofNat_eq_natCast]; exact (Int.natCast_nonneg k)), by first | exact (show (k : Int) < i by omega) | (simp only [Int.ofNat_eq_natCast]; exact (show (k : Int) < i by omega))⟩, ?_⟩
        simp only [Int.toNat_natCast, Int.ofNat_eq_natCast, Ops.get_eq, Ops.nadd_eq, Ops.nat_eq, Nat.zero_add, hgk]
        (cbv; repeat' (refine mt (fun _ => ?_) (fun _ => ?_) <;> cbv))
        · rename_i e1 e2 e3
          have e1 : u1 = w1 := by simpa [o.cmp_eq, icmp] using e1
          have e2 : u17 < w18 := by simpa [o.cmp_eq, icmp] using e2
          have e3 : w17 < u18 := by simpa [o.cmp_eq, icmp] using e3
          have : R = false := hno i h1 (by rw [hwk]; exact hwn2 (by simp [e1, e2, e3]))
          subst this
          exact hQ _ _ (ReV.ren [0, 1] (.bool false) [.num, .arr 18 xs (.v 0)] rfl rfl rfl (by clear hQ hg hno hws hws1 hwn hwk hwk2 hwn2; simp_all [Cap.rn, fitB, mixOk, rnB, lget, rnL, rn, rho, llen, Plain, assoc, mix, envOf]) ⟨rfl, rfl⟩)
        · rename_i e1 e2 e3
          have e3 : ¬ w17 < u18 := by simpa [o.cmp_eq, icmp] using e3
          have hwk3 : wone l i (k + 1) = true := by rw [hwk2, hwo, decide_eq_false e3]; simp
          clear hg hno hQ hws hws1 hwn hwk hwk2 hwn2 hwo hw
          refine ⟨i - (k + 1), by omega, o.reI (Re.ren [0, 1, 2] _ _ rfl rfl ?_ ?_ fun r => ⟨k + 1, r, by omega, rfl, hwk3, rfl, rfl⟩)⟩
          · clear hwk3; simp_all [Cap.rn, fitB, mixOk, rnB, lget, rnL, rn, rho, llen, Plain, assoc, mix, envOf, o.ar_eq, add1 (i := k) (by omega)]
          · clear hwk3; simp_all [Cap.rn, fitB, mixOk, rnB, lget, rnL, rn, rho, llen, Plain, assoc, mix, envOf]
        · rename_i e1 e2
          have e2 : ¬ u17 < w18 := by simpa [o.cmp_eq, icmp] using e2
          have hwk3 : wone l i (k + 1) = true := by rw [hwk2, hwo, decide_eq_false e2]; simp
          clear hg hno hQ hws hws1 hwn hwk hwk2 hwn2 hwo hw
          refine ⟨i - (k + 1), by omega, o.reI (Re.ren [0, 1, 2] _ _ rfl rfl ?_ ?_ fun r => ⟨k + 1, r, by omega, rfl, hwk3, rfl, rfl⟩)⟩
          · clear hwk3; simp_all [Cap.rn, fitB, mixOk, rnB, lget, rnL, rn, rho, llen, Plain, assoc, mix, envOf, o.ar_eq, add1 (i := k) (by omega)]
          · clear hwk3; simp_all [Cap.rn, fitB, mixOk, rnB, lget, rnL, rn, rho, llen, Plain, assoc, mix, envOf]
        · rename_i e1
          have e1 : ¬ u1 = w1 := by simpa [o.cmp_eq, icmp] using e1
          have hwk3 : wone l i (k + 1) = true := by rw [hwk2, hwo, decide_eq_false e1]; simp
          clear hg hno hQ hws hws1 hwn hwk hwk2 hwn2 hwo hw
          refine ⟨i - (k + 1), by omega, o.reI (Re.ren [0, 1, 2] _ _ rfl rfl ?_ ?_ fun r => ⟨k + 1, r, by omega, rfl, hwk3, rfl, rfl⟩)⟩
          · clear hwk3; simp_all [Cap.rn, fitB, mixOk, rnB, lget, rnL, rn, rho, llen, Plain, assoc, mix, envOf, o.ar_eq, add1 (i := k) (by omega)]
          · clear hwk3; simp_all [Cap.rn, fitB, mixOk, rnB, lget, rnL, rn, rho, llen, Plain, assoc, mix, envOf]
      · rename_i h
        have h2 : k = i := by
          have : (i : Int) ≤ k := by simpa [o.cmp_eq, icmp] using h
          omega
        subst h2
        have hwi : wto l (k + 1) = true := by rw [hws, hw, hwk, hwo]; rfl
        clear hg hno hQ hws hws1 hwn hwk hwo hw
        refine ⟨n - (k + 1), by omega, o.reI (Re.ren [0, 1] _ _ rfl rfl ?_ ?_ fun r => ⟨k + 1, r, by omega, rfl, hwi, rfl, rfl⟩)⟩
        · clear hwi; simp_all [Cap.rn, fitB, mixOk, rnB, lget, rnL, rn, rho, llen, Plain, assoc, mix, envOf, o.ar_eq, add1 (i := k) (by omega)]
        · clear hwi; simp_all [Cap.rn, fitB, mixOk, rnB, lget, rnL, rn, rho, llen, Plain, assoc, mix, envOf]
  · rename_i h
    have h1 : i = n := by
      have : (n : Int) ≤ i := by simpa [o.cmp_eq, icmp] using h
      omega
    subst h1
    have : R = true := by rw [← hR, withinT, hn]; exact hw
    subst this
    exact hQ _ _ (ReV.ren [0, 1] (.bool true) [.num, .arr 18 xs (.v 0)] rfl rfl rfl (by clear hQ hg hno; simp_all [Cap.rn, fitB, mixOk, rnB, lget, rnL, rn, rho, llen, Plain, assoc, mix, envOf]) ⟨rfl, rfl⟩)
set_option maxHeartbeats 4000000 in
theorem lwithinB_ev {W0 : World} (l : List Told) (hlen : l.length ≤ 1000000) : Ev Try.prog W0 15 [.sl 1 18 0 l.length (.v 0)] [.num, .arr 18 (l.map Told.cs) (.v 0)] (fun v V' => v = .bool (withinT l) ∧ V' = [.num, .arr 18 (l.map Told.cs) (.v 0)]) := by
  refine Ev.out fun Q' hQ => ev15 rfl fun o => ?_
  have hg := tat_get l
  have hpl := Told.plain l
  generalize hR : withinT l = R at hQ
  generalize hxs : l.map Told.cs = xs at *
  generalize hn : l.length = n at *
  have hno : ∀ i, i < n → wok l i = false → R = false := fun i hi hb => by rw [← hR, withinT, hn]; exact wto_not hi hb
  (cbv; repeat' (refine mt (fun _ => ?_) (fun _ => ?_) <;> cbv))
  refine ⟨fun m env V => ∃ (i : Nat) (r : Nat → Value), i ≤ n ∧ m = n - i ∧ wto l i = true ∧
    env = mix [(0, .sl 1 18 0 n (.v 0)), (3, .int .i64 i)] r ∧
    V = [.num, .arr 18 xs (.v 0)], ⟨n, o.reI (Re.ren [0, 1] _ _ rfl rfl ?_ ?_ fun r => ⟨0, r, Nat.zero_le _, rfl, rfl, rfl, rfl⟩)⟩, ?_⟩
  · clear hg hno hQ; simp_all [Cap.rn, fitB, mixOk, rnB, lget, rnL, rn, rho, llen, Plain, assoc, mix, envOf]
  · clear hg hno hQ; simp_all [Cap.rn, fitB, mixOk, rnB, lget, rnL, rn, rho, llen, Plain, assoc, mix, envOf]
  rintro m env V ⟨i, r, hi, rfl, hw, rfl, rfl⟩
  (cbv; repeat' (refine mt (fun _ => ?_) (fun _ => ?_) <;> cbv))
  · rename_i h
    have h1 : i < n := by
      have : (i : Int) < n := by simpa [o.cmp_eq, icmp] using h
      omega
    clear h
    have hgi := hg i h1
    have hwk : wok l i = (!(decide ((tat l i).stamp < (tat l i).began) || decide ((tat l i).stamp > (tat l i).ended)) && wone l i i) := rfl
    have hws := wto_succ l i
    have hws1 := fun k => wone_succ l i k
    have hwn : ∀ j, j < i → bad2 (tat l i) (tat l j) = true → wone l i i = false := fun j hj hb => wone_not hj hb
    have hw0 : wone l i 0 = true := rfl
    generalize hu : tat l i = u at *
    obtain ⟨u1, u2, u3, u4, u5, u6, u7, u8, u9, u10, u11, u12, u13, u14, u15, u16, u17, u18⟩ := u
    refine ⟨by simp only [Ops.inb_eq]; exact decide_eq_true ⟨by first | exact (Int.natCast_nonneg i) | (simp only [Int.ofNat_eq_natCast]; exact (Int.natCast_nonneg i)), by first | exact (show (i : Int) < n by omega) | (simp only [Int.ofNat_eq_natCast]; exact (show (i : Int) < n by omega))⟩, ?_⟩
    simp only [Int.toNat_natCast, Int.ofNat_eq_natCast, Ops.get_eq, Ops.nadd_eq, Ops.nat_eq, Nat.zero_add, hgi]
    (cbv; repeat' (refine mt (fun _ => ?_) (fun _ => ?_) <;> cbv))
    · rename_i hc
      have hc1 : u16 < u17 := by simpa [o.cmp_eq, icmp] using hc
      have : R = false := hno i h1 (by rw [hwk, decide_eq_true hc1]; rfl)
      subst this
      exact hQ _ _ (ReV.ren [0, 1] (.bool false) [.num, .arr 18 xs (.v 0)] rfl rfl rfl (by clear hQ hg hno hws hws1 hwn hwk; simp_all [Cap.rn, fitB, mixOk, rnB, lget, rnL, rn, rho, llen, Plain, assoc, mix, envOf]) ⟨rfl, rfl⟩)
    · rename_i hc'
      have hc2 : u16 > u18 := by simpa [o.cmp_eq, icmp] using hc'
      have : R = false := hno i h1 (by rw [hwk, decide_eq_true hc2]; simp)
      subst this
      exact hQ _ _ (ReV.ren [0, 1] (.bool false) [.num, .arr 18 xs (.v 0)] rfl rfl rfl (by clear hQ hg hno hws hws1 hwn hwk; simp_all [Cap.rn, fitB, mixOk, rnB, lget, rnL, rn, rho, llen, Plain, assoc, mix, envOf]) ⟨rfl, rfl⟩)
    · rename_i hc hc'
      have hc1 : ¬ u16 < u17 := by simpa [o.cmp_eq, icmp] using hc
      have hc2 : ¬ u16 > u18 := by simpa [o.cmp_eq, icmp] using hc'
      rw [decide_eq_false hc1, decide_eq_false hc2] at hwk
      simp only [Bool.or_self, Bool.not_false, Bool.true_and] at hwk
      refine ⟨fun m env V => ∃ (k : Nat) (r : Nat → Value), k ≤ i ∧ m = i - k ∧ wone l i k = true ∧
        env = mix [(0, .sl 1 18 0 n (.v 0)), (3, .int .i64 i), (4, .ptr 2 0), (5, .int .i64 k)] r ∧
        V = [.num, .arr 18 xs (.v 0), .cells [.int .i64 u1, .int .i64 u2, .int .i64 u3, .int .i64 u4, .int .i64 u5, .int .i64 u6, .int .u64 u7, .int .i64 u8, .int .i64 u9, .int .i64 u10, .int .i64 u11, .int .u64 u12, .int .i64 u13, .int .u64 u14, .int .i64 u15, .int .i64 u16, .int .i64 u17, .int .i64 u18]], ⟨i, o.reI (Re.ren [0, 1, 2] _ _ rfl rfl ?_ ?_ fun r => ⟨0, r, Nat.zero_le _, rfl, hw0, rfl, rfl⟩)⟩, ?_⟩
      · clear hg hno hQ hws hws1 hwn hwk; simp_all [Cap.rn, fitB, mixOk, rnB, lget, rnL, rn, rho, llen, Plain, assoc, mix, envOf]
      · clear hg hno hQ hws hws1 hwn hwk; simp_all [Cap.rn, fitB, mixOk, rnB, lget, rnL, rn, rho, llen, Plain, assoc, mix, envOf]
      rintro m env V ⟨k, r2, hk, rfl, hwo, rfl, rfl⟩
      (cbv; repeat' (refine mt (fun _ => ?_) (fun _ => ?_) <;> cbv))
      · rename_i h
        have h2 : k < i := by
          have : (k : Int) < i := by simpa [o.cmp_eq, icmp] using h
          omega
        clear h
        have hgk := hg k (by omega)
        have hwk2 := hws1 k
        have hwn2 := hwn k h2
        generalize tat l k = w at *
        obtain ⟨w1, w2, w3, w4, w5, w6, w7, w8, w9, w10, w11, w12, w13, w14, w15, w16, w17, w18⟩ := w
        simp only [bad2] at hwk2 hwn2
        refine ⟨by simp only [Ops.inb_eq]; exact decide_eq_true ⟨by first | exact (Int.natCast_nonneg k) | (simp only [Int.ofNat_eq_natCast]; exact (Int.natCast_nonneg k)), by first | exact (show (k : Int) < n by omega) | (simp only [Int.ofNat_eq_natCast]; exact (show (k : Int) < n by omega))⟩, ?_⟩
        simp only [Int.toNat_natCast, Int.ofNat_eq_natCast, Ops.get_eq, Ops.nadd_eq, Ops.nat_eq, Nat.zero_add, hgk]
        (cbv; repeat' (refine mt (fun _ => ?_) (fun _ => ?_) <;> cbv))
        · rename_i e1 e2 e3
          have e1 : u1 = w1 := by simpa [o.cmp_eq, icmp] using e1
          have e2 : u17 < w18 := by simpa [o.cmp_eq, icmp] using e2
          have e3 : w17 < u18 := by simpa [o.cmp_eq, icmp] using e3
          have : R = false := hno i h1 (by rw [hwk]; exact hwn2 (by simp [e1, e2, e3]))
          subst this
          exact hQ _ _ (ReV.ren [0, 1] (.bool false) [.num, .arr 18 xs (.v 0)] rfl rfl rfl (by clear hQ hg hno hws hws1 hwn hwk hwk2 hwn2; simp_all [Cap.rn, fitB, mixOk, rnB, lget, rnL, rn, rho, llen, Plain, assoc, mix, envOf]) ⟨rfl, rfl⟩)
        · rename_i e1 e2 e3
          have e3 : ¬ w17 < u18 := by simpa [o.cmp_eq, icmp] using e3
          have hwk3 : wone l i (k + 1) = true := by rw [hwk2, hwo, decide_eq_false e3]; simp
          clear hg hno hQ hws hws1 hwn hwk hwk2 hwn2 hwo hw
          refine ⟨i - (k + 1), by omega, o.reI (Re.ren [0, 1, 2] _ _ rfl rfl ?_ ?_ fun r => ⟨k + 1, r, by omega, rfl, hwk3, rfl, rfl⟩)⟩
          · clear hwk3; simp_all [Cap.rn, fitB, mixOk, rnB, lget, rnL, rn, rho, llen, Plain, assoc, mix, envOf, o.ar_eq, add1 (i := k) (by omega)]
          · clear hwk3; simp_all [Cap.rn, fitB, mixOk, rnB, lget, rnL, rn, rho, llen, Plain, assoc, mix, envOf]
        · rename_i e1 e2
          have e2 : ¬ u17 < w18 := by simpa [o.cmp_eq, icmp] using e2
          have hwk3 : wone l i (k + 1) = true := by rw [hwk2, hwo, decide_eq_false e2]; simp
          clear hg hno hQ hws hws1 hwn hwk hwk2 hwn2 hwo hw
          refine ⟨i - (k + 1), by omega, o.reI (Re.ren [0, 1, 2] _ _ rfl rfl ?_ ?_ fun r => ⟨k + 1, r, by omega, rfl, hwk3, rfl, rfl⟩)⟩
          · clear hwk3; simp_all [Cap.rn, fitB, mixOk, rnB, lget, rnL, rn, rho, llen, Plain, assoc, mix, envOf, o.ar_eq, add1 (i := k) (by omega)]
          · clear hwk3; simp_all [Cap.rn, fitB, mixOk, rnB, lget, rnL, rn, rho, llen, Plain, assoc, mix, envOf]
        · rename_i e1
          have e1 : ¬ u1 = w1 := by simpa [o.cmp_eq, icmp] using e1
          have hwk3 : wone l i (k + 1) = true := by rw [hwk2, hwo, decide_eq_false e1]; simp
          clear hg hno hQ hws hws1 hwn hwk hwk2 hwn2 hwo hw
          refine ⟨i - (k + 1), by omega, o.reI (Re.ren [0, 1, 2] _ _ rfl rfl ?_ ?_ fun r => ⟨k + 1, r, by omega, rfl, hwk3, rfl, rfl⟩)⟩
          · clear hwk3; simp_all [Cap.rn, fitB, mixOk, rnB, lget, rnL, rn, rho, llen, Plain, assoc, mix, envOf, o.ar_eq, add1 (i := k) (by omega)]
          · clear hwk3; simp_all [Cap.rn, fitB, mixOk, rnB, lget, rnL, rn, rho, llen, Plain, assoc, mix, envOf]
      · rename_i h
        have h2 : k = i := by
          have : (i : Int) ≤ k := by simpa [o.cmp_eq, icmp] using h
          omega
        subst h2
        have hwi : wto l (k + 1) = true := by rw [hws, hw, hwk, hwo]; rfl
        clear hg hno hQ hws hws1 hwn hwk hwo hw
        refine ⟨n - (k + 1), by omega, o.reI (Re.ren [0, 1] _ _ rfl rfl ?_ ?_ fun r => ⟨k + 1, r, by omega, rfl, hwi, rfl, rfl⟩)⟩
        · clear hwi; simp_all [Cap.rn, fitB, mixOk, rnB, lget, rnL, rn, rho, llen, Plain, assoc, mix, envOf, o.ar_eq, add1 (i := k) (by omega)]
        · clear hwi; simp_all [Cap.rn, fitB, mixOk, rnB, lget, rnL, rn, rho, llen, Plain, assoc, mix, envOf]
  · rename_i h
    have h1 : i = n := by
      have : (n : Int) ≤ i := by simpa [o.cmp_eq, icmp] using h
      omega
    subst h1
    have : R = true := by rw [← hR, withinT, hn]; exact hw
    subst this
    exact hQ _ _ (ReV.ren [0, 1] (.bool true) [.num, .arr 18 xs (.v 0)] rfl rfl rfl (by clear hQ hg hno; simp_all [Cap.rn, fitB, mixOk, rnB, lget, rnL, rn, rho, llen, Plain, assoc, mix, envOf]) ⟨rfl, rfl⟩)
end Go.Proofs.Ythoodnlihbaimaa
