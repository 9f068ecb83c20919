/- policy: PolicyOrder. -/
import Derived.Test.YtebeabcbbcbdhaaPM
import Derived.Test.YtebeabcbbcbdhaaSLt
namespace Go.Proofs.Ytebeabcbbcbdhaa
set_option linter.unusedVariables false
set_option linter.unusedSimpArgs false
open Go Go.SL
set_option maxRecDepth 100000
theorem at'_mem (l : List Seen) (n : Nat) (h : n < l.length) : at' l n ∈ l := by
  simp only [at', Int.toNat_natCast, List.getD_eq_getElem?_getD, List.getElem?_eq_getElem h, Option.getD_some]
  exact List.getElem_mem h
theorem mem_at' {l : List Seen} {s : Seen} (h : s ∈ l) : ∃ n : Nat, n < l.length ∧ at' l n = s := by
  obtain ⟨n, hn, rfl⟩ := List.mem_iff_getElem.1 h
  exact ⟨n, hn, by simp only [at', Int.toNat_natCast, List.getD_eq_getElem?_getD, List.getElem?_eq_getElem hn, Option.getD_some]⟩
theorem best_mem {c : Cfg} {l : List Seen} {w : Int} (h : Best c l l.length w) : (w < 0 ∧ ∀ s ∈ l, may c s = false) ∨
    (∃ n : Nat, w = n ∧ n < l.length ∧ may c (at' l n) = true ∧ ∀ s ∈ l, may c s = true → (at' l n).live ≤ s.live) := by
  rcases h with ⟨h0, h1⟩ | ⟨n, rfl, hn, h1, h2⟩
  · refine .inl ⟨h0, fun s hs => ?_⟩
    obtain ⟨j, hj, rfl⟩ := mem_at' hs
    exact h1 j hj
  · refine .inr ⟨n, rfl, hn, h1, fun s hs hm => ?_⟩
    obtain ⟨j, hj, rfl⟩ := mem_at' hs
    exact h2 j hj hm
theorem best_order (c : Cfg) (l m : List Seen) (hm : ∀ s, s ∈ l ↔ s ∈ m) :
    (chooseTo c l l.length < 0 ∧ chooseTo c m m.length < 0) ∨ ∃ i j : Nat, chooseTo c l l.length = i ∧ chooseTo c m m.length = j ∧ i < l.length ∧ j < m.length ∧
      may c (at' l i) = true ∧ may c (at' m j) = true ∧ (at' l i).live = (at' m j).live := by
  rcases best_mem (choose_best c l l.length) with ⟨h0, h1⟩ | ⟨i, h0, hi, h1, h2⟩
  · rcases best_mem (choose_best c m m.length) with ⟨k0, k1⟩ | ⟨j, k0, hj, k1, k2⟩
    · exact .inl ⟨h0, k0⟩
    · have := h1 _ ((hm _).2 (at'_mem m j hj)); rw [k1] at this; cases this
  · rcases best_mem (choose_best c m m.length) with ⟨k0, k1⟩ | ⟨j, k0, hj, k1, k2⟩
    · have := k1 _ ((hm _).1 (at'_mem l i hi)); rw [h1] at this; cases this
    · have e1 := h2 _ ((hm _).2 (at'_mem m j hj)) k1
      have e2 := k2 _ ((hm _).1 (at'_mem l i hi)) h1
      exact .inr ⟨i, j, h0, k0, hi, hj, h1, k1, by omega⟩
theorem all1_seen (l : List Seen) : ∀ x ∈ l.map Seen.cs, allOne x = true := by
  intro x hx
  obtain ⟨s, _, rfl⟩ := List.mem_map.1 hx
  rfl
def rows (x : List Seen) (i : Nat) : List (List VV) := (fews x i).map Seen.cs
def wors (x : List Seen) (i : Nat) : List (List VV) := (fews x i).reverse.map Seen.cs
theorem PolicyOrder_ev {W0 : World} (n : Int) (x : List Seen) (oid : Option Nat) (cap : Nat) (ho : oid = some 0 ∨ (oid = none ∧ x = [])) :
    Ev Try.prog W0 6 [.int .i64 n, .osl oid 6 0 x.length cap] [.ro 6 (x.map Seen.cs)] (fun v _ => v = .bool true) := by
  refine Ev.out fun Q' hQ => ev6 rfl fun o => ?_
  have hg := at'_getN x
  have hpl := Seen.plain x
  generalize hxs : x.map Seen.cs = xs at *
  generalize hn : x.length = nx at *
  (cbv; repeat' (refine mt (fun _ => ?_) (fun _ => ?_) <;> cbv))
  refine ⟨by simp [o.need_eq, needs], by simp [o.need_eq, needs], ?_⟩
  simp only [o.ar_eq]
  generalize arith .rem .i64 (arith .add .i64 (arith .rem .i64 n 1001) 1001) 1001 = N
  refine ⟨fun m env V => ∃ (i c tot c2 tot2 : Nat) (r : Nat → Value), i ≤ nx ∧ i ≤ 40 ∧ tot = c * 6 ∧ tot2 = c2 * 6 ∧ m = 40 - i ∧
    env = mix [(1, .osl oid 6 0 nx cap), (5, .ptr 1 0), (6, .sl 2 6 0 i c), (7, .sl 3 6 0 i c2), (8, .int .i64 i)] r ∧
    V = [.ro 6 xs, .cells [.int .i64 0, .int .i64 0, .int .i64 0, .int .i64 0, .int .i64 0, .int .i64 N, .int .i64 0], .arr 6 (rows x i) tot, .arr 6 (wors x i) tot2], ⟨40, o.reI (Re.ren [0, 3, 1, 2] _ _ rfl rfl ?_ ?_ fun r => ⟨0, 0, 0, 0, 0, r, Nat.zero_le _, Nat.zero_le _, rfl, rfl, rfl, rfl, rfl⟩)⟩, ?_⟩
  · simp_all [fitB, mixOk, rnB, lget, rnL, rn, rho, llen, Plain, assoc, mix, envOf]
    rcases ho with rfl | ⟨rfl, _⟩ <;> simp [lget]
  · simp_all [fitB, mixOk, rnB, lget, rnL, rn, rho, llen, Plain, assoc, mix, envOf, rows, wors, fews]
  rintro m env V ⟨i, c, tot, c2, tot2, r, hi, hi2, htot, htot2, rfl, rfl, rfl⟩
  have hpy : Plain (rows x i) := Seen.plain (fews x i)
  have hpz : Plain (wors x i) := Seen.plain (fews x i).reverse
  have hly : (rows x i).length = i := by simp [rows, fews]; omega
  have hlz : (wors x i).length = i := by simp [wors, fews]; omega
  have hay : ∀ y ∈ rows x i, allOne y = true := all1_seen _
  have haz : ∀ y ∈ wors x i, allOne y = true := all1_seen _
  generalize hys : rows x i = ys at *
  generalize hzs : wors x i = zs at *
  (cbv; repeat' (refine mt (fun _ => ?_) (fun _ => ?_) <;> cbv))
  · rename_i h1 h2
    have h3 : i < nx := by
      have : (i : Int) < nx := by simpa [o.cmp_eq, icmp] using h1
      omega
    have h4 : i < 40 := by
      have : (i : Int) < 40 := by simpa [o.cmp_eq, icmp] using h2
      omega
    obtain rfl : oid = some 0 := by
      rcases ho with h | ⟨_, h⟩
      · exact h
      · subst h; simp at hn; omega
    (cbv; repeat' (refine mt (fun _ => ?_) (fun _ => ?_) <;> cbv))
    refine ⟨by simp only [Ops.inb_eq]; exact decide_eq_true ⟨by first | exact (Int.natCast_nonneg i) | (simp only [Int.ofNat_eq_natCast]; exact (Int.natCast_nonneg i)), by first | exact (show (i : Int) < nx by omega) | (simp only [Int.ofNat_eq_natCast]; exact (show (i : Int) < nx by omega))⟩, ?_⟩
    simp only [Int.toNat_natCast, Int.ofNat_eq_natCast, Ops.get_eq, Ops.nadd_eq, Ops.nat_eq, Nat.zero_add, (hg i h3)]
    generalize hs : at' x i = s
    (cbv; repeat' (refine mt (fun _ => ?_) (fun _ => ?_) <;> cbv))
    refine o.call0 (Seen_ev s) rfl ?_
    rintro v V' ⟨rfl, rfl⟩
    generalize hf : few s = f
    have hys' : ys ++ [f.cs] = rows x (i + 1) := by rw [rows, fews_succ x i (by omega), ← hys, hs, hf]; simp [rows]
    have hzs' : f.cs :: zs = wors x (i + 1) := by rw [wors, fews_succ x i (by omega), ← hzs, hs, hf]; simp [wors]
    have hpy' : Plain (rows x (i + 1)) := Seen.plain (fews x (i + 1))
    have hpz' : Plain (wors x (i + 1)) := Seen.plain (fews x (i + 1)).reverse
    obtain ⟨f1, f2, f3, f4, f5, f6⟩ := f
    (cbv; repeat' (refine mt (fun _ => ?_) (fun _ => ?_) <;> cbv))
    refine ⟨by simp [o.ll_eq, o.sub_eq], by simp [o.all1_eq, o.sub_eq, allOne, VV.one], ⟨by simp [o.ll_eq, hly], by simp [o.nmul_eq, htot], by simp [o.nle_eq, o.nmul_eq, o.nadd_eq]; omega⟩, fun c' => ?_⟩; simp only [o.cat_eq, o.sub_eq, o.nadd_eq, o.nmul_eq, List.drop_zero, List.take_succ_cons, List.take_zero]
    generalize htot' : c' * 6 = tot'
    simp only [Seen.cs] at hys' hzs'
    rw [hys']
    generalize hq : rows x (i + 1) = ys' at *
    (cbv; repeat' (refine mt (fun _ => ?_) (fun _ => ?_) <;> cbv))
    refine ⟨by simp only [Ops.inb_eq]; exact decide_eq_true ⟨by first | exact (Int.natCast_nonneg i) | (simp only [Int.ofNat_eq_natCast]; exact (Int.natCast_nonneg i)), by first | exact (show (i : Int) < nx by omega) | (simp only [Int.ofNat_eq_natCast]; exact (show (i : Int) < nx by omega))⟩, ?_⟩
    simp only [Int.toNat_natCast, Int.ofNat_eq_natCast, Ops.get_eq, Ops.nadd_eq, Ops.nat_eq, Nat.zero_add, (hg i h3)]
    rw [hs]
    (cbv; repeat' (refine mt (fun _ => ?_) (fun _ => ?_) <;> cbv))
    refine o.call0 (Seen_ev s) rfl ?_
    rintro v V' ⟨rfl, rfl⟩
    rw [hf]
    (cbv; repeat' (refine mt (fun _ => ?_) (fun _ => ?_) <;> cbv))
    refine ⟨by simp [o.ll_eq, o.sub_eq, hlz], ?_, ⟨by simp [o.ll_eq], by simp [o.nmul_eq], by simp [o.nle_eq, o.nmul_eq, o.nadd_eq]; omega⟩, fun c3 => ?_⟩
    · simp only [o.all1_eq, o.sub_eq, List.drop_zero, List.take_of_length_le (Nat.le_of_eq hlz), List.all_eq_true]
      exact haz
    simp only [o.cat_eq, o.sub_eq, o.nadd_eq, o.nmul_eq, List.drop_zero, List.take_of_length_le (Nat.le_of_eq hlz), List.cons_append, List.nil_append, Nat.add_comm 1 i]
    generalize htot3 : c3 * 6 = tot3
    rw [hzs']
    generalize hqz : wors x (i + 1) = zs' at *
    clear hQ hg hxs
    (cbv; repeat' (refine mt (fun _ => ?_) (fun _ => ?_) <;> cbv))
    clear hys hzs hys' hzs' hpy hpz hly hlz hay haz hn hi h1 h2 hs hf
    refine ⟨40 - (i + 1), by omega, o.reI (Re.ren [0, 1, 5, 7] _ _ rfl rfl ?_ ?_ fun r => ⟨i + 1, c', tot', c3, tot3, r, by omega, by omega, htot'.symm, htot3.symm, rfl, rfl, rfl⟩)⟩
    · clear hq hqz; simp_all [fitB, mixOk, rnB, lget, rnL, rn, rho, llen, Plain, assoc, mix, envOf, o.ar_eq, add1 (i := i) (by omega)]
    · rw [hq, hqz]; clear hq hqz; simp_all [fitB, mixOk, rnB, lget, rnL, rn, rho, llen, Plain, assoc, mix, envOf]
  all_goals
    have hlf : (fews x i).length = i := by simp [fews]; omega
    have hlr : (fews x i).reverse.length = i := by simp [hlf]
    refine o.call [2] (Choose_ev ⟨0, 0, 0, 0, 0, N, 0⟩ (fews x i) c tot (by omega)) (by rw [hlf]; rfl) rfl rfl (by rw [show (fews x i).map Seen.cs = ys from hys]; clear hg; simp_all [fitB, mixOk, rnB, lget, rnL, rn, rho, llen, Plain, assoc, mix, envOf]) ?_
    rintro v V' ⟨rfl, rfl⟩
    rw [show (fews x i).map Seen.cs = ys from hys]
    simp only [layB, lset, lapp, rnB, rn, hpl _, hpy _, List.map_nil]
    have hord := best_order ⟨0, 0, 0, 0, 0, N, 0⟩ (fews x i) (fews x i).reverse (by simp)
    rw [hlr, hlf] at hord
    rw [hlf]
    generalize chooseTo ⟨0, 0, 0, 0, 0, N, 0⟩ (fews x i) i = R at *
    (cbv; repeat' (refine mt (fun _ => ?_) (fun _ => ?_) <;> cbv))
    refine o.call [3] (Choose_ev ⟨0, 0, 0, 0, 0, N, 0⟩ (fews x i).reverse c2 tot2 (by omega)) (by rw [hlr]; rfl) rfl rfl (by rw [show (fews x i).reverse.map Seen.cs = zs from hzs]; clear hg; simp_all [fitB, mixOk, rnB, lget, rnL, rn, rho, llen, Plain, assoc, mix, envOf]) ?_
    rintro v V' ⟨rfl, rfl⟩
    rw [show (fews x i).reverse.map Seen.cs = zs from hzs]
    simp only [layB, lset, lapp, rnB, rn, hpl _, hpz _, List.map_nil]
    rw [hlr]
    generalize chooseTo ⟨0, 0, 0, 0, 0, N, 0⟩ (fews x i).reverse i = S at *
    have gy := at'_getN (fews x i)
    rw [show (fews x i).map Seen.cs = ys from hys, hlf] at gy
    have gz := at'_getN (fews x i).reverse
    rw [show (fews x i).reverse.map Seen.cs = zs from hzs, hlr] at gz
    rcases hord with ⟨hR, hS⟩ | ⟨a, b, rfl, rfl, ha, hb, ma, mb, hlv⟩
    · (cbv; repeat' (refine mt (fun _ => ?_) (fun _ => ?_) <;> first | (exfalso; rename_i hc; simp only [o.cmp_eq, icmp, decide_eq_true_eq, decide_eq_false_iff_not, Int.ofNat_eq_natCast, beq_iff_eq, bne_iff_ne, beq_eq_false_iff_ne] at hc; omega) | cbv))
      refine o.call0 awake_ev rfl ?_
      rintro v V' ⟨rfl, rfl⟩
      (cbv; repeat' (refine mt (fun _ => ?_) (fun _ => ?_) <;> first | (exfalso; rename_i hc; simp only [o.cmp_eq, icmp, decide_eq_true_eq, decide_eq_false_iff_not, Int.ofNat_eq_natCast, beq_iff_eq, bne_iff_ne, beq_eq_false_iff_ne] at hc; omega) | cbv))
      refine hQ _ _ (ReV.id ?_)
      simp [o.cmp_eq, icmp, hS]
    · have gya := gy a ha
      have gzb := gz b hb
      clear gy gz
      generalize at' (fews x i) (a : Int) = u at *
      generalize at' (fews x i).reverse (b : Int) = t at *
      obtain ⟨u1, u2, u3, u4, u5, u6⟩ := u
      obtain ⟨t1, t2, t3, t4, t5, t6⟩ := t
      simp only at hlv
      (cbv; repeat' (refine mt (fun _ => ?_) (fun _ => ?_) <;> first | (exfalso; rename_i hc; simp only [o.cmp_eq, icmp, decide_eq_true_eq, decide_eq_false_iff_not, Int.ofNat_eq_natCast, beq_iff_eq, bne_iff_ne, beq_eq_false_iff_ne] at hc; omega) | cbv))
      refine o.call0 awake_ev rfl ?_
      rintro v V' ⟨rfl, rfl⟩
      (cbv; repeat' (refine mt (fun _ => ?_) (fun _ => ?_) <;> first | (exfalso; rename_i hc; simp only [o.cmp_eq, icmp, decide_eq_true_eq, decide_eq_false_iff_not, Int.ofNat_eq_natCast, beq_iff_eq, bne_iff_ne, beq_eq_false_iff_ne] at hc; omega) | cbv))
      refine ⟨by simp only [Ops.inb_eq]; exact decide_eq_true ⟨by first | exact (Int.natCast_nonneg a) | (simp only [Int.ofNat_eq_natCast]; exact (Int.natCast_nonneg a)), by first | exact (show (a : Int) < i by omega) | (simp only [Int.ofNat_eq_natCast]; exact (show (a : Int) < i by omega))⟩, ?_⟩
      simp only [Int.toNat_natCast, Int.ofNat_eq_natCast, Ops.get_eq, Ops.nadd_eq, Ops.nat_eq, Nat.zero_add, gya]
      (cbv; repeat' (refine mt (fun _ => ?_) (fun _ => ?_) <;> cbv))
      refine ⟨by simp only [Ops.inb_eq]; exact decide_eq_true ⟨by first | exact (Int.natCast_nonneg b) | (simp only [Int.ofNat_eq_natCast]; exact (Int.natCast_nonneg b)), by first | exact (show (b : Int) < i by omega) | (simp only [Int.ofNat_eq_natCast]; exact (show (b : Int) < i by omega))⟩, ?_⟩
      simp only [Int.toNat_natCast, Int.ofNat_eq_natCast, Ops.get_eq, Ops.nadd_eq, Ops.nat_eq, Nat.zero_add, gzb]
      (cbv; repeat' (refine mt (fun _ => ?_) (fun _ => ?_) <;> first | (exfalso; rename_i hc; simp only [o.cmp_eq, icmp, decide_eq_true_eq, decide_eq_false_iff_not, Int.ofNat_eq_natCast, beq_iff_eq, bne_iff_ne, beq_eq_false_iff_ne] at hc; omega) | cbv))
      refine ⟨by simp only [Ops.inb_eq]; exact decide_eq_true ⟨by first | exact (Int.natCast_nonneg a) | (simp only [Int.ofNat_eq_natCast]; exact (Int.natCast_nonneg a)), by first | exact (show (a : Int) < i by omega) | (simp only [Int.ofNat_eq_natCast]; exact (show (a : Int) < i by omega))⟩, ?_⟩
      simp only [Int.toNat_natCast, Int.ofNat_eq_natCast, Ops.get_eq, Ops.nadd_eq, Ops.nat_eq, Nat.zero_add, gya]
      (cbv; repeat' (refine mt (fun _ => ?_) (fun _ => ?_) <;> cbv))
      refine o.call0 (May_ev ⟨0, 0, 0, 0, 0, N, 0⟩ ⟨u1, u2, u3, u4, u5, u6⟩) rfl ?_
      rintro v V' ⟨rfl, rfl⟩
      rw [ma]
      (cbv; repeat' (refine mt (fun _ => ?_) (fun _ => ?_) <;> cbv))
      refine ⟨by simp [o.get_eq, gzb, gya, rdn, pack, Seen.cs], ?_⟩
      refine ⟨by simp only [Ops.inb_eq]; exact decide_eq_true ⟨by first | exact (Int.natCast_nonneg b) | (simp only [Int.ofNat_eq_natCast]; exact (Int.natCast_nonneg b)), by first | exact (show (b : Int) < i by omega) | (simp only [Int.ofNat_eq_natCast]; exact (show (b : Int) < i by omega))⟩, ?_⟩
      simp only [Int.toNat_natCast, Int.ofNat_eq_natCast, Ops.get_eq, Ops.nadd_eq, Ops.nat_eq, Nat.zero_add, gzb]
      (cbv; repeat' (refine mt (fun _ => ?_) (fun _ => ?_) <;> cbv))
      refine o.call0 (May_ev ⟨0, 0, 0, 0, 0, N, 0⟩ ⟨t1, t2, t3, t4, t5, t6⟩) rfl ?_
      rintro v V' ⟨rfl, rfl⟩
      rw [mb]
      (cbv; repeat' (refine mt (fun _ => ?_) (fun _ => ?_) <;> cbv))
      refine ⟨by simp [o.get_eq, gzb, gya, rdn, pack, Seen.cs], ?_⟩
      exact hQ _ _ (ReV.id rfl)
end Go.Proofs.Ytebeabcbbcbdhaa
