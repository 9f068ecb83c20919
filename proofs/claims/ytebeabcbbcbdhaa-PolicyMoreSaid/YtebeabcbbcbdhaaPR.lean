/- policy: PolicyMore. -/
import Derived.Test.YtebeabcbbcbdhaaPQ
import Derived.Test.YtebeabcbbcbdhaaIRb
namespace Go.Proofs.Ytebeabcbbcbdhaa
set_option linter.unusedVariables false
set_option linter.unusedSimpArgs false
open Go Go.SL
set_option maxRecDepth 100000
theorem step_congr (c : Cfg) (l l' : List Seen) (w : Int) (i : Nat) (hw : w < i) (h : ∀ j : Nat, j ≤ i → at' l j = at' l' j) : step c l w i = step c l' w i := by
  have hb : blocked c l i = blocked c l' i := by
    simp only [blocked]
    rw [Bool.eq_iff_iff, List.any_eq_true, List.any_eq_true]
    constructor
    all_goals
      rintro ⟨j, hj, h1⟩
      have hj' := List.mem_range.1 hj
      refine ⟨j, hj, ?_⟩
      first
      | (rw [← h j (by omega), ← h i (Nat.le_refl _)]; exact h1)
      | (rw [h j (by omega), h i (Nat.le_refl _)]; exact h1)
  simp only [step, hb, h i (Nat.le_refl _), better]
  by_cases h0 : w ≥ 0
  · obtain ⟨n, rfl⟩ : ∃ n : Nat, w = n := ⟨w.toNat, by omega⟩
    rw [h n (by omega)]
  · have : ∀ P : Prop, (w ≥ 0 ∧ P) ↔ False := fun P => ⟨fun ⟨a, _⟩ => h0 a, False.elim⟩
    simp only [this]
theorem chooseTo_congr (c : Cfg) (l l' : List Seen) (k : Nat) (h : ∀ j : Nat, j < k → at' l j = at' l' j) : chooseTo c l k = chooseTo c l' k := by
  induction k with
  | zero => rfl
  | succ k ih =>
    rw [chooseTo_succ, chooseTo_succ, ih fun j hj => h j (by omega)]
    exact step_congr c l l' _ k (chooseTo_lt _ _ _) fun j hj => h j (by omega)
theorem at'_app (l : List Seen) (s : Seen) (j : Nat) (h : j < l.length) : at' (l ++ [s]) j = at' l j := by
  simp only [at', Int.toNat_natCast, List.getD_eq_getElem?_getD, List.getElem?_append_left h]
theorem at'_end (l : List Seen) (s : Seen) : at' (l ++ [s]) (l.length : Int) = s := by
  simp [at']
def least (c : Cfg) (l : List Seen) (s : Seen) (k : Nat) : Bool := (List.range k).all fun j => !may c (at' l j) || decide ((at' l j).live > s.live)
theorem least_succ (c : Cfg) (l : List Seen) (s : Seen) (k : Nat) : least c l s (k + 1) = (least c l s k && (!may c (at' l k) || decide ((at' l k).live > s.live))) := by simp [least, List.range_succ]
theorem more_no (c : Cfg) (l : List Seen) (s : Seen) (h : may c s = false) : chooseTo c (l ++ [s]) (l.length + 1) = chooseTo c l l.length := by
  rw [chooseTo_succ, chooseTo_congr c (l ++ [s]) l l.length fun j hj => at'_app l s j hj]
  simp [step, at'_end, h]
theorem more_yes (c : Cfg) (l : List Seen) (s : Seen) (h : may c s = true) : chooseTo c (l ++ [s]) (l.length + 1) = if least c l s l.length then (l.length : Int) else chooseTo c l l.length := by
  have hb := choose_best c (l ++ [s]) l.length
  rw [chooseTo_succ, (best_step c (l ++ [s]) l.length _ hb).1, at'_end, h]
  rw [chooseTo_congr c (l ++ [s]) l l.length fun j hj => at'_app l s j hj]
  have hb := choose_best c l l.length
  generalize chooseTo c l l.length = w at hb
  rcases hb with ⟨h0, h1⟩ | ⟨n, rfl, hn, h1, h2⟩
  · have : least c l s l.length = true := by
      simp only [least, List.all_eq_true, List.mem_range]
      intro j hj
      rw [h1 j hj]; rfl
    rw [this, decide_eq_true h0]; simp
  · rw [at'_app l s n hn, decide_eq_false (by omega)]
    by_cases hl : s.live < (at' l n).live
    · have : least c l s l.length = true := by
        simp only [least, List.all_eq_true, List.mem_range]
        intro j hj
        cases hm : may c (at' l j) with
        | false => rfl
        | true => have := h2 j hj hm; rw [decide_eq_true (by omega)]; rfl
      rw [this, decide_eq_true hl]; simp
    · have : least c l s l.length = false := by
        rw [← Bool.not_eq_true]
        simp only [least, List.all_eq_true, List.mem_range]
        intro hh
        have := hh n hn
        rw [h1, decide_eq_false (by omega)] at this
        cases this
      rw [this, decide_eq_false hl]; simp
set_option maxHeartbeats 4000000 in
theorem PolicyMore_ev {W0 : World} (n : Int) (x : List Seen) (oid : Option Nat) (cap : Nat) (ho : oid = some 0 ∨ (oid = none ∧ x = [])) (y : Seen) :
    Ev Try.prog W0 7 [.int .i64 n, .osl oid 6 0 x.length cap, .agg y.cs] [.ro 6 (x.map Seen.cs)] (fun v _ => v = .bool true) := by
  refine Ev.out fun Q' hQ => ev7 rfl fun o => ?_
  have hg := at'_getN x
  have hpl := Seen.plain x
  generalize hxs : x.map Seen.cs = xs at *
  generalize hn : x.length = nx at *
  (cbv; repeat' (refine mt (fun _ => ?_) (fun _ => ?_) <;> cbv))
  refine ⟨by simp [o.need_eq, needs], by simp [o.need_eq, needs], ?_⟩
  simp only [o.ar_eq]
  generalize arith .rem .i64 (arith .add .i64 (arith .rem .i64 n 1001) 1001) 1001 = N
  refine o.call0 (Seen_ev y) rfl ?_
  rintro v V' ⟨rfl, rfl⟩
  generalize few y = s
  obtain ⟨s1, s2, s3, s4, s5, s6⟩ := s
  (cbv; repeat' (refine mt (fun _ => ?_) (fun _ => ?_) <;> cbv))
  refine ⟨fun m env V => ∃ (i c tot : Nat) (r : Nat → Value), i ≤ nx ∧ i ≤ 40 ∧ tot = c * 6 ∧ m = 40 - i ∧
    env = mix [(1, .osl oid 6 0 nx cap), (7, .ptr 1 0), (8, .sl 3 6 0 i c), (9, .ptr 2 0), (10, .int .i64 i)] r ∧
    V = [.ro 6 xs, .cells [.int .i64 0, .int .i64 0, .int .i64 0, .int .i64 0, .int .i64 0, .int .i64 N, .int .i64 0], .cells [.int .i64 s1, .int .i64 s2, .int .i64 s3, .int .i64 s4, .int .i64 s5, .bool s6], .arr 6 (rows x i) tot], ⟨40, o.reI (Re.ren [0, 3, 4, 2] _ _ rfl rfl ?_ ?_ fun r => ⟨0, 0, 0, r, Nat.zero_le _, Nat.zero_le _, rfl, rfl, rfl, rfl⟩)⟩, ?_⟩
  · simp_all [fitB, mixOk, rnB, lget, rnL, rn, rho, llen, Plain, assoc, mix, envOf]
    rcases ho with rfl | ⟨rfl, _⟩ <;> simp [lget]
  · simp_all [fitB, mixOk, rnB, lget, rnL, rn, rho, llen, Plain, assoc, mix, envOf, rows, fews]
  rintro m env V ⟨i, c, tot, r, hi, hi2, htot, rfl, rfl, rfl⟩
  have hpy : Plain (rows x i) := Seen.plain (fews x i)
  have hly : (rows x i).length = i := by simp [rows, fews]; omega
  have hay : ∀ y ∈ rows x i, allOne y = true := all1_seen _
  generalize hys : rows x i = ys at *
  (cbv; repeat' (refine mt (fun _ => ?_) (fun _ => ?_) <;> cbv))
  · rename_i h1 h2
    have h3 : i < nx := by
      have : (i : Int) < nx := by simpa [o.cmp_eq, icmp] using h1
      omega
    have h4 : i < 40 := by
      have : (i : Int) < 40 := by simpa [o.cmp_eq, icmp] using h2
      omega
    obtain rfl : oid = some 0 := by
      rcases ho with h | ⟨_, h⟩
      · exact h
      · subst h; simp at hn; omega
    (cbv; repeat' (refine mt (fun _ => ?_) (fun _ => ?_) <;> cbv))
    refine ⟨by simp only [Ops.inb_eq]; exact decide_eq_true ⟨by first | exact (Int.natCast_nonneg i) | (simp only [Int.ofNat_eq_natCast]; exact (Int.natCast_nonneg i)), by first | exact (show (i : Int) < nx by omega) | (simp only [Int.ofNat_eq_natCast]; exact (show (i : Int) < nx by omega))⟩, ?_⟩
    simp only [Int.toNat_natCast, Int.ofNat_eq_natCast, Ops.get_eq, Ops.nadd_eq, Ops.nat_eq, Nat.zero_add, (hg i h3)]
    generalize hs : at' x i = u
    (cbv; repeat' (refine mt (fun _ => ?_) (fun _ => ?_) <;> cbv))
    refine o.call0 (Seen_ev u) rfl ?_
    rintro v V' ⟨rfl, rfl⟩
    generalize hf : few u = f
    have hys' : ys ++ [f.cs] = rows x (i + 1) := by rw [rows, fews_succ x i (by omega), ← hys, hs, hf]; simp [rows]
    have hpy' : Plain (rows x (i + 1)) := Seen.plain (fews x (i + 1))
    obtain ⟨f1, f2, f3, f4, f5, f6⟩ := f
    (cbv; repeat' (refine mt (fun _ => ?_) (fun _ => ?_) <;> cbv))
    refine ⟨by simp [o.ll_eq, o.sub_eq], by simp [o.all1_eq, o.sub_eq, allOne, VV.one], ⟨by simp [o.ll_eq, hly], by simp [o.nmul_eq, htot], by simp [o.nle_eq, o.nmul_eq, o.nadd_eq]; omega⟩, fun c' => ?_⟩; simp only [o.cat_eq, o.sub_eq, o.nadd_eq, o.nmul_eq, List.drop_zero, List.take_succ_cons, List.take_zero]
    generalize htot' : c' * 6 = tot'
    simp only [Seen.cs] at hys'
    rw [hys']
    generalize hq : rows x (i + 1) = ys' at *
    clear hQ hg hxs
    (cbv; repeat' (refine mt (fun _ => ?_) (fun _ => ?_) <;> cbv))
    clear hys hys' hpy hly hay hn hi h1 h2 hs hf
    refine ⟨40 - (i + 1), by omega, o.reI (Re.ren [0, 1, 2, 5] _ _ rfl rfl ?_ ?_ fun r => ⟨i + 1, c', tot', r, by omega, by omega, htot'.symm, rfl, rfl, rfl⟩)⟩
    · clear hq; simp_all [fitB, mixOk, rnB, lget, rnL, rn, rho, llen, Plain, assoc, mix, envOf, o.ar_eq, add1 (i := i) (by omega)]
    · rw [hq]; clear hq; simp_all [fitB, mixOk, rnB, lget, rnL, rn, rho, llen, Plain, assoc, mix, envOf]
  all_goals
    have hlf : (fews x i).length = i := by simp [fews]; omega
    simp only [rows] at hys
    generalize fews x i = L at *
    clear hg hxs hn hi ho
    have gy := at'_getN L
    rw [hys, hlf] at gy
    refine o.call [3] (Choose_ev ⟨0, 0, 0, 0, 0, N, 0⟩ L c tot (by omega)) (by rw [hlf]; rfl) rfl rfl (by rw [hys]; clear gy; simp_all [fitB, mixOk, rnB, lget, rnL, rn, rho, llen, Plain, assoc, mix, envOf]) ?_
    rintro v V' ⟨rfl, rfl⟩
    rw [hys]
    simp only [layB, lset, lapp, rnB, rn, hpl _, hpy _, List.map_nil]
    have hno := more_no ⟨0, 0, 0, 0, 0, N, 0⟩ L ⟨s1, s2, s3, s4, s5, s6⟩
    have hye := more_yes ⟨0, 0, 0, 0, 0, N, 0⟩ L ⟨s1, s2, s3, s4, s5, s6⟩
    rw [hlf] at hno hye
    rw [hlf]
    generalize chooseTo ⟨0, 0, 0, 0, 0, N, 0⟩ L i = R at *
    (cbv; repeat' (refine mt (fun _ => ?_) (fun _ => ?_) <;> cbv))
    refine ⟨by simp [o.ll_eq, o.sub_eq, hly], ?_, ⟨by simp [o.ll_eq], by simp [o.nmul_eq], by simp [o.nle_eq, o.nmul_eq, o.nadd_eq]; omega⟩, fun c1 => ?_⟩
    · simp only [o.all1_eq, o.sub_eq, List.drop_zero, List.take_of_length_le (Nat.le_of_eq hly), List.all_eq_true]
      exact hay
    simp only [o.cat_eq, o.sub_eq, o.nadd_eq, o.nmul_eq, List.drop_zero, List.take_of_length_le (Nat.le_of_eq hly), List.nil_append, Nat.zero_add]
    generalize htot1 : c1 * 6 = tot1
    (cbv; repeat' (refine mt (fun _ => ?_) (fun _ => ?_) <;> cbv))
    have hlyL : (L ++ [(⟨s1, s2, s3, s4, s5, s6⟩ : Seen)]).length = i + 1 := by simp [hlf]
    have hyL : (L ++ [(⟨s1, s2, s3, s4, s5, s6⟩ : Seen)]).map Seen.cs = ys ++ [[.int .i64 s1, .int .i64 s2, .int .i64 s3, .int .i64 s4, .int .i64 s5, .bool s6]] := by simp [hys, Seen.cs]
    have hpL := Seen.plain (L ++ [(⟨s1, s2, s3, s4, s5, s6⟩ : Seen)])
    refine ⟨by simp [o.ll_eq, o.sub_eq], by simp [o.all1_eq, o.sub_eq, allOne, VV.one], ⟨by simp [o.ll_eq, hly], by simp [o.nmul_eq, htot1.symm], by simp [o.nle_eq, o.nmul_eq, o.nadd_eq]; omega⟩, fun c' => ?_⟩; simp only [o.cat_eq, o.sub_eq, o.nadd_eq, o.nmul_eq, List.drop_zero, List.take_succ_cons, List.take_zero]
    generalize htot2 : c' * 6 = tot2
    rw [hyL] at hpL
    generalize ys ++ [[VV.int .i64 s1, VV.int .i64 s2, VV.int .i64 s3, VV.int .i64 s4, VV.int .i64 s5, VV.bool s6]] = zs at *
    (cbv; repeat' (refine mt (fun _ => ?_) (fun _ => ?_) <;> cbv))
    refine o.call [7] (Choose_ev ⟨0, 0, 0, 0, 0, N, 0⟩ (L ++ [(⟨s1, s2, s3, s4, s5, s6⟩ : Seen)]) c' tot2 (by omega)) (by rw [hlyL]; rfl) rfl rfl (by rw [hyL]; clear gy; simp_all [fitB, mixOk, rnB, lget, rnL, rn, rho, llen, Plain, assoc, mix, envOf]) ?_
    rintro v V' ⟨rfl, rfl⟩
    rw [hyL]
    simp only [layB, lset, lapp, rnB, rn, hpl _, hpy _, hpL _, List.map_nil]
    rw [hlyL]
    generalize chooseTo ⟨0, 0, 0, 0, 0, N, 0⟩ (L ++ [(⟨s1, s2, s3, s4, s5, s6⟩ : Seen)]) (i + 1) = S at *
    (cbv; repeat' (refine mt (fun _ => ?_) (fun _ => ?_) <;> cbv))
    refine o.call0 (May_ev ⟨0, 0, 0, 0, 0, N, 0⟩ ⟨s1, s2, s3, s4, s5, s6⟩) rfl ?_
    rintro v V' ⟨rfl, rfl⟩
    generalize may ⟨0, 0, 0, 0, 0, N, 0⟩ ⟨s1, s2, s3, s4, s5, s6⟩ = ms at *
    cases ms
    · have hS := hno rfl
      subst hS
      clear hye hno
      (cbv; repeat' (refine mt (fun _ => ?_) (fun _ => ?_) <;> cbv))
      · refine o.call0 awake_ev rfl ?_
        rintro v V' ⟨rfl, rfl⟩
        (cbv; repeat' (refine mt (fun _ => ?_) (fun _ => ?_) <;> cbv))
        refine hQ _ _ (ReV.id ?_)
        simp [o.cmp_eq, icmp]
      · rename_i h; simp [o.not_eq] at h
    · have hS := hye rfl
      clear hye hno
      (cbv; repeat' (refine mt (fun _ => ?_) (fun _ => ?_) <;> cbv))
      · rename_i h; simp [o.not_eq] at h
      clear hyL hpL hlyL
      refine ⟨fun m env V => ∃ (k : Nat) (r : Nat → Value), k ≤ i ∧ m = i - k ∧
        env = mix [(7, .ptr 1 0), (8, .sl 3 6 0 i c), (9, .ptr 2 0), (11, .int .i64 R), (12, .int .i64 S), (13, .bool (least ⟨0, 0, 0, 0, 0, N, 0⟩ L ⟨s1, s2, s3, s4, s5, s6⟩ k)), (14, .int .i64 k)] r ∧
        V = [.ro 6 xs, .cells [.int .i64 0, .int .i64 0, .int .i64 0, .int .i64 0, .int .i64 0, .int .i64 N, .int .i64 0], .cells [.int .i64 s1, .int .i64 s2, .int .i64 s3, .int .i64 s4, .int .i64 s5, .bool s6], .arr 6 ys tot],
        ⟨i, o.reI (Re.ren [0, 1, 2, 3] _ _ rfl rfl ?_ ?_ fun r => ⟨0, r, Nat.zero_le _, rfl, rfl, rfl⟩)⟩, ?_⟩
      · clear hys hpy hly hay gy hS; simp_all [fitB, mixOk, rnB, lget, rnL, rn, rho, llen, Plain, assoc, mix, envOf, least]
      · clear hys hly hay gy hS; simp_all [fitB, mixOk, rnB, lget, rnL, rn, rho, llen, Plain, assoc, mix, envOf]
      rintro m env V ⟨k, r2, hk, rfl, rfl, rfl⟩
      have hls := least_succ ⟨0, 0, 0, 0, 0, N, 0⟩ L ⟨s1, s2, s3, s4, s5, s6⟩ k
      generalize hle : least ⟨0, 0, 0, 0, 0, N, 0⟩ L ⟨s1, s2, s3, s4, s5, s6⟩ k = le at *
      (cbv; repeat' (refine mt (fun _ => ?_) (fun _ => ?_) <;> cbv))
      · rename_i h1 h2
        have h3 : k < i := by
          have : (k : Int) < i := by simpa [o.cmp_eq, icmp] using h1
          omega
        have gk := gy k h3
        generalize at' L (k : Int) = u at *
        obtain ⟨u1, u2, u3, u4, u5, u6⟩ := u
        refine ⟨by simp only [Ops.inb_eq]; exact decide_eq_true ⟨by first | exact (Int.natCast_nonneg k) | (simp only [Int.ofNat_eq_natCast]; exact (Int.natCast_nonneg k)), by first | exact (show (k : Int) < i by omega) | (simp only [Int.ofNat_eq_natCast]; exact (show (k : Int) < i by omega))⟩, ?_⟩
        simp only [Int.toNat_natCast, Int.ofNat_eq_natCast, Ops.get_eq, Ops.nadd_eq, Ops.nat_eq, Nat.zero_add, gk]
        (cbv; repeat' (refine mt (fun _ => ?_) (fun _ => ?_) <;> cbv))
        refine o.call0 (May_ev ⟨0, 0, 0, 0, 0, N, 0⟩ ⟨u1, u2, u3, u4, u5, u6⟩) rfl ?_
        rintro v V' ⟨rfl, rfl⟩
        generalize may ⟨0, 0, 0, 0, 0, N, 0⟩ ⟨u1, u2, u3, u4, u5, u6⟩ = mu at *
        (cbv; repeat' (refine mt (fun _ => ?_) (fun _ => ?_) <;> cbv))
        · rename_i h4
          have h5 : mu = false := by simpa [o.not_eq] using h4
          have : least ⟨0, 0, 0, 0, 0, N, 0⟩ L ⟨s1, s2, s3, s4, s5, s6⟩ (k + 1) = true := by rw [hls, h2, h5]; rfl
          clear hls hS hys hly hay gy gk hle
          refine ⟨i - (k + 1), by omega, o.reI (Re.ren [0, 1, 2, 3] _ _ rfl rfl ?_ ?_ fun r => ⟨k + 1, r, by omega, rfl, rfl, rfl⟩)⟩
          · simp_all [fitB, mixOk, rnB, lget, rnL, rn, rho, llen, Plain, assoc, mix, envOf, o.ar_eq, add1 (i := k) (by omega)]
          · simp_all [fitB, mixOk, rnB, lget, rnL, rn, rho, llen, Plain, assoc, mix, envOf]
        · rename_i h4
          refine ⟨by simp only [Ops.inb_eq]; exact decide_eq_true ⟨by first | exact (Int.natCast_nonneg k) | (simp only [Int.ofNat_eq_natCast]; exact (Int.natCast_nonneg k)), by first | exact (show (k : Int) < i by omega) | (simp only [Int.ofNat_eq_natCast]; exact (show (k : Int) < i by omega))⟩, ?_⟩
          simp only [Int.toNat_natCast, Int.ofNat_eq_natCast, Ops.get_eq, Ops.nadd_eq, Ops.nat_eq, Nat.zero_add, gk]
          (cbv; repeat' (refine mt (fun _ => ?_) (fun _ => ?_) <;> cbv))
          have h5 : mu = true := by simpa [o.not_eq] using h4
          have : least ⟨0, 0, 0, 0, 0, N, 0⟩ L ⟨s1, s2, s3, s4, s5, s6⟩ (k + 1) = decide (u5 > s5) := by rw [hls, h2, h5]; rfl
          clear hls hS hys hly hay gy gk hle
          refine ⟨i - (k + 1), by omega, o.reI (Re.ren [0, 1, 2, 3] _ _ rfl rfl ?_ ?_ fun r => ⟨k + 1, r, by omega, rfl, rfl, rfl⟩)⟩
          · rw [this]; simp_all [fitB, mixOk, rnB, lget, rnL, rn, rho, llen, Plain, assoc, mix, envOf, o.ar_eq, add1 (i := k) (by omega), o.cmp_eq, icmp]
          · simp_all [fitB, mixOk, rnB, lget, rnL, rn, rho, llen, Plain, assoc, mix, envOf]
      · rename_i h1 h2
        have h3 : k < i := by
          have : (k : Int) < i := by simpa [o.cmp_eq, icmp] using h1
          omega
        have : least ⟨0, 0, 0, 0, 0, N, 0⟩ L ⟨s1, s2, s3, s4, s5, s6⟩ (k + 1) = false := by rw [hls, h2]; rfl
        clear hls hS hys hly hay gy hle
        refine ⟨i - (k + 1), by omega, o.reI (Re.ren [0, 1, 2, 3] _ _ rfl rfl ?_ ?_ fun r => ⟨k + 1, r, by omega, rfl, rfl, rfl⟩)⟩
        · simp_all [fitB, mixOk, rnB, lget, rnL, rn, rho, llen, Plain, assoc, mix, envOf, o.ar_eq, add1 (i := k) (by omega)]
        · simp_all [fitB, mixOk, rnB, lget, rnL, rn, rho, llen, Plain, assoc, mix, envOf]
      all_goals
        rename_i h1 h2
        have h3 : k = i := by
          have : (i : Int) ≤ k := by simpa [o.cmp_eq, icmp] using h1
          omega
        subst h3
        rw [hle, h2] at hS
        refine o.call0 awake_ev rfl ?_
        rintro v V' ⟨rfl, rfl⟩
        (cbv; repeat' (refine mt (fun _ => ?_) (fun _ => ?_) <;> cbv))
        refine hQ _ _ (ReV.id ?_)
        rw [hS]
        simp [o.cmp_eq, icmp]
end Go.Proofs.Ytebeabcbbcbdhaa
