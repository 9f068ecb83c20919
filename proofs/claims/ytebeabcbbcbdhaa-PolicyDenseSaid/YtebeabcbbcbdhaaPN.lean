/- policy: PolicyDense. -/
import Derived.Test.YtebeabcbbcbdhaaPM
import Derived.Test.YtebeabcbbcbdhaaSLt
namespace Go.Proofs.Ytebeabcbbcbdhaa
set_option linter.unusedVariables false
set_option linter.unusedSimpArgs false
open Go Go.SL
set_option maxRecDepth 100000
def sp (all : Bool) : Int := if all then 1000 else 0
def denseC (all : Bool) : Cfg := ⟨0, 0, 0, 0, 0, sp all, 0⟩
def dense (all : Bool) (s : Seen) : Bool := (decide (s.state = 1) && !s.op && decide (s.used > 0)) && (decide (s.live ≤ 0) || (all && decide (s.live < s.used)))
def somes (all : Bool) (l : List Seen) (k : Nat) : Bool := (List.range k).any fun j => dense all (at' l j)
theorem somes_succ (all : Bool) (l : List Seen) (k : Nat) : somes all l (k + 1) = (somes all l k || dense all (at' l k)) := by simp [somes, List.range_succ]
theorem few_used (s : Seen) : 0 ≤ (few s).used ∧ (few s).used ≤ 511 := by
  obtain ⟨n, h1, h2⟩ := and_mask s.used 511 (by decide)
  simp only [few]
  rw [show ((511 : Nat) : Int) = 511 from rfl] at h2
  omega
theorem few_live (s : Seen) : -600 < (few s).live ∧ (few s).live < 600 := tmod_lt s.live 600 (by decide)
theorem dense_eq (all : Bool) (s : Seen) : may (denseC all) (few s) = dense all (few s) := by
  have h1 := few_used s
  have h2 := few_live s
  generalize few s = f at *
  obtain ⟨s1, s2, s3, s4, s5, s6⟩ := f
  simp only at h1 h2
  have w1 := wrap64 (z := 1000 * s5) (by omega) (by omega)
  have w2 := wrap64 (z := (if all = true then 1000 else 0) * s3) (by split <;> omega) (by split <;> omega)
  simp only [may, dense, denseC, sp, w1, w2]
  cases all <;> cases s6 <;> by_cases h1 : s1 = 1 <;> by_cases h3 : s3 > 0 <;> simp_all <;> grind
theorem dense_some (all : Bool) (x : List Seen) (k : Nat) : decide (chooseTo (denseC all) (fews x k) (fews x k).length ≥ 0) = somes all (fews x k) (fews x k).length := by
  have h := choose_best (denseC all) (fews x k) (fews x k).length
  have hd : ∀ j : Nat, j < (fews x k).length → may (denseC all) (at' (fews x k) j) = dense all (at' (fews x k) j) := by
    intro j hj
    simp [fews] at hj
    rw [at'_fews x j k (by omega) (by omega)]
    exact dense_eq all _
  generalize (fews x k).length = n at *
  generalize chooseTo (denseC all) (fews x k) n = w at h
  rcases h with ⟨h0, h1⟩ | ⟨i, rfl, hi, h1, _⟩
  · rw [decide_eq_false (by omega)]
    symm
    simp only [somes, List.any_eq_false, List.mem_range]
    intro j hj
    rw [← hd j hj, h1 j hj]; simp
  · rw [decide_eq_true (by omega)]
    symm
    simp only [somes, List.any_eq_true, List.mem_range]
    exact ⟨i, hi, by rw [← hd i hi, h1]⟩
set_option maxHeartbeats 4000000 in
theorem PolicyDense_ev {W0 : World} (x : List Seen) (oid : Option Nat) (cap : Nat) (ho : oid = some 0 ∨ (oid = none ∧ x = [])) (all : Bool) :
    Ev Try.prog W0 5 [.osl oid 6 0 x.length cap, .bool all] [.ro 6 (x.map Seen.cs)] (fun v _ => v = .bool true) := by
  refine Ev.out fun Q' hQ => ev5 rfl fun o => ?_
  have hg := at'_getN x
  have hpl := Seen.plain x
  generalize hxs : x.map Seen.cs = xs at *
  generalize hn : x.length = nx at *
  (cbv; repeat' (refine mt (fun _ => ?_) (fun _ => ?_) <;> cbv))
  all_goals rename_i hall
  all_goals generalize hN : sp all = N
  all_goals
    refine ⟨fun m env V => ∃ (i c tot : Nat) (r : Nat → Value), i ≤ nx ∧ i ≤ 64 ∧ tot = c * 6 ∧ m = 64 - i ∧
      env = mix [(0, .osl oid 6 0 nx cap), (1, .bool all), (5, .ptr 1 0), (6, .sl 2 6 0 i c), (7, .bool (somes all (fews x 64) i)), (8, .int .i64 i)] r ∧
      V = [.ro 6 xs, .cells [.int .i64 0, .int .i64 0, .int .i64 0, .int .i64 0, .int .i64 0, .int .i64 N, .int .i64 0], .arr 6 ((fews x i).map Seen.cs) tot], ⟨64, o.reI (Re.ren [0, 1, 2] _ _ rfl rfl ?_ ?_ fun r => ⟨0, 0, 0, r, Nat.zero_le _, Nat.zero_le _, rfl, rfl, rfl, rfl⟩)⟩, ?_⟩
  case' refine_1.refine_1 => simp_all [fitB, mixOk, rnB, lget, rnL, rn, rho, llen, Plain, assoc, mix, envOf, somes]
  case' refine_2.refine_1 => simp_all [fitB, mixOk, rnB, lget, rnL, rn, rho, llen, Plain, assoc, mix, envOf, somes]
  case' refine_1.refine_1 => rcases ho with rfl | ⟨rfl, _⟩ <;> simp [lget]
  case' refine_2.refine_1 => rcases ho with rfl | ⟨rfl, _⟩ <;> simp [lget]
  case' refine_1.refine_2 => simp_all [fitB, mixOk, rnB, lget, rnL, rn, rho, llen, Plain, assoc, mix, envOf, fews, ← hN, sp]
  case' refine_2.refine_2 => simp_all [fitB, mixOk, rnB, lget, rnL, rn, rho, llen, Plain, assoc, mix, envOf, fews, ← hN, sp]
  all_goals
    clear hall
    rintro m env V ⟨i, c, tot, r, hi, hi2, htot, rfl, rfl, rfl⟩
    generalize hw : somes all (fews x 64) i = w
    have hpy := Seen.plain (fews x i)
    have hly : ((fews x i).map Seen.cs).length = i := by simp [fews]; omega
    generalize hys : (fews x i).map Seen.cs = ys at *
    (cbv; repeat' (refine mt (fun _ => ?_) (fun _ => ?_) <;> cbv))
  case' refine_1.refine_3.refine_1 => rename_i h1 h2
  case' refine_2.refine_3.refine_1 => rename_i h1 h2
  case' refine_1.refine_3.refine_1 | refine_2.refine_3.refine_1 =>
    have h3 : i < nx := by
      have : (i : Int) < nx := by simpa [o.cmp_eq, icmp] using h1
      omega
    have h4 : i < 64 := by
      have : (i : Int) < 64 := by simpa [o.cmp_eq, icmp] using h2
      omega
    obtain rfl : oid = some 0 := by
      rcases ho with h | ⟨_, h⟩
      · exact h
      · subst h; simp at hn; omega
    (cbv; repeat' (refine mt (fun _ => ?_) (fun _ => ?_) <;> cbv))
    refine ⟨by simp only [Ops.inb_eq]; exact decide_eq_true ⟨by first | exact (Int.natCast_nonneg i) | (simp only [Int.ofNat_eq_natCast]; exact (Int.natCast_nonneg i)), by first | exact (show (i : Int) < nx by omega) | (simp only [Int.ofNat_eq_natCast]; exact (show (i : Int) < nx by omega))⟩, ?_⟩
    simp only [Int.toNat_natCast, Int.ofNat_eq_natCast, Ops.get_eq, Ops.nadd_eq, Ops.nat_eq, Nat.zero_add, (hg i h3)]
    generalize hs : at' x i = s
    (cbv; repeat' (refine mt (fun _ => ?_) (fun _ => ?_) <;> cbv))
    refine o.call0 (Seen_ev s) rfl ?_
    rintro v V' ⟨rfl, rfl⟩
    generalize hf : few s = f
    have hst : somes all (fews x 64) (i + 1) = (w || dense all f) := by rw [somes_succ, hw, at'_fews x i 64 (by omega) h4, hs, hf]
    have hys' : ys ++ [f.cs] = (fews x (i + 1)).map Seen.cs := by rw [fews_succ x i (by omega), ← hys, hs, hf]; simp
    have hpy' := Seen.plain (fews x (i + 1))
    obtain ⟨f1, f2, f3, f4, f5, f6⟩ := f
    (cbv; repeat' (refine mt (fun _ => ?_) (fun _ => ?_) <;> cbv))
    refine ⟨by simp [o.ll_eq, o.sub_eq], by simp [o.all1_eq, o.sub_eq, allOne, VV.one], ⟨by simp [o.ll_eq, hly], by simp [o.nmul_eq, htot], by simp [o.nle_eq, o.nmul_eq, o.nadd_eq]; omega⟩, fun c' => ?_⟩; simp only [o.cat_eq, o.sub_eq, o.nadd_eq, o.nmul_eq, List.drop_zero, List.take_succ_cons, List.take_zero]
    generalize htot' : c' * 6 = tot'
    simp only [Seen.cs] at hys'
    rw [hys']
    generalize hq : (fews x (i + 1)).map Seen.cs = ys' at *
    clear hQ hg hxs
    (cbv; repeat' (refine mt (fun _ => ?_) (fun _ => ?_) <;> cbv))
    all_goals
      clear hys hys' hpy hly hn hi h1 h2 ho
      refine ⟨64 - (i + 1), by omega, o.reI (Re.ren [0, 1, 5] _ _ rfl rfl ?_ ?_ fun r => ⟨i + 1, c', tot', r, by omega, by omega, htot'.symm, rfl, rfl, rfl⟩)⟩
    all_goals first
      | (rw [hq]; clear hq hst hw hf hN hs; simp_all [fitB, mixOk, rnB, lget, rnL, rn, rho, llen, Plain, assoc, mix, envOf]; done)
      | (rw [hst]; clear hst hpy' hpl hq hw hf hN hs; simp_all [fitB, mixOk, rnB, lget, rnL, rn, rho, llen, Plain, assoc, mix, envOf, o.ar_eq, add1 (i := i) (by omega), dense, o.cmp_eq, o.not_eq, o.beq_eq, icmp] <;> grind)
  all_goals
    have hfin : fews x 64 = fews x i := by
      first
      | (rename_i h5
         have h6 : nx ≤ i := by
           have : (nx : Int) ≤ i := by simpa [o.cmp_eq, icmp] using h5
           omega
         rw [fews_all x i (by omega), fews_all x 64 (by omega)])
      | (rename_i h5
         have h6 : 64 ≤ i := by
           have : (64 : Int) ≤ i := by simpa [o.cmp_eq, icmp] using h5
           omega
         rw [show i = 64 by omega])
    refine o.call0 awake_ev rfl ?_
    rintro v V' ⟨rfl, rfl⟩
    (cbv; repeat' (refine mt (fun _ => ?_) (fun _ => ?_) <;> cbv))
    have hlf : (fews x i).length = i := by simp [fews]; omega
    refine o.call [2] (Choose_ev (denseC all) (fews x i) c tot (by omega)) (by rw [hlf, ← hN]; rfl) rfl rfl (by rw [hys]; clear hg; simp_all [fitB, mixOk, rnB, lget, rnL, rn, rho, llen, Plain, assoc, mix, envOf]) ?_
    rintro v V' ⟨rfl, rfl⟩
    rw [hys]
    simp only [layB, lset, lapp, rnB, rn, hpl _, hpy _, List.map_nil]
    have hds := dense_some all x i
    rw [hlf, ← hfin, hw] at hds
    rw [hlf, ← hfin]
    generalize chooseTo (denseC all) (fews x 64) i = R at *
    (cbv; repeat' (refine mt (fun _ => ?_) (fun _ => ?_) <;> cbv))
    refine hQ _ _ (ReV.id ?_)
    subst hds
    simp [o.beq_eq, o.cmp_eq, icmp]
end Go.Proofs.Ytebeabcbbcbdhaa
