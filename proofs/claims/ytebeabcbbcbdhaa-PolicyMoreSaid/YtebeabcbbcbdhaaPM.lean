/- policy: the statement PolicyChoose, walked. -/
import Derived.Test.YtebeabcbbcbdhaaPL
namespace Go.Proofs.Ytebeabcbbcbdhaa
set_option linter.unusedVariables false
set_option linter.unusedSimpArgs false
open Go Go.SL
set_option maxRecDepth 100000
/-- The first so many of what is handed in, of a few words. -/
def fews (x : List Seen) (i : Nat) : List Seen := (x.take i).map few
def wantStep (n : Int) (l : List Seen) (w : Int) (i : Nat) : Int := if lmay n (at' l i) && (decide (w < 0) || decide ((at' l i).live < (at' l w).live)) then i else w
def wantTo (n : Int) (l : List Seen) (k : Nat) : Int := (List.range k).foldl (wantStep n l) (-1)
theorem fews_succ (x : List Seen) (i : Nat) (h : i < x.length) : fews x (i + 1) = fews x i ++ [few (at' x i)] := by
  have h1 : at' x (i : Int) = x[i] := by simp only [at', Int.toNat_natCast, List.getD_eq_getElem?_getD, List.getElem?_eq_getElem h, Option.getD_some]
  rw [fews, fews, List.take_add_one, List.map_append, List.getElem?_eq_getElem h, h1]
  rfl
theorem at'_fews (x : List Seen) (i k : Nat) (h : i < x.length) (hk : i < k) : at' (fews x k) (i : Int) = few (at' x i) := by
  simp only [at', Int.toNat_natCast, fews, List.getD_eq_getElem?_getD, List.getElem?_map, List.getElem?_take_of_lt hk, List.getElem?_eq_getElem h, Option.map_some, Option.getD_some]
theorem at'_fews_last (x : List Seen) (i : Nat) (h : i < x.length) : at' (fews x (i + 1)) (i : Int) = few (at' x i) := at'_fews x i (i + 1) h (by omega)
theorem wantTo_succ (n : Int) (l : List Seen) (k : Nat) : wantTo n l (k + 1) = wantStep n l (wantTo n l k) k := by simp [wantTo, List.range_succ]
theorem wantTo_lt (n : Int) (l : List Seen) (k : Nat) : -1 ≤ wantTo n l k ∧ wantTo n l k < k := by
  induction k with
  | zero => simp [wantTo]
  | succ k ih => rw [wantTo_succ]; unfold wantStep; split <;> omega
theorem fews_all (x : List Seen) (k : Nat) (h : x.length ≤ k) : fews x k = x.map few := by rw [fews, List.take_of_length_le h]
def Best (c : Cfg) (l : List Seen) (k : Nat) (w : Int) : Prop :=
  (w < 0 ∧ ∀ j : Nat, j < k → may c (at' l j) = false) ∨
  (∃ n : Nat, w = n ∧ n < k ∧ may c (at' l n) = true ∧ ∀ j : Nat, j < k → may c (at' l j) = true → (at' l n).live ≤ (at' l j).live)
theorem best_step (c : Cfg) (l : List Seen) (k : Nat) (w : Int) (h : Best c l k w) :
    step c l w k = (if may c (at' l k) && (decide (w < 0) || decide ((at' l k).live < (at' l w).live)) then (k : Int) else w) ∧ Best c l (k + 1) (step c l w k) := by
  cases hm : may c (at' l k) with
  | false =>
    refine ⟨by simp [step, hm], ?_⟩
    have : step c l w k = w := by simp [step, hm]
    rw [this]
    rcases h with ⟨h0, h1⟩ | ⟨n, rfl, hn, h1, h2⟩
    · refine .inl ⟨h0, fun j hj => ?_⟩
      rcases Nat.lt_succ_iff_lt_or_eq.1 hj with hj | rfl
      · exact h1 j hj
      · exact hm
    · refine .inr ⟨n, rfl, by omega, h1, fun j hj hb => ?_⟩
      rcases Nat.lt_succ_iff_lt_or_eq.1 hj with hj | rfl
      · exact h2 j hj hb
      · rw [hm] at hb; cases hb
  | true =>
    have take : (∀ j : Nat, j < k → may c (at' l j) = true → (at' l k).live < (at' l j).live) → (0 ≤ w → ∃ n : Nat, w = n ∧ n < k ∧ may c (at' l n) = true) → step c l w k = k := by
      intro h1 h2
      have hb : blocked c l k = false := by
        simp only [blocked, List.any_eq_false, List.mem_range]
        intro j hj
        cases hj' : may c (at' l j) with
        | false => simp
        | true => have := h1 j hj hj'; rw [decide_eq_false (by omega)]; simp
      simp only [step, hm, hb, Bool.not_true, Bool.or_self, Bool.false_eq_true, if_false, better]
      refine if_neg ?_
      rintro ⟨h3, h4⟩
      obtain ⟨n, rfl, h5, h6⟩ := h2 h3
      have := h1 n h5 h6
      omega
    have tail : (∀ j : Nat, j < k → may c (at' l j) = true → (at' l k).live < (at' l j).live) → Best c l (k + 1) k := by
      intro h1
      refine .inr ⟨k, rfl, by omega, hm, fun j hj hb => ?_⟩
      rcases Nat.lt_succ_iff_lt_or_eq.1 hj with hj | rfl
      · have := h1 j hj hb; omega
      · omega
    rcases h with ⟨h0, h1⟩ | ⟨n, rfl, hn, h1, h2⟩
    · have h3 : ∀ j : Nat, j < k → may c (at' l j) = true → (at' l k).live < (at' l j).live := fun j hj hb => by rw [h1 j hj] at hb; cases hb
      rw [take h3 fun h4 => by omega]
      refine ⟨by simp [h0], tail h3⟩
    · by_cases hl : (at' l k).live < (at' l (n : Int)).live
      · have h3 : ∀ j : Nat, j < k → may c (at' l j) = true → (at' l k).live < (at' l j).live := fun j hj hb => by have := h2 j hj hb; omega
        rw [take h3 fun _ => ⟨n, rfl, hn, h1⟩]
        refine ⟨by simp [hl], tail h3⟩
      · have hb : blocked c l k = true := by
          simp only [blocked, List.any_eq_true, List.mem_range]
          exact ⟨n, hn, by rw [h1]; simp; omega⟩
        have : step c l n k = n := by simp [step, hb]
        rw [this]
        refine ⟨by simp [hl]; omega, .inr ⟨n, rfl, by omega, h1, fun j hj hb => ?_⟩⟩
        rcases Nat.lt_succ_iff_lt_or_eq.1 hj with hj | rfl
        · exact h2 j hj hb
        · omega
theorem chooseTo_succ (c : Cfg) (l : List Seen) (k : Nat) : chooseTo c l (k + 1) = step c l (chooseTo c l k) k := by simp [chooseTo, List.range_succ]
theorem choose_best (c : Cfg) (l : List Seen) (k : Nat) : Best c l k (chooseTo c l k) := by
  induction k with
  | zero => exact .inl ⟨by simp [chooseTo], fun j hj => by omega⟩
  | succ k ih => rw [chooseTo_succ]; exact (best_step c l k _ ih).2
theorem choose_wantN (N : Int) (l : List Seen) (k : Nat) : chooseTo ⟨0, 0, 0, 0, 0, N, 0⟩ l k = wantTo N l k := by
  induction k with
  | zero => rfl
  | succ k ih => rw [chooseTo_succ, wantTo_succ, (best_step _ l k _ (choose_best _ l k)).1, ih]; simp only [may_eq, wantStep]
theorem choose_want (N : Int) (l : List Seen) : chooseTo ⟨0, 0, 0, 0, 0, N, 0⟩ l l.length = wantTo N l l.length := choose_wantN N l _
theorem PolicyChoose_ev {W0 : World} (n : Int) (x : List Seen) (oid : Option Nat) (cap : Nat) (ho : oid = some 0 ∨ (oid = none ∧ x = [])) :
    Ev Try.prog W0 4 [.int .i64 n, .osl oid 6 0 x.length cap] [.ro 6 (x.map Seen.cs)] (fun v _ => v = .bool true) := by
  refine Ev.out fun Q' hQ => ev4 rfl fun o => ?_
  have hg := at'_getN x
  have hpl := Seen.plain x
  generalize hxs : x.map Seen.cs = xs at *
  generalize hn : x.length = nx at *
  (cbv; repeat' (refine mt (fun _ => ?_) (fun _ => ?_) <;> cbv))
  refine ⟨by simp [o.need_eq, needs], by simp [o.need_eq, needs], ?_⟩
  simp only [o.ar_eq]
  generalize arith .rem .i64 (arith .add .i64 (arith .rem .i64 n 1001) 1001) 1001 = N
  refine ⟨fun m env V => ∃ (i c tot : Nat) (r : Nat → Value), i ≤ nx ∧ i ≤ 64 ∧ tot = c * 6 ∧ m = 64 - i ∧
    env = mix [(1, .osl oid 6 0 nx cap), (5, .int .i64 N), (6, .sl 1 6 0 i c), (7, .int .i64 (wantTo N (fews x 64) i)), (8, .int .i64 i)] r ∧
    V = [.ro 6 xs, .arr 6 ((fews x i).map Seen.cs) tot], ⟨64, o.reI (Re.ren [0, 1] _ _ rfl rfl ?_ ?_ fun r => ⟨0, 0, 0, r, Nat.zero_le _, Nat.zero_le _, rfl, rfl, rfl, rfl⟩)⟩, ?_⟩
  · simp_all [fitB, mixOk, rnB, lget, rnL, rn, rho, llen, Plain, assoc, mix, envOf, wantTo]
    rcases ho with rfl | ⟨rfl, _⟩ <;> simp [lget]
  · simp_all [fitB, mixOk, rnB, lget, rnL, rn, rho, llen, Plain, assoc, mix, envOf, fews]
  rintro m env V ⟨i, c, tot, r, hi, hi2, htot, rfl, rfl, rfl⟩
  generalize hw : wantTo N (fews x 64) i = w
  have hpy := Seen.plain (fews x i)
  have hly : ((fews x i).map Seen.cs).length = i := by simp [fews]; omega
  generalize hys : (fews x i).map Seen.cs = ys at *
  (cbv; repeat' (refine mt (fun _ => ?_) (fun _ => ?_) <;> cbv))
  · rename_i h1 h2
    have h3 : i < nx := by
      have : (i : Int) < nx := by simpa [o.cmp_eq, icmp] using h1
      omega
    have h4 : i < 64 := by
      have : (i : Int) < 64 := by simpa [o.cmp_eq, icmp] using h2
      omega
    obtain rfl : oid = some 0 := by
      rcases ho with h | ⟨_, h⟩
      · exact h
      · subst h; simp at hn; omega
    (cbv; repeat' (refine mt (fun _ => ?_) (fun _ => ?_) <;> cbv))
    refine ⟨by simp only [Ops.inb_eq]; exact decide_eq_true ⟨by first | exact (Int.natCast_nonneg i) | (simp only [Int.ofNat_eq_natCast]; exact (Int.natCast_nonneg i)), by first | exact (show (i : Int) < nx by omega) | (simp only [Int.ofNat_eq_natCast]; exact (show (i : Int) < nx by omega))⟩, ?_⟩
    simp only [Int.toNat_natCast, Int.ofNat_eq_natCast, Ops.get_eq, Ops.nadd_eq, Ops.nat_eq, Nat.zero_add, (hg i h3)]
    generalize hs : at' x i = s
    (cbv; repeat' (refine mt (fun _ => ?_) (fun _ => ?_) <;> cbv))
    refine o.call0 (Seen_ev s) rfl ?_
    rintro v V' ⟨rfl, rfl⟩
    generalize hf : few s = f
    (cbv; repeat' (refine mt (fun _ => ?_) (fun _ => ?_) <;> cbv))
    refine ⟨by simp [o.ll_eq, o.sub_eq], by simp [o.all1_eq, o.sub_eq, allOne, VV.one], ⟨by simp [o.ll_eq, hly], by simp [o.nmul_eq, htot], by simp [o.nle_eq, o.nmul_eq, o.nadd_eq]; omega⟩, fun c' => ?_⟩
    simp only [o.cat_eq, o.sub_eq, o.nadd_eq, o.nmul_eq, List.drop_zero, List.take_succ_cons, List.take_zero]
    generalize htot' : c' * 6 = tot'
    have hys' : ys ++ [f.cs] = (fews x (i + 1)).map Seen.cs := by rw [fews_succ x i (by omega), ← hys, hs, hf]; simp
    generalize hyy : ys ++ [f.cs] = ys' at hys'
    rw [show ys ++ [[VV.int .i64 f.state, .int .i64 f.cls, .int .i64 f.used, .int .i64 f.stamp, .int .i64 f.live, .bool f.op]] = ys' from hyy]
    (cbv; repeat' (refine mt (fun _ => ?_) (fun _ => ?_) <;> cbv))
    have hg' := at'_getN (fews x (i + 1))
    have hlf : (fews x (i + 1)).length = i + 1 := by simp [fews]; omega
    rw [hlf, ← hys'] at hg'
    refine ⟨by simp only [Ops.inb_eq]; exact decide_eq_true ⟨by first | exact (Int.natCast_nonneg i) | (simp only [Int.ofNat_eq_natCast]; exact (Int.natCast_nonneg i)), by first | exact (show (i : Int) < i.succ by omega) | (simp only [Int.ofNat_eq_natCast]; exact (show (i : Int) < i.succ by omega))⟩, ?_⟩
    simp only [Int.toNat_natCast, Int.ofNat_eq_natCast, Ops.get_eq, Ops.nadd_eq, Ops.nat_eq, Nat.zero_add, (hg' i (by omega))]
    have hfl : at' (fews x (i + 1)) (i : Int) = f := by
      rw [← hf, ← hs]; exact at'_fews_last x i (by omega)
    rw [hfl]
    (cbv; repeat' (refine mt (fun _ => ?_) (fun _ => ?_) <;> cbv))
    refine o.call0 (lmay_ev N f) rfl ?_
    rintro v V' ⟨rfl, rfl⟩
    generalize hm : lmay N f = mf
    have h64 : at' (fews x 64) (i : Int) = f := by
      rw [← hf, ← hs]; exact at'_fews x i 64 (by omega) h4
    have hst := wantTo_succ N (fews x 64) i
    rw [hw, wantStep, h64, hm] at hst
    have hlt : 0 ≤ w → w.toNat < i := by
      have := wantTo_lt N (fews x 64) i
      rw [hw] at this
      omega
    have hpy' := Seen.plain (fews x (i + 1))
    rw [← hys'] at hpy'
    clear hQ hg hxs
    (cbv; repeat' (refine mt (fun _ => ?_) (fun _ => ?_) <;> cbv))
    · rename_i h5 h6
      have h7 : w < 0 := by simpa [o.cmp_eq, icmp] using h6
      have hwi : wantTo N (fews x 64) (i + 1) = i := by rw [hst, h5]; simp [h7]
      clear hst hg' hpy
      refine ⟨64 - (i + 1), by omega, o.reI (Re.ren [0, 3] _ _ rfl rfl ?_ ?_ fun r => ⟨i + 1, c', tot', r, by omega, by omega, htot'.symm, rfl, rfl, rfl⟩)⟩
      · rw [hwi]; simp_all [fitB, mixOk, rnB, lget, rnL, rn, rho, llen, Plain, assoc, mix, envOf, o.ar_eq, add1 (i := i) (by omega)]
      · rw [← hys']; clear hys'; simp_all [fitB, mixOk, rnB, lget, rnL, rn, rho, llen, Plain, assoc, mix, envOf]
    · rename_i h5 h6
      have h7 : 0 ≤ w := by simpa [o.cmp_eq, icmp] using h6
      obtain ⟨wn, rfl⟩ : ∃ wn : Nat, w = wn := ⟨w.toNat, by omega⟩
      have hwn : wn < i := hlt h7
      have hwx : at' (fews x (i + 1)) (wn : Int) = at' (fews x 64) (wn : Int) := by
        rw [at'_fews x wn (i + 1) (by omega) (by omega), at'_fews x wn 64 (by omega) (by omega)]
      generalize at' (fews x 64) (wn : Int) = u at *
      refine ⟨by simp only [Ops.inb_eq]; exact decide_eq_true ⟨by first | exact (Int.natCast_nonneg i) | (simp only [Int.ofNat_eq_natCast]; exact (Int.natCast_nonneg i)), by first | exact (show (i : Int) < i.succ by omega) | (simp only [Int.ofNat_eq_natCast]; exact (show (i : Int) < i.succ by omega))⟩, ?_⟩
      simp only [Int.toNat_natCast, Int.ofNat_eq_natCast, Ops.get_eq, Ops.nadd_eq, Ops.nat_eq, Nat.zero_add, (hg' i (by omega))]
      rw [hfl]
      (cbv; repeat' (refine mt (fun _ => ?_) (fun _ => ?_) <;> cbv))
      refine ⟨by simp only [Ops.inb_eq]; exact decide_eq_true ⟨by first | exact (Int.natCast_nonneg wn) | (simp only [Int.ofNat_eq_natCast]; exact (Int.natCast_nonneg wn)), by first | exact (show (wn : Int) < i.succ by omega) | (simp only [Int.ofNat_eq_natCast]; exact (show (wn : Int) < i.succ by omega))⟩, ?_⟩
      simp only [Int.toNat_natCast, Int.ofNat_eq_natCast, Ops.get_eq, Ops.nadd_eq, Ops.nat_eq, Nat.zero_add, (hg' wn (by omega))]
      rw [hwx]
      clear hwx
      (cbv; repeat' (refine mt (fun _ => ?_) (fun _ => ?_) <;> cbv))
      · rename_i h8
        have h9 : f.live < u.live := by simpa [o.cmp_eq, icmp] using h8
        have hwi : wantTo N (fews x 64) (i + 1) = i := by rw [hst, h5]; simp only [Bool.true_and, decide_eq_true h9, Bool.or_true, if_true]
        clear hst hg' hpy
        refine ⟨64 - (i + 1), by omega, o.reI (Re.ren [0, 3] _ _ rfl rfl ?_ ?_ fun r => ⟨i + 1, c', tot', r, by omega, by omega, htot'.symm, rfl, rfl, rfl⟩)⟩
        · rw [hwi]; simp_all [fitB, mixOk, rnB, lget, rnL, rn, rho, llen, Plain, assoc, mix, envOf, o.ar_eq, add1 (i := i) (by omega)]
        · rw [← hys']; clear hys'; simp_all [fitB, mixOk, rnB, lget, rnL, rn, rho, llen, Plain, assoc, mix, envOf]
      · rename_i h8
        have h9 : ¬ f.live < u.live := by simpa [o.cmp_eq, icmp] using h8
        have hwi : wantTo N (fews x 64) (i + 1) = wn := by rw [hst, h5, decide_eq_false h9, decide_eq_false (Int.not_lt.2 h7)]; rfl
        clear hst hg' hpy
        refine ⟨64 - (i + 1), by omega, o.reI (Re.ren [0, 3] _ _ rfl rfl ?_ ?_ fun r => ⟨i + 1, c', tot', r, by omega, by omega, htot'.symm, rfl, rfl, rfl⟩)⟩
        · rw [hwi]; simp_all [fitB, mixOk, rnB, lget, rnL, rn, rho, llen, Plain, assoc, mix, envOf, o.ar_eq, add1 (i := i) (by omega)]
        · rw [← hys']; clear hys'; simp_all [fitB, mixOk, rnB, lget, rnL, rn, rho, llen, Plain, assoc, mix, envOf]
    · rename_i h5
      have hwi : wantTo N (fews x 64) (i + 1) = w := by rw [hst, h5]; simp
      clear hst hg' hpy
      refine ⟨64 - (i + 1), by omega, o.reI (Re.ren [0, 3] _ _ rfl rfl ?_ ?_ fun r => ⟨i + 1, c', tot', r, by omega, by omega, htot'.symm, rfl, rfl, rfl⟩)⟩
      · rw [hwi]; simp_all [fitB, mixOk, rnB, lget, rnL, rn, rho, llen, Plain, assoc, mix, envOf, o.ar_eq, add1 (i := i) (by omega)]
      · rw [← hys']; clear hys'; simp_all [fitB, mixOk, rnB, lget, rnL, rn, rho, llen, Plain, assoc, mix, envOf]
  all_goals
    have hfin : fews x 64 = fews x i := by
      first
      | (rename_i h5
         have h6 : nx ≤ i := by
           have : (nx : Int) ≤ i := by simpa [o.cmp_eq, icmp] using h5
           omega
         rw [fews_all x i (by omega), fews_all x 64 (by omega)])
      | (rename_i h5
         have h6 : 64 ≤ i := by
           have : (64 : Int) ≤ i := by simpa [o.cmp_eq, icmp] using h5
           omega
         rw [show i = 64 by omega])
    refine o.call0 awake_ev rfl ?_
    rintro v V' ⟨rfl, rfl⟩
    (cbv; repeat' (refine mt (fun _ => ?_) (fun _ => ?_) <;> cbv))
    have hlf : (fews x i).length = i := by simp [fews]; omega
    refine o.call [1] (Choose_ev ⟨0, 0, 0, 0, 0, N, 0⟩ (fews x i) c tot (by omega)) (by rw [hlf]; rfl) rfl rfl (by rw [hys]; clear hg; simp_all [fitB, mixOk, rnB, lget, rnL, rn, rho, llen, Plain, assoc, mix, envOf]) ?_
    rintro v V' ⟨rfl, rfl⟩
    rw [hys]
    simp only [layB, lset, lapp, rnB, rn, hpl _, hpy _, List.map_nil]
    rw [choose_want, hlf, ← hfin, hw]
    (cbv; repeat' (refine mt (fun _ => ?_) (fun _ => ?_) <;> cbv))
    refine hQ _ _ (ReV.id ?_)
    simp [o.cmp_eq, icmp]
end Go.Proofs.Ytebeabcbbcbdhaa
