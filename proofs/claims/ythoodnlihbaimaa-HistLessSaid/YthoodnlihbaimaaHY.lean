/- hist: Run and Linear. -/
import Derived.Test.YthoodnlihbaimaaHVe
namespace Go.Proofs.Ythoodnlihbaimaa
set_option linter.unusedVariables false
set_option linter.unusedSimpArgs false
open Go Go.SL Go.FL
set_option maxRecDepth 100000
def runP : StoreP → List Told → Nat → Int
  | _, [], _ => -1
  | s, t :: l, i => if (doP s t).2 then runP (doP s t).1 l (i + 1) else i
def linT (l : List Told) : Bool := decide (runP ⟨[], []⟩ (st key l) 0 < 0) && withinT l
set_option maxHeartbeats 1000000 in
theorem RunB_ev {W0 : World} (l : List Told) (hn : l.length ≤ 40) (lo : Low l) (ok : ∀ t ∈ l, TOk t) : Ev Try.prog W0 29 [.sl 1 18 0 l.length (.v 0)] [.num, .arr 18 (l.map Told.cs) (.v 0)] (fun v V' => ∃ s, v = .tup [.int .i64 (runP ⟨[], []⟩ (st key l) 0), .ptr 2 0] ∧ V' = [.num, .arr 18 (l.map Told.cs) (.v 0), modelB W0 s]) := by
  have hB := OrderB_ev (W0 := W0) l hn lo
  have hpy := Told.plain l
  have hpz := Told.plain (st key l)
  have hzl : (st key l).length = l.length := st_len _
  have hgz := tat_get (st key l)
  have hok : ∀ t ∈ st key l, TOk t := fun t ht => ok t (st_mem ht)
  rw [hzl] at hgz
  refine Ev.out fun Q' hQ => ?_
  generalize hR : st key l = R at *
  generalize R.map Told.cs = zs at *
  generalize l.map Told.cs = ys at *
  generalize l.length = n at *
  have hr : ∀ (ρ : Nat → Nat) c, rnB ρ (.arr 18 ys c) = .arr 18 ys (c.rn ρ) := by intro ρ c; simp only [rnB, hpy _]
  have hrz : ∀ (ρ : Nat → Nat) c, rnB ρ (.arr 18 zs c) = .arr 18 zs (c.rn ρ) := by intro ρ c; simp only [rnB, hpz _]
  have hr2 : ∀ ρ : Nat → Nat, rnB ρ .num = .num := fun _ => rfl
  obtain ⟨MB, hMB⟩ : ∃ MB : StoreP → VB, ∀ s, modelB W0 s = MB s := ⟨modelB W0, fun _ => rfl⟩
  have hrm : ∀ s ρ, rnB ρ (MB s) = MB s := fun s ρ => by rw [← hMB]; rfl
  have hnew := mNewB_ev (W0 := W0)
  have hdo := fun s t ok => Do_ev2 (W0 := W0) s t ok
  simp only [hMB] at hnew hdo hQ
  generalize n * 18 = tt at *
  refine ev29 rfl fun o => ?_
  (cbv; repeat' (first | (refine ⟨by simp only [Ops.need_eq, needs]; first | rfl | decide, ?_⟩; try cbv) | (refine mt (fun h => ?_) (fun h => ?_) <;> first | (exfalso; simp [Ops.cmp_eq, Ops.not_eq, icmp] at h; done) | (exfalso; simp [Ops.cmp_eq, icmp] at h; omega) | (try cbv))))
  refine Ops.call _ [] hnew rfl rfl rfl trivial ?_
  rintro v V' ⟨rfl, rfl⟩
  simp only [layB, lset, lapp, List.map_nil, List.map_cons, hrm, rn, rnL]
  generalize hM0 : MB ⟨[], []⟩ = M0
  (cbv; repeat' (first | (refine ⟨by simp only [Ops.need_eq, needs]; first | rfl | decide, ?_⟩; try cbv) | (refine mt (fun h => ?_) (fun h => ?_) <;> first | (exfalso; simp [Ops.cmp_eq, Ops.not_eq, icmp] at h; done) | (exfalso; simp [Ops.cmp_eq, icmp] at h; omega) | (try cbv))))
  refine Ops.call _ [0, 1] hB rfl rfl rfl ⟨.inr rfl, .inr (by rw [hr]; rfl), trivial⟩ ?_
  rintro v V' ⟨rfl, rfl⟩
  simp only [layB, lset, lapp, List.map_nil, List.map_cons, hr, hrz, hr2, rn, rnL, Cap.rn]
  (cbv; repeat' (first | (refine ⟨by simp only [Ops.need_eq, needs]; first | rfl | decide, ?_⟩; try cbv) | (refine mt (fun h => ?_) (fun h => ?_) <;> first | (exfalso; simp [Ops.cmp_eq, Ops.not_eq, icmp] at h; done) | (exfalso; simp [Ops.cmp_eq, icmp] at h; omega) | (try cbv))))
  refine ⟨fun k env V => ∃ (i : Nat) (s : StoreP) (r : Nat → Value), i ≤ n ∧ k = n - i ∧ runP s (R.drop i) i = runP ⟨[], []⟩ R 0 ∧ env = mix [(4, .ptr 2 0), (9, .sl 3 18 0 n (.n n)), (10, .int .i64 n), (11, .int .i64 i)] r ∧ V = [.num, .arr 18 ys (.v 0), MB s, .arr 18 zs (.n tt)],
    ⟨n, o.reI (Re.ren [0, 1, 2, 3] _ _ rfl rfl ?_ ?_ fun r => ⟨0, ⟨[], []⟩, r, Nat.zero_le _, rfl, rfl, rfl, rfl⟩)⟩, ?_⟩
  · exact ⟨rfl, rfl, rfl, rfl, trivial⟩
  · exact ⟨.inr rfl, .inr (by rw [hr]; rfl), .inr (by rw [hrm, hM0]; rfl), .inr (by rw [hrz]; rfl), trivial⟩
  clear hM0 M0
  rintro k env V ⟨i, s, r, hin, hk, hrun, rfl, rfl⟩
  by_cases hlt : i < n
  · have hg := hgz i hlt
    have hRi : R[i]? = some (tat R i) := by simp [tat, List.getElem?_eq_getElem (show i < R.length by omega), List.getD_eq_getElem?_getD]
    have hoki := hok _ (List.mem_of_getElem? hRi)
    rw [List.drop_eq_getElem_cons (show i < R.length by omega)] at hrun
    have : R[i]'(by omega) = tat R i := by rw [List.getElem?_eq_getElem (by omega)] at hRi; simpa using hRi
    rw [this, runP] at hrun
    have hdoi := hdo s _ hoki
    have hi1 := add1 (i := i) (by omega)
    clear hgz hB hdo hnew hRi this hok ok
    generalize doP s (tat R i) = d at *
    generalize runP ⟨[], []⟩ R 0 = RR at *
    generalize hrest : runP d.1 (R.drop (i + 1)) (i + 1) = RS at *
    generalize tat R i = u at *
    obtain ⟨u1, u2, u3, u4, u5, u6, u7, u8, u9, u10, u11, u12, u13, u14, u15, u16, u17, u18⟩ := u
    simp only [Told.cs] at hg hdoi
    have hrm1 := hrm s
    have hrm2 := hrm d.1
    generalize hMs : MB s = M1 at *
    generalize hMd : MB d.1 = M2 at *
    obtain ⟨ds, db⟩ := d
    simp only at *
    cases db
    · simp only [Bool.false_eq_true, if_false] at hrun
      (cbv; repeat' (first | (refine ⟨by simp only [Ops.need_eq, needs]; first | rfl | decide, ?_⟩; try cbv) | (refine mt (fun h => ?_) (fun h => ?_) <;> first | (exfalso; simp [Ops.cmp_eq, Ops.not_eq, icmp] at h; done) | (exfalso; simp [Ops.cmp_eq, icmp] at h; omega) | (try cbv))))
      refine ⟨by simp only [Ops.inb_eq]; exact decide_eq_true ⟨by first | exact (Int.natCast_nonneg i) | (simp only [Int.ofNat_eq_natCast]; exact (Int.natCast_nonneg i)), by first | exact (show (i : Int) < n by omega) | (simp only [Int.ofNat_eq_natCast]; exact (show (i : Int) < n by omega))⟩, ?_⟩
      simp only [Int.toNat_natCast, Int.ofNat_eq_natCast, Ops.get_eq, Ops.nadd_eq, Ops.nat_eq, Nat.zero_add, hg]
      (cbv; repeat' (first | (refine ⟨by simp only [Ops.need_eq, needs]; first | rfl | decide, ?_⟩; try cbv) | (refine mt (fun h => ?_) (fun h => ?_) <;> first | (exfalso; simp [Ops.cmp_eq, Ops.not_eq, icmp] at h; done) | (exfalso; simp [Ops.cmp_eq, icmp] at h; omega) | (try cbv))))
      refine Ops.call _ [2] hdoi rfl rfl rfl ⟨.inr (by rw [hrm1]; rfl), trivial⟩ ?_
      rintro v V' ⟨rfl, rfl⟩
      simp only [layB, lset, lapp, List.map_nil, List.map_cons, hrm2, rn, rnL, Cap.rn]
      (cbv; repeat' (first | (refine ⟨by simp only [Ops.need_eq, needs]; first | rfl | decide, ?_⟩; try cbv) | (refine mt (fun h => ?_) (fun h => ?_) <;> first | (exfalso; simp [Ops.cmp_eq, Ops.not_eq, icmp] at h; done) | (exfalso; simp [Ops.cmp_eq, icmp] at h; omega) | (try cbv))))
      refine hQ _ _ (ReV.ren [0, 1, 2] (.tup [.int .i64 RR, .ptr 2 0]) [.num, .arr 18 ys (.v 0), M2] rfl rfl ?_ ⟨.inr rfl, .inr (by rw [hr]; rfl), .inr (by rw [hrm2]; rfl), trivial⟩ ⟨ds, rfl, by rw [hMd]⟩)
      rw [← hrun]; rfl
    · simp only [if_true] at hrun
      (cbv; repeat' (first | (refine ⟨by simp only [Ops.need_eq, needs]; first | rfl | decide, ?_⟩; try cbv) | (refine mt (fun h => ?_) (fun h => ?_) <;> first | (exfalso; simp [Ops.cmp_eq, Ops.not_eq, icmp] at h; done) | (exfalso; simp [Ops.cmp_eq, icmp] at h; omega) | (try cbv))))
      refine ⟨by simp only [Ops.inb_eq]; exact decide_eq_true ⟨by first | exact (Int.natCast_nonneg i) | (simp only [Int.ofNat_eq_natCast]; exact (Int.natCast_nonneg i)), by first | exact (show (i : Int) < n by omega) | (simp only [Int.ofNat_eq_natCast]; exact (show (i : Int) < n by omega))⟩, ?_⟩
      simp only [Int.toNat_natCast, Int.ofNat_eq_natCast, Ops.get_eq, Ops.nadd_eq, Ops.nat_eq, Nat.zero_add, hg]
      (cbv; repeat' (first | (refine ⟨by simp only [Ops.need_eq, needs]; first | rfl | decide, ?_⟩; try cbv) | (refine mt (fun h => ?_) (fun h => ?_) <;> first | (exfalso; simp [Ops.cmp_eq, Ops.not_eq, icmp] at h; done) | (exfalso; simp [Ops.cmp_eq, icmp] at h; omega) | (try cbv))))
      refine Ops.call _ [2] hdoi rfl rfl rfl ⟨.inr (by rw [hrm1]; rfl), trivial⟩ ?_
      rintro v V' ⟨rfl, rfl⟩
      simp only [layB, lset, lapp, List.map_nil, List.map_cons, hrm2, rn, rnL, Cap.rn]
      (cbv; repeat' (first | (refine ⟨by simp only [Ops.need_eq, needs]; first | rfl | decide, ?_⟩; try cbv) | (refine mt (fun h => ?_) (fun h => ?_) <;> first | (exfalso; simp [Ops.cmp_eq, Ops.not_eq, icmp] at h; done) | (exfalso; simp [Ops.cmp_eq, icmp] at h; omega) | (try cbv))))
      refine ⟨n - (i + 1), by omega, o.reI (Re.ren [0, 1, 2, 3] _ _ rfl rfl ?_ ?_ fun r => ⟨i + 1, ds, r, by omega, rfl, by rw [hrest]; exact hrun, rfl, by rw [hMd]⟩)⟩
      · exact ⟨rfl, rfl, rfl, congrArg (VV.int .i64) (by simp only [Ops.ar_eq]; exact hi1), trivial⟩
      · exact ⟨.inr rfl, .inr (by rw [hr]; rfl), .inr (by rw [hrm2]; rfl), .inr (by rw [hrz]; rfl), trivial⟩
  · have : i = n := by omega
    subst this
    rw [List.drop_of_length_le (by omega), runP] at hrun
    have hrm1 := hrm s
    generalize hMs : MB s = M1 at *
    generalize runP ⟨[], []⟩ R 0 = RR at *
    subst hrun
    (cbv; repeat' (first | (refine ⟨by simp only [Ops.need_eq, needs]; first | rfl | decide, ?_⟩; try cbv) | (refine mt (fun h => ?_) (fun h => ?_) <;> first | (exfalso; simp [Ops.cmp_eq, Ops.not_eq, icmp] at h; done) | (exfalso; simp [Ops.cmp_eq, icmp] at h; omega) | (try cbv))))
    exact hQ _ _ (ReV.ren [0, 1, 2] (.tup [.int .i64 (-1), .ptr 2 0]) [.num, .arr 18 ys (.v 0), M1] rfl rfl rfl ⟨.inr rfl, .inr (by rw [hr]; rfl), .inr (by rw [hrm1]; rfl), trivial⟩ ⟨s, rfl, by rw [hMs]⟩)
end Go.Proofs.Ythoodnlihbaimaa
