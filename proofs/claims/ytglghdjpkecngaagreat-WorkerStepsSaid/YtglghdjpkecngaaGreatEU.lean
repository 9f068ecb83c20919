/- worker: calls that are cut down. -/
import Derived.Test.YtglghdjpkecngaaGreatEb
import Derived.Test.YtglghdjpkecngaaGreatXv
import Derived.Test.YtglghdjpkecngaaGreatIRS
namespace Go.Proofs.YtglghdjpkecngaaGreat
set_option linter.unusedVariables false
set_option linter.unusedSimpArgs false
open Go Go.SL Go.FL
set_option maxRecDepth 100000
theorem CallS.plain (l : List CallS) : Plain (l.map CallS.cs) := Plain.of (fun _ _ => rfl) l
def cutB (xs : List CallS) : List VB := match xs with
  | [] => []
  | _ :: _ => [.num, .arr 9 (xs.map CallS.cs) (.v 1)]
def cutO : Nat → VV
  | 0 => .nilSl
  | i + 1 => .sl 2 9 0 (i + 1) (.v 1)
def cutV (X : VB) (ys : List (List VV)) : Nat → List VB
  | 0 => [X]
  | _ + 1 => [X, .num, .arr 9 ys (.v 1)]
def cutY (l : List CallS) (n : Nat) : List (List VV) := ((l.take n).map cutC).map CallS.cs
theorem cut_end (X : VB) (l : List CallS) (n : Nat) (h : n = min l.length 30) : cutO n = slV 9 (cutL l) 2 1 ∧ cutV X (cutY l n) n = X :: cutB (cutL l) := by
  have hl : (cutL l).length = n := by unfold cutL; rw [List.length_map, List.length_take]; omega
  have ht : (l.take n).map cutC = cutL l := by
    unfold cutL
    congr 1
    rw [h, List.take_eq_take_iff]
    omega
  rcases n with _ | n
  · have : cutL l = [] := List.eq_nil_of_length_eq_zero hl
    rw [this]; exact ⟨rfl, rfl⟩
  · simp only [cutO, cutV, cutY]
    rw [ht]
    rcases hc : cutL l with _ | ⟨a, t⟩
    · rw [hc] at hl; simp at hl
    · rw [hc] at hl
      refine ⟨?_, rfl⟩
      simp only [slV]
      rw [hl]
theorem cut_next (l : List CallS) (i : Nat) (h : i < l.length) : ∃ k z w a, ∃ r : Nat, ∃ x v o e, (l.map CallS.cs)[i]? = some [.int .i64 k, .int .i64 z, .int .i64 w, .int .i64 a, .int .u64 r, .int .i64 x, .int .i64 v, .int .i64 o, .int .i64 e] ∧
    cutY l (i + 1) = cutY l i ++ [[.int .i64 (arith .add .i64 1 (arith .rem .i64 (arith .add .i64 (arith .rem .i64 k 8) 8) 8)), .int .i64 z, .int .i64 (if 0 ≤ w then arith .rem .i64 w 1 else w), .int .i64 a, .int .u64 r, .int .i64 x, .int .i64 (arith .and .i64 v 1099511627775), .int .i64 (arith .and .i64 o 1099511627775), .int .i64 (arith .and .i64 e 15)]] := by
  refine ⟨l[i].kind, l[i].size, l[i].who, l[i].at_, l[i].raw, l[i].index, l[i].value, l[i].old, l[i].key, ?_, ?_⟩
  · rw [List.getElem?_map, List.getElem?_eq_getElem h]; rfl
  · unfold cutY
    rw [List.take_add_one, List.getElem?_eq_getElem h, List.map_append, List.map_append]; rfl
theorem cutY_len (l : List CallS) (i : Nat) (h : i ≤ l.length) : (cutY l i).length = i := by
  unfold cutY; rw [List.length_map, List.length_map, List.length_take]; omega
theorem cutY_rn (l : List CallS) (i : Nat) (ρ : Nat → Nat) : (cutY l i).map (rnL ρ) = cutY l i := by
  unfold cutY; rw [List.map_map]; exact List.map_congr_left fun _ _ => rfl
theorem cut_st (X : VB) (ys : List (List VV)) (i : Nat) : (i = 0 ∧ cutO i = .nilSl ∧ cutV X ys i = [X]) ∨ (0 < i ∧ cutO i = .sl 2 9 0 i (.v 1) ∧ cutV X ys i = [X, .num, .arr 9 ys (.v 1)]) := by
  rcases i with _ | i
  · exact .inl ⟨rfl, rfl, rfl⟩
  · exact .inr ⟨by omega, rfl, rfl⟩
set_option maxHeartbeats 1000000 in
theorem Cut_ev {W0 : World} (l : List CallS) (oid : Option Nat) (cap : Nat) (ho : oid = some 0 ∨ (oid = none ∧ l = [])) : Ev Tryz.prog W0 45 [.osl oid 9 0 l.length cap, .int .i64 1] [.ro 9 (l.map CallS.cs)]
    (fun v V' => v = slV 9 (cutL l) 2 1 ∧ V' = .ro 9 (l.map CallS.cs) :: cutB (cutL l)) := by
  have hend := fun n => cut_end (.ro 9 (l.map CallS.cs)) l n
  have hpl := CallS.plain l
  have hXr : ∀ ρ, rnB ρ (.ro 9 (l.map CallS.cs)) = .ro 9 (l.map CallS.cs) := fun ρ => by simp only [rnB, hpl _]
  have hnx := cut_next l
  have hyl := cutY_len l
  have hyr := cutY_rn l
  have hy0 : cutY l 0 = [] := rfl
  have ho2 : oid = some 0 ∨ (oid = none ∧ l.length = 0) := by
    rcases ho with h | ⟨h, rfl⟩
    · exact .inl h
    · exact .inr ⟨h, rfl⟩
  clear ho hpl
  refine Ev.out fun Q' hQ => ?_
  generalize slV 9 (cutL l) 2 1 = RV at *
  generalize cutB (cutL l) = RB at *
  generalize cutY l = ys at *
  generalize l.map CallS.cs = xs at *
  generalize l.length = nx at *
  refine ev45 rfl fun o => ?_
  (cbv; repeat' (first | (refine ⟨by simp only [Ops.need_eq, needs]; first | rfl | decide, ?_⟩; try cbv) | (refine mt (fun h => ?_) (fun h => ?_) <;> first | (exfalso; simp [Ops.cmp_eq, Ops.not_eq, icmp] at h; done) | (exfalso; simp [Ops.cmp_eq, icmp] at h; omega) | (try cbv))))
  refine ⟨fun k env V => ∃ (i : Nat) (r : Nat → Value), i + k = min nx 30 ∧ env = mix [(0, .osl oid 9 0 nx cap), (1, .int .i64 1), (4, cutO i), (5, .int .i64 i)] r ∧ V = cutV (.ro 9 xs) (ys i) i,
    ⟨min nx 30, o.reI (Re.ren [0] _ _ rfl rfl ?_ ?_ fun r => ⟨0, r, by omega, rfl, rfl⟩)⟩, ?_⟩
  · refine ⟨?_, rfl, rfl, rfl, trivial⟩
    rcases ho2 with rfl | ⟨rfl, _⟩ <;> rfl
  · exact ⟨.inr (by rw [hXr]; rfl), trivial⟩
  rintro k env V ⟨i, r, hik, rfl, rfl⟩
  have hend := hend i
  by_cases hlt : i < nx ∧ i < 30
  · obtain ⟨c1, c2, c3, c4, c5, c6, c7, c8, c9, hg, hyn⟩ := hnx i hlt.1
    obtain rfl : oid = some 0 := by
      rcases ho2 with h | ⟨_, h⟩
      · exact h
      · omega
    have hyl := hyl i (by omega)
    have hyr := hyr (i + 1)
    clear hend
    rcases cut_st (.ro 9 xs) (ys i) i with ⟨hi, e1, e2⟩ | ⟨hi, e1, e2⟩
    all_goals
      rw [e1, e2]
      clear e1 e2
      have hp := hyr
      (cbv; repeat' (first | (refine ⟨by simp only [Ops.need_eq, needs]; first | rfl | decide, ?_⟩; try cbv) | (refine mt (fun h => ?_) (fun h => ?_) <;> first | (exfalso; simp [Ops.cmp_eq, Ops.not_eq, icmp] at h; done) | (exfalso; simp [Ops.cmp_eq, icmp] at h; omega) | (try cbv))))
      refine ⟨by simp only [Ops.inb_eq]; exact decide_eq_true ⟨by first | exact (Int.natCast_nonneg i) | (simp only [Int.ofNat_eq_natCast]; exact (Int.natCast_nonneg i)), by first | exact (show (i : Int) < nx by omega) | (simp only [Int.ofNat_eq_natCast]; exact (show (i : Int) < nx by omega))⟩, ?_⟩
      simp only [Int.toNat_natCast, Int.ofNat_eq_natCast, Ops.get_eq, Ops.nadd_eq, Ops.nat_eq, Nat.zero_add, (hg)]
      (cbv; repeat' (first | (refine ⟨by simp only [Ops.need_eq, needs]; first | rfl | decide, ?_⟩; try cbv) | (refine mt (fun _ => ?_) (fun _ => ?_) <;> (try cbv))))
    all_goals
      refine ⟨by simp [o.ll_eq, o.sub_eq], by simp [o.all1_eq, o.sub_eq, allOne, VV.one], ?_⟩
    · refine ⟨⟨by simp [o.nle_eq], by simp [o.nmul_eq, o.nle_eq]⟩, .inr fun _ => ?_⟩
      (cbv; repeat' (first | (refine ⟨by simp only [Ops.need_eq, needs]; first | rfl | decide, ?_⟩; try cbv) | (refine mt (fun _ => ?_) (fun _ => ?_) <;> (try cbv))))
      have hq := show 0 ≤ c3 from (by (try simp only [cfix] at *); (try simp only [Int.ofNat_eq_natCast] at *); simp only [Ops.cmp_eq, icmp, decide_eq_true_eq, decide_eq_false_iff_not] at *; omega)
      subst hi
      refine ⟨k - 1, by omega, o.reI (Re.ren [0, 3, 4] _ _ rfl rfl ?_ ?_ fun r => ⟨1, r, by omega, rfl, rfl⟩)⟩
      · exact ⟨rfl, rfl, rfl, congrArg (VV.int .i64) (by simp only [Ops.ar_eq]; exact add1 (i := 0) (by omega)), trivial⟩
      · refine ⟨.inr (by rw [hXr]; rfl), .inr rfl, .inr ?_, trivial⟩
        show some (VB.arr 9 _ _) = some (VB.arr 9 ((ys 1).map (rnL _)) _)
        rw [hyr, hyn, hy0, if_pos hq]
        simp only [Ops.sub_eq, Ops.ar_eq, List.drop_zero, List.take_succ_cons, List.take_zero, List.nil_append]
        rfl
    · refine ⟨⟨by simp [o.nle_eq], by simp [o.nmul_eq, o.nle_eq]⟩, .inr fun _ => ?_⟩
      (cbv; repeat' (first | (refine ⟨by simp only [Ops.need_eq, needs]; first | rfl | decide, ?_⟩; try cbv) | (refine mt (fun _ => ?_) (fun _ => ?_) <;> (try cbv))))
      have hq := show ¬ 0 ≤ c3 from (by (try simp only [cfix] at *); (try simp only [Int.ofNat_eq_natCast] at *); simp only [Ops.cmp_eq, icmp, decide_eq_true_eq, decide_eq_false_iff_not] at *; omega)
      subst hi
      refine ⟨k - 1, by omega, o.reI (Re.ren [0, 3, 4] _ _ rfl rfl ?_ ?_ fun r => ⟨1, r, by omega, rfl, rfl⟩)⟩
      · exact ⟨rfl, rfl, rfl, congrArg (VV.int .i64) (by simp only [Ops.ar_eq]; exact add1 (i := 0) (by omega)), trivial⟩
      · refine ⟨.inr (by rw [hXr]; rfl), .inr rfl, .inr ?_, trivial⟩
        show some (VB.arr 9 _ _) = some (VB.arr 9 ((ys 1).map (rnL _)) _)
        rw [hyr, hyn, hy0, if_neg hq]
        simp only [Ops.sub_eq, Ops.ar_eq, List.drop_zero, List.take_succ_cons, List.take_zero, List.nil_append]
        rfl
    · refine ⟨⟨by simp [o.ll_eq, hyl], by simp [o.nle_eq, o.nmul_eq, o.nadd_eq]; omega⟩, ?_⟩
      (cbv; repeat' (first | (refine ⟨by simp only [Ops.need_eq, needs]; first | rfl | decide, ?_⟩; try cbv) | (refine mt (fun _ => ?_) (fun _ => ?_) <;> (try cbv))))
      have hq := show 0 ≤ c3 from (by (try simp only [cfix] at *); (try simp only [Int.ofNat_eq_natCast] at *); simp only [Ops.cmp_eq, icmp, decide_eq_true_eq, decide_eq_false_iff_not] at *; omega)
      refine ⟨k - 1, by omega, o.reI (Re.ren [0, 5, 6] _ _ rfl rfl ?_ ?_ fun r => ⟨i + 1, r, by omega, rfl, rfl⟩)⟩
      · exact ⟨rfl, rfl, by simp only [Ops.nadd_eq]; rfl, congrArg (VV.int .i64) (by simp only [Ops.ar_eq]; exact add1 (i := i) (by omega)), trivial⟩
      · refine ⟨.inr (by rw [hXr]; rfl), .inr rfl, .inr ?_, trivial⟩
        show some (VB.arr 9 _ _) = some (VB.arr 9 ((ys (i + 1)).map (rnL _)) _)
        rw [hyr, hyn, if_pos hq]
        simp only [Ops.cat_eq, Ops.sub_eq, Ops.ar_eq, List.drop_zero, List.take_succ_cons, List.take_zero]
        rfl
    · refine ⟨⟨by simp [o.ll_eq, hyl], by simp [o.nle_eq, o.nmul_eq, o.nadd_eq]; omega⟩, ?_⟩
      (cbv; repeat' (first | (refine ⟨by simp only [Ops.need_eq, needs]; first | rfl | decide, ?_⟩; try cbv) | (refine mt (fun _ => ?_) (fun _ => ?_) <;> (try cbv))))
      have hq := show ¬ 0 ≤ c3 from (by (try simp only [cfix] at *); (try simp only [Int.ofNat_eq_natCast] at *); simp only [Ops.cmp_eq, icmp, decide_eq_true_eq, decide_eq_false_iff_not] at *; omega)
      refine ⟨k - 1, by omega, o.reI (Re.ren [0, 5, 6] _ _ rfl rfl ?_ ?_ fun r => ⟨i + 1, r, by omega, rfl, rfl⟩)⟩
      · exact ⟨rfl, rfl, by simp only [Ops.nadd_eq]; rfl, congrArg (VV.int .i64) (by simp only [Ops.ar_eq]; exact add1 (i := i) (by omega)), trivial⟩
      · refine ⟨.inr (by rw [hXr]; rfl), .inr rfl, .inr ?_, trivial⟩
        show some (VB.arr 9 _ _) = some (VB.arr 9 ((ys (i + 1)).map (rnL _)) _)
        rw [hyr, hyn, if_neg hq]
        simp only [Ops.cat_eq, Ops.sub_eq, Ops.ar_eq, List.drop_zero, List.take_succ_cons, List.take_zero]
        rfl
  · obtain ⟨e1, e2⟩ := hend (by omega)
    rcases cut_st (.ro 9 xs) (ys i) i with ⟨hi, q1, q2⟩ | ⟨hi, q1, q2⟩
    all_goals
      rw [← e1, ← e2] at hQ
      rw [q1, q2] at hQ ⊢
      clear e1 e2 q1 q2
      (cbv; repeat' (first | (refine ⟨by simp only [Ops.need_eq, needs]; first | rfl | decide, ?_⟩; try cbv) | (refine mt (fun h => ?_) (fun h => ?_) <;> first | (exfalso; simp [Ops.cmp_eq, Ops.not_eq, icmp] at h; done) | (exfalso; simp [Ops.cmp_eq, icmp] at h; omega) | (try cbv))))
    · exact hQ _ _ (ReV.ren [0] .nilSl [.ro 9 xs] rfl rfl rfl ⟨.inr (by rw [hXr]; rfl), trivial⟩ ⟨rfl, rfl⟩)
    all_goals first
      | exact hQ _ _ (ReV.ren [0, 1, 2] (.sl 2 9 0 i (.v 1)) [.ro 9 xs, .num, .arr 9 (ys i) (.v 1)] rfl rfl rfl ⟨.inr (by rw [hXr]; rfl), .inr rfl, .inr (by show some (VB.arr 9 (ys i) _) = some (VB.arr 9 ((ys i).map (rnL _)) _); rw [hyr]; rfl), trivial⟩ ⟨rfl, rfl⟩)
      | (exfalso; (try simp only [cfix] at *); (try simp only [Int.ofNat_eq_natCast] at *); simp only [Ops.cmp_eq, icmp, decide_eq_true_eq] at *; omega)
end Go.Proofs.YtglghdjpkecngaaGreat
