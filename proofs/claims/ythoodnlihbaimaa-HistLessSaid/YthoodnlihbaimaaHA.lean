/- hist: few values (cut, cutAll). -/
import Derived.Test.YthoodnlihbaimaaHT
namespace Go.Proofs.Ythoodnlihbaimaa
set_option linter.unusedVariables false
set_option linter.unusedSimpArgs false
open Go Go.SL
set_option maxRecDepth 100000
def cutT (t : Told) : Told := { t with
  kind := arith .add .i64 1 (arith .rem .i64 (arith .add .i64 (arith .rem .i64 t.kind 8) 8) 8), handle := arith .and .u64 t.handle 3, dhandle := arith .and .u64 t.dhandle 7,
  size := arith .add .i64 1 (arith .and .i64 t.size 3), key := arith .and .i64 t.key 3, thread := arith .and .i64 t.thread 3, stamp := arith .and .i64 t.stamp 65535, began := arith .and .i64 t.began 65535, ended := arith .and .i64 t.ended 65535 }
set_option maxHeartbeats 2000000 in
theorem cut_ev {W0 : World} (t : Told) : Ev Try.prog W0 26 [.agg t.cs] [] (fun v V' => v = .agg (cutT t).cs ∧ V' = []) := by
  refine Ev.out fun Q' hQ => ev26 rfl fun o => ?_
  generalize hR : cutT t = R at hQ
  obtain ⟨a1, a2, a3, a4, a5, a6, a7, a8, a9, a10, a11, a12, a13, a14, a15, a16, a17, a18⟩ := t
  (cbv; repeat' (refine mt (fun _ => ?_) (fun _ => ?_) <;> cbv))
  refine ⟨by simp [Ops.need_eq, needs, Ops.inb_eq], ?_⟩
  (cbv; repeat' (refine mt (fun _ => ?_) (fun _ => ?_) <;> cbv))
  refine ⟨by simp [Ops.need_eq, needs, Ops.inb_eq], ?_⟩
  (cbv; repeat' (refine mt (fun _ => ?_) (fun _ => ?_) <;> cbv))
  refine hQ _ _ (ReV.none rfl ⟨?_, rfl⟩)
  rw [← hR]
  simp only [o.ar_eq, cutT, Told.cs]
theorem Told.rn_cs (c : Told) (ρ : Nat → Nat) : rnL ρ c.cs = c.cs := rfl
def cut40 (l : List Told) : List Told := (l.take 40).map cutT
def cutY (l : List Told) (n : Nat) : List (List VV) := ((l.take n).map cutT).map Told.cs
/-- A slice that was appended to, and its array: none yet, or one. -/
def outS : Nat → VV
  | 0 => .sl 1 18 0 0 (.n 0)
  | i + 1 => .sl 2 18 0 (i + 1) (.v 1)
def outV (X : VB) (ys : List (List VV)) : Nat → List VB
  | 0 => [X, .arr 18 [] (.n 0)]
  | _ + 1 => [X, .num, .arr 18 ys (.v 1)]
theorem out_st (X : VB) (ys : List (List VV)) (i : Nat) : (i = 0 ∧ outS i = .sl 1 18 0 0 (.n 0) ∧ outV X ys i = [X, .arr 18 [] (.n 0)]) ∨ (0 < i ∧ outS i = .sl 2 18 0 i (.v 1) ∧ outV X ys i = [X, .num, .arr 18 ys (.v 1)]) := by
  rcases i with _ | i
  · exact .inl ⟨rfl, rfl, rfl⟩
  · exact .inr ⟨by omega, rfl, rfl⟩
theorem cut40_len (l : List Told) : (cut40 l).length = min l.length 40 := by unfold cut40; rw [List.length_map, List.length_take]; omega
theorem cut40_eq (l : List Told) (n : Nat) (h : n = min l.length 40) : cutY l n = (cut40 l).map Told.cs := by
  unfold cutY cut40
  congr 2
  rw [h, List.take_eq_take_iff]
  omega
theorem cutY_next (l : List Told) (i : Nat) (h : i < l.length) : ∃ t : Told, (l.map Told.cs)[i]? = some t.cs ∧ cutY l (i + 1) = cutY l i ++ [(cutT t).cs] := by
  refine ⟨l[i], ?_, ?_⟩
  · rw [List.getElem?_map, List.getElem?_eq_getElem h]; rfl
  · unfold cutY
    rw [List.take_add_one, List.getElem?_eq_getElem h, List.map_append, List.map_append]; rfl
theorem cutY_len (l : List Told) (i : Nat) (h : i ≤ l.length) : (cutY l i).length = i := by
  unfold cutY; rw [List.length_map, List.length_map, List.length_take]; omega
theorem cutY_rn (l : List Told) (i : Nat) (ρ : Nat → Nat) : (cutY l i).map (rnL ρ) = cutY l i := by
  unfold cutY; rw [List.map_map]; exact List.map_congr_left fun _ _ => rfl
set_option maxHeartbeats 1000000 in
theorem cutAll_ev {W0 : World} (l : List Told) (oid : Option Nat) (cap : Nat) (ho : oid = some 0 ∨ (oid = none ∧ l = [])) : Ev Try.prog W0 10 [.osl oid 18 0 l.length cap] [.ro 18 (l.map Told.cs)]
    (fun v V' => v = outS (cut40 l).length ∧ V' = outV (.ro 18 (l.map Told.cs)) ((cut40 l).map Told.cs) (cut40 l).length) := by
  have hend := fun n => cut40_eq l n
  have hcl := cut40_len l
  have hpl := Told.plain l
  have hXr : ∀ ρ, rnB ρ (.ro 18 (l.map Told.cs)) = .ro 18 (l.map Told.cs) := fun ρ => by simp only [rnB, hpl _]
  have hnx := cutY_next l
  have hyl := cutY_len l
  have hyr := cutY_rn l
  have hy0 : cutY l 0 = [] := rfl
  have ho2 : oid = some 0 ∨ (oid = none ∧ l.length = 0) := by
    rcases ho with h | ⟨h, rfl⟩
    · exact .inl h
    · exact .inr ⟨h, rfl⟩
  clear ho hpl
  refine Ev.out fun Q' hQ => ?_
  generalize (cut40 l).map Told.cs = RB at *
  generalize (cut40 l).length = RN at *
  generalize cutY l = ys at *
  generalize l.map Told.cs = xs at *
  generalize l.length = nx at *
  refine ev10 rfl fun o => ?_
  (cbv; repeat' (first | (refine ⟨by simp only [Ops.need_eq, needs]; first | rfl | decide, ?_⟩; try cbv) | (refine mt (fun h => ?_) (fun h => ?_) <;> first | (exfalso; simp [Ops.cmp_eq, Ops.not_eq, icmp] at h; done) | (exfalso; simp [Ops.cmp_eq, icmp] at h; omega) | (try cbv))))
  refine ⟨fun k env V => ∃ (i : Nat) (r : Nat → Value), i + k = min nx 40 ∧ env = mix [(0, .osl oid 18 0 nx cap), (3, outS i), (4, .int .i64 i)] r ∧ V = outV (.ro 18 xs) (ys i) i,
    ⟨min nx 40, o.reI (Re.ren [0, 1] _ _ rfl rfl ?_ ?_ fun r => ⟨0, r, by omega, rfl, rfl⟩)⟩, ?_⟩
  · refine ⟨?_, rfl, rfl, trivial⟩
    rcases ho2 with rfl | ⟨rfl, _⟩ <;> rfl
  · exact ⟨.inr (by rw [hXr]; rfl), .inr rfl, trivial⟩
  rintro k env V ⟨i, r, hik, rfl, rfl⟩
  have hend := hend i
  by_cases hlt : i < nx ∧ i < 40
  · obtain ⟨t, hg, hyn⟩ := hnx i hlt.1
    obtain rfl : oid = some 0 := by
      rcases ho2 with h | ⟨_, h⟩
      · exact h
      · omega
    have hyl := hyl i (by omega)
    have hyr := hyr (i + 1)
    have hct := cut_ev (W0 := W0) t
    have hcx : ∃ a1 a2 a3 a4 a5 a6 a7 a8 a9 a10 a11 a12 a13 a14 a15 a16 a17 a18, (cutT t).cs = [.int .i64 a1, .int .i64 a2, .int .i64 a3, .int .i64 a4, .int .i64 a5, .int .i64 a6, .int .u64 a7, .int .i64 a8, .int .i64 a9, .int .i64 a10, .int .i64 a11, .int .u64 a12, .int .i64 a13, .int .u64 a14, .int .i64 a15, .int .i64 a16, .int .i64 a17, .int .i64 a18] := ⟨_, _, _, _, _, _, _, _, _, _, _, _, _, _, _, _, _, _, rfl⟩
    obtain ⟨a1, a2, a3, a4, a5, a6, a7, a8, a9, a10, a11, a12, a13, a14, a15, a16, a17, a18, hcx⟩ := hcx
    rw [hcx] at hct hyn
    have htx : ∃ a1 a2 a3 a4 a5 a6 a7 a8 a9 a10 a11 a12 a13 a14 a15 a16 a17 a18, t.cs = [.int .i64 a1, .int .i64 a2, .int .i64 a3, .int .i64 a4, .int .i64 a5, .int .i64 a6, .int .u64 a7, .int .i64 a8, .int .i64 a9, .int .i64 a10, .int .i64 a11, .int .u64 a12, .int .i64 a13, .int .u64 a14, .int .i64 a15, .int .i64 a16, .int .i64 a17, .int .i64 a18] := ⟨_, _, _, _, _, _, _, _, _, _, _, _, _, _, _, _, _, _, rfl⟩
    obtain ⟨b1, b2, b3, b4, b5, b6, b7, b8, b9, b10, b11, b12, b13, b14, b15, b16, b17, b18, htx⟩ := htx
    rw [htx] at hct hg
    clear hend hcx htx
    rcases out_st (.ro 18 xs) (ys i) i with ⟨hi, e1, e2⟩ | ⟨hi, e1, e2⟩
    all_goals
      rw [e1, e2]
      clear e1 e2
      (cbv; repeat' (first | (refine ⟨by simp only [Ops.need_eq, needs]; first | rfl | decide, ?_⟩; try cbv) | (refine mt (fun h => ?_) (fun h => ?_) <;> first | (exfalso; simp [Ops.cmp_eq, Ops.not_eq, icmp] at h; done) | (exfalso; simp [Ops.cmp_eq, icmp] at h; omega) | (try cbv))))
      refine ⟨by simp only [Ops.inb_eq]; exact decide_eq_true ⟨by first | exact (Int.natCast_nonneg i) | (simp only [Int.ofNat_eq_natCast]; exact (Int.natCast_nonneg i)), by first | exact (show (i : Int) < nx by omega) | (simp only [Int.ofNat_eq_natCast]; exact (show (i : Int) < nx by omega))⟩, ?_⟩
      simp only [Int.toNat_natCast, Int.ofNat_eq_natCast, Ops.get_eq, Ops.nadd_eq, Ops.nat_eq, Nat.zero_add, (hg)]
      (cbv; repeat' (first | (refine ⟨by simp only [Ops.need_eq, needs]; first | rfl | decide, ?_⟩; try cbv) | (refine mt (fun _ => ?_) (fun _ => ?_) <;> (try cbv))))
      refine Ops.call0 _ (hct) rfl ?_; rintro v V' ⟨rfl, rfl⟩; simp only [lapp, List.map_nil, rn, rnL]
      (cbv; repeat' (first | (refine ⟨by simp only [Ops.need_eq, needs]; first | rfl | decide, ?_⟩; try cbv) | (refine mt (fun _ => ?_) (fun _ => ?_) <;> (try cbv))))
      refine ⟨by simp [o.ll_eq, o.sub_eq], by simp [o.all1_eq, o.sub_eq, allOne, VV.one], ?_⟩
    · refine ⟨⟨by simp [o.ll_eq], by simp [o.nmul_eq], by simp [o.nle_eq, o.nmul_eq, o.nadd_eq]⟩, .inr fun _ => ?_⟩
      (cbv; repeat' (first | (refine ⟨by simp only [Ops.need_eq, needs]; first | rfl | decide, ?_⟩; try cbv) | (refine mt (fun _ => ?_) (fun _ => ?_) <;> (try cbv))))
      subst hi
      refine ⟨k - 1, by omega, o.reI (Re.ren [0, 3, 4] _ _ rfl rfl ?_ ?_ fun r => ⟨1, r, by omega, rfl, rfl⟩)⟩
      · exact ⟨rfl, by simp only [Ops.nadd_eq]; rfl, congrArg (VV.int .i64) (by simp only [Ops.ar_eq]; exact add1 (i := 0) (by omega)), trivial⟩
      · refine ⟨.inr (by rw [hXr]; rfl), .inr rfl, .inr ?_, trivial⟩
        show some (VB.arr 18 _ _) = some (VB.arr 18 ((ys 1).map (rnL _)) _)
        rw [hyr, hyn, hy0]
        simp only [Ops.cat_eq, Ops.sub_eq, List.drop_zero, List.take_succ_cons, List.take_zero]
        rfl
    · refine ⟨⟨by simp [o.ll_eq, hyl], by simp [o.nle_eq, o.nmul_eq, o.nadd_eq]; omega⟩, ?_⟩
      (cbv; repeat' (first | (refine ⟨by simp only [Ops.need_eq, needs]; first | rfl | decide, ?_⟩; try cbv) | (refine mt (fun _ => ?_) (fun _ => ?_) <;> (try cbv))))
      refine ⟨k - 1, by omega, o.reI (Re.ren [0, 4, 5] _ _ rfl rfl ?_ ?_ fun r => ⟨i + 1, r, by omega, rfl, rfl⟩)⟩
      · exact ⟨rfl, by simp only [Ops.nadd_eq]; rfl, congrArg (VV.int .i64) (by simp only [Ops.ar_eq]; exact add1 (i := i) (by omega)), trivial⟩
      · refine ⟨.inr (by rw [hXr]; rfl), .inr rfl, .inr ?_, trivial⟩
        show some (VB.arr 18 _ _) = some (VB.arr 18 ((ys (i + 1)).map (rnL _)) _)
        rw [hyr, hyn]
        simp only [Ops.cat_eq, Ops.sub_eq, List.drop_zero, List.take_succ_cons, List.take_zero]
        rfl
  · have e1 := hend (by omega)
    have e2 : RN = i := by omega
    rw [e2, ← e1] at hQ
    rcases out_st (.ro 18 xs) (ys i) i with ⟨hi, q1, q2⟩ | ⟨hi, q1, q2⟩
    all_goals
      rw [q1, q2] at hQ ⊢
      clear e1 e2 q1 q2
      (cbv; repeat' (first | (refine ⟨by simp only [Ops.need_eq, needs]; first | rfl | decide, ?_⟩; try cbv) | (refine mt (fun h => ?_) (fun h => ?_) <;> first | (exfalso; simp [Ops.cmp_eq, Ops.not_eq, icmp] at h; done) | (exfalso; simp [Ops.cmp_eq, icmp] at h; omega) | (try cbv))))
    · exact hQ _ _ (ReV.ren [0, 1] (.sl 1 18 0 0 (.n 0)) [.ro 18 xs, .arr 18 [] (.n 0)] rfl rfl rfl ⟨.inr (by rw [hXr]; rfl), .inr rfl, trivial⟩ ⟨rfl, rfl⟩)
    all_goals first
      | exact hQ _ _ (ReV.ren [0, 1, 2] (.sl 2 18 0 i (.v 1)) [.ro 18 xs, .num, .arr 18 (ys i) (.v 1)] rfl rfl rfl ⟨.inr (by rw [hXr]; rfl), .inr rfl, .inr (by show some (VB.arr 18 (ys i) _) = some (VB.arr 18 ((ys i).map (rnL _)) _); rw [hyr]; rfl), trivial⟩ ⟨rfl, rfl⟩)
      | (exfalso; (try simp only [cfix] at *); (try simp only [Int.ofNat_eq_natCast] at *); simp only [Ops.cmp_eq, icmp, decide_eq_true_eq] at *; omega)
end Go.Proofs.Ythoodnlihbaimaa
