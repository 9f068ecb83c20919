/- shelf: a fresh shelf has so many lists. -/
import Derived.Test.YtmkoagmnkogeoaaBL
import Derived.Test.YtmkoagmnkogeoaaSLt
namespace Go.Proofs.Ytmkoagmnkogeoaa
set_option linter.unusedVariables false
set_option linter.unusedSimpArgs false
open Go Go.SL Go.FL
set_option maxRecDepth 100000
theorem heads_get {k i : Nat} (h : i < k) : (((List.range k).map (65536 + ·)).map fun h : Nat => [VV.int .u64 (h : Int)])[i]? = some [VV.int .u64 ((65536 + i : Nat) : Int)] := by
  rw [List.getElem?_map, List.getElem?_map, List.getElem?_range h]; rfl
theorem ShelfFresh_ev {W0 : World} (slots lists : Int) : Ev Try.prog W0 4 [.int .i64 slots, .int .i64 lists] [] (fun v V' => v = .bool true ∧ V' = []) := by
  refine Ev.out fun Q' hQ => ?_
  refine ev4 rfl fun o => ?_
  (cbv; repeat' (first | (refine ⟨by simp only [Ops.need_eq, needs]; first | rfl | decide, ?_⟩; try cbv) | (refine mt (fun h => ?_) (fun h => ?_) <;> first | (exfalso; simp [Ops.cmp_eq, Ops.not_eq, icmp] at h; done) | (exfalso; simp [Ops.cmp_eq, icmp] at h; omega) | (try cbv))))
  simp only [Ops.ar_eq, Int.ofNat_eq_natCast, andIo (m := 7) (by decide), andIo (m := 15) (by decide)]
  have hN : u64i slots &&& 7 ≤ 7 := Nat.and_le_right
  have hK : u64i lists &&& 15 ≤ 15 := Nat.and_le_right
  generalize u64i slots &&& 7 = s at *
  generalize u64i lists &&& 15 = k at *
  have hadd : arith .add .i64 1 (s : Int) = ((1 + s : Nat) : Int) := by
    show IntKind.i64.wrap (1 + (s : Int)) = _
    rw [wrap64 (by omega) (by omega)]; omega
  rw [hadd]
  obtain ⟨n, hn⟩ : ∃ n, n = 1 + s := ⟨_, rfl⟩
  rw [← hn]
  have n0 : 1 ≤ n := by omega
  have n1 : n ≤ 8 := by omega
  clear hn hadd hN
  obtain ⟨x, hs, m, hf, hx⟩ := fresh_of n0 n1 (k := k) (by omega) (c := 4) rfl
  have hE : (arena 1 n 4 40).v 0 = .agg [.int .i64 1, .int .i64 n, .int .i64 4, .int .i64 40, .int .i64 100, .int .i64 600, .int .i64 3, .ptr 0 0, .int .i64 0] := rfl
  refine Ops.call _ [] (Arena_ev 1 n 4 40 (arenaOk (by decide) (by decide) (by omega) (by omega) (by decide) (by decide) (by decide) (by decide))) rfl rfl rfl trivial ?_
  rintro v V' ⟨rfl, rfl⟩
  rw [hE]
  simp only [layB, lapp, List.map_cons, List.map_nil, rnB_bx, rn, rnL]
  have hF := shelfFresh_ev (W0 := W0) (arena 1 n 4 40) k (freshM (arena 1 n 4 40).c) hf
  rw [hE] at hF
  generalize hm0 : freshM (arena 1 n 4 40).c = m0 at *
  generalize hM : bx W0 (memU m0) = M at *
  (cbv; repeat' (first | (refine ⟨by simp only [Ops.need_eq, needs]; first | rfl | decide, ?_⟩; try cbv) | (refine mt (fun h => ?_) (fun h => ?_) <;> first | (exfalso; simp [Ops.cmp_eq, Ops.not_eq, icmp] at h; done) | (exfalso; simp [Ops.cmp_eq, icmp] at h; omega) | (try cbv))))
  refine Ops.call0 _ (awake17_ev) rfl ?_; rintro v V' ⟨rfl, rfl⟩; simp only [lapp, List.map_nil, rn, rnL]
  (cbv; repeat' (first | (refine ⟨by simp only [Ops.need_eq, needs]; first | rfl | decide, ?_⟩; try cbv) | (refine mt (fun h => ?_) (fun h => ?_) <;> first | (exfalso; simp [Ops.cmp_eq, Ops.not_eq, icmp] at h; done) | (exfalso; simp [Ops.cmp_eq, icmp] at h; omega) | (try cbv))))
  refine Ops.call _ [0] hF rfl rfl rfl ⟨.inr (by rw [← hM]; rfl), trivial⟩ ?_
  intro v V' hr
  by_cases h8 : 8 < k
  · rw [if_pos h8] at hx
    subst hx
    rw [if_neg (by decide)] at hr
    obtain ⟨rfl, rfl⟩ := hr
    simp only [layB, lset, lapp, List.map_nil, List.map_cons, rnB_bx, rn, rnL]
    clear hM hF
    generalize hM : bx W0 (memU m) = M
    (cbv; repeat' (first | (refine ⟨by simp only [Ops.need_eq, needs]; first | rfl | decide, ?_⟩; try cbv) | (refine mt (fun h => ?_) (fun h => ?_) <;> first | (exfalso; simp [Ops.cmp_eq, Ops.not_eq, icmp] at h; done) | (exfalso; simp [Ops.cmp_eq, icmp] at h; omega) | (try cbv))))
    exact hQ _ _ (ReV.none rfl ⟨rfl, rfl⟩)
  rw [if_neg h8] at hx
  by_cases h9 : n < k
  · rw [if_pos h9] at hx
    subst hx
    rw [if_neg (by decide)] at hr
    obtain ⟨rfl, rfl⟩ := hr
    simp only [layB, lset, lapp, List.map_nil, List.map_cons, rnB_bx, rn, rnL]
    clear hM hF
    generalize hM : bx W0 (memU m) = M
    (cbv; repeat' (first | (refine ⟨by simp only [Ops.need_eq, needs]; first | rfl | decide, ?_⟩; try cbv) | (refine mt (fun h => ?_) (fun h => ?_) <;> first | (exfalso; simp [Ops.cmp_eq, Ops.not_eq, icmp] at h; done) | (exfalso; simp [Ops.cmp_eq, icmp] at h; omega) | (try cbv))))
    all_goals first | exact hQ _ _ (ReV.none rfl ⟨rfl, rfl⟩) | (exfalso; simp [Ops.cmp_eq, icmp] at *; omega)
  rw [if_neg h9] at hx
  obtain ⟨rfl, rfl⟩ := hx
  rw [if_pos rfl] at hr
  obtain ⟨rfl, rfl⟩ := hr
  simp only [layB, lset, lapp, List.map_nil, List.map_cons, rnB_bx, rn, rnL]
  clear hM hF
  generalize hM : bx W0 (memU m) = M
  by_cases hk0 : k = 0
  · subst hk0
    have hH := shelfHeads_nil (W0 := W0)
    have hL := shelfLists_ev (W0 := W0) []
    rw [show (List.range 0).map (65536 + ·) = [] from rfl]
    generalize hS : bx W0 (shelfU []) = S at *
    (cbv; repeat' (first | (refine ⟨by simp only [Ops.need_eq, needs]; first | rfl | decide, ?_⟩; try cbv) | (refine mt (fun h => ?_) (fun h => ?_) <;> first | (exfalso; simp [Ops.cmp_eq, Ops.not_eq, icmp] at h; done) | (exfalso; simp [Ops.cmp_eq, icmp] at h; omega) | (try cbv))))
    refine Ops.call _ [2] hH rfl rfl rfl ⟨.inr (by rw [← hS]; rfl), trivial⟩ ?_
    rintro v V' ⟨rfl, rfl⟩
    simp only [layB, lset, lapp, List.map_nil, List.map_cons, ← hS, rnB_bx, rn, rnL]
    rw [hS]
    (cbv; repeat' (first | (refine ⟨by simp only [Ops.need_eq, needs]; first | rfl | decide, ?_⟩; try cbv) | (refine mt (fun h => ?_) (fun h => ?_) <;> first | (exfalso; simp [Ops.cmp_eq, Ops.not_eq, icmp] at h; done) | (exfalso; simp [Ops.cmp_eq, icmp] at h; omega) | (try cbv))))
    refine Ops.call _ [2] hL rfl rfl rfl ⟨.inr (by rw [← hS]; rfl), trivial⟩ ?_
    rintro v V' ⟨rfl, rfl⟩
    simp only [layB, lset, lapp, List.map_nil, List.map_cons, ← hS, rnB_bx, rn, rnL]
    rw [hS]
    (cbv; repeat' (first | (refine ⟨by simp only [Ops.need_eq, needs]; first | rfl | decide, ?_⟩; try cbv) | (refine mt (fun h => ?_) (fun h => ?_) <;> first | (exfalso; simp [Ops.cmp_eq, Ops.not_eq, icmp] at h; done) | (exfalso; simp [Ops.cmp_eq, icmp] at h; omega) | (try cbv))))
    refine ⟨fun j env V => ∃ r : Nat → Value, env = mix [(6, .int .i64 0), (12, .int .i64 0)] r ∧ V = [], ⟨0, o.reI (Re.ren [] _ _ rfl rfl ?_ ?_ fun r => ⟨r, rfl, rfl⟩)⟩, ?_⟩
    · exact ⟨rfl, rfl, trivial⟩
    · exact trivial
    rintro j env V ⟨r, rfl, rfl⟩
    (cbv; repeat' (first | (refine ⟨by simp only [Ops.need_eq, needs]; first | rfl | decide, ?_⟩; try cbv) | (refine mt (fun h => ?_) (fun h => ?_) <;> first | (exfalso; simp [Ops.cmp_eq, Ops.not_eq, icmp] at h; done) | (exfalso; simp [Ops.cmp_eq, icmp] at h; omega) | (try cbv))))
    exact hQ _ _ (ReV.none rfl ⟨rfl, rfl⟩)
  · generalize hl : (List.range k).map (65536 + ·) = l at *
    have hlen : l.length = k := by rw [← hl, List.length_map, List.length_range]
    have hne : l ≠ [] := by intro e; rw [e] at hlen; exact hk0 hlen.symm
    have hH := shelfHeads_ev (W0 := W0) l hne (by omega)
    have hL := shelfLists_ev (W0 := W0) l
    rw [hlen] at hH hL
    have hg : ∀ i, i < k → (l.map fun h : Nat => [VV.int .u64 (h : Int)])[i]? = some [VV.int .u64 ((65536 + i : Nat) : Int)] := by
      intro i hi; rw [← hl]; exact heads_get hi
    have hxr : ∀ (ρ : Nat → Nat) c, rnB ρ (.arr 1 (l.map fun h : Nat => [VV.int .u64 (h : Int)]) c) = .arr 1 (l.map fun h : Nat => [VV.int .u64 (h : Int)]) (c.rn ρ) := by
      intro ρ c; simp [rnB, rnL, rn, Function.comp_def]
    generalize (l.map fun h : Nat => [VV.int .u64 (h : Int)]) = xs at *
    generalize hS : bx W0 (shelfU l) = S at *
    (cbv; repeat' (first | (refine ⟨by simp only [Ops.need_eq, needs]; first | rfl | decide, ?_⟩; try cbv) | (refine mt (fun h => ?_) (fun h => ?_) <;> first | (exfalso; simp [Ops.cmp_eq, Ops.not_eq, icmp] at h; done) | (exfalso; simp [Ops.cmp_eq, icmp] at h; omega) | (try cbv))))
    refine Ops.call _ [2] hH rfl rfl rfl ⟨.inr (by rw [← hS]; rfl), trivial⟩ ?_
    rintro v V' ⟨rfl, rfl⟩
    simp only [layB, lset, lapp, List.map_nil, List.map_cons, ← hS, rnB_bx, hxr]
    rw [hS]
    (cbv; repeat' (first | (refine ⟨by simp only [Ops.need_eq, needs]; first | rfl | decide, ?_⟩; try cbv) | (refine mt (fun h => ?_) (fun h => ?_) <;> first | (exfalso; simp [Ops.cmp_eq, Ops.not_eq, icmp] at h; done) | (exfalso; simp [Ops.cmp_eq, icmp] at h; omega) | (try cbv))))
    refine Ops.call _ [2] hL rfl rfl rfl ⟨.inr (by rw [← hS]; rfl), trivial⟩ ?_
    rintro v V' ⟨rfl, rfl⟩
    simp only [layB, lset, lapp, List.map_nil, List.map_cons, ← hS, rnB_bx, rn, rnL]
    rw [hS]
    (cbv; repeat' (first | (refine ⟨by simp only [Ops.need_eq, needs]; first | rfl | decide, ?_⟩; try cbv) | (refine mt (fun h => ?_) (fun h => ?_) <;> first | (exfalso; simp [Ops.cmp_eq, Ops.not_eq, icmp] at h; done) | (exfalso; simp [Ops.cmp_eq, icmp] at h; omega) | (try cbv))))
    refine ⟨fun j env V => ∃ (i : Nat) (r : Nat → Value), i + j = k ∧ env = mix [(6, .int .i64 k), (11, .sl 0 1 0 k (.v 1)), (12, .int .i64 i)] r ∧ V = [.arr 1 xs (.v 1), .num],
      ⟨k, o.reI (Re.ren [3, 4] _ _ rfl rfl ?_ ?_ fun r => ⟨0, r, by omega, rfl, rfl⟩)⟩, ?_⟩
    · exact ⟨rfl, rfl, rfl, trivial⟩
    · exact ⟨.inr (by rw [hxr]; rfl), .inr rfl, trivial⟩
    rintro j env V ⟨i, r, hij, rfl, rfl⟩
    (cbv; repeat' (first | (refine ⟨by simp only [Ops.need_eq, needs]; first | rfl | decide, ?_⟩; try cbv) | (refine mt (fun _ => ?_) (fun _ => ?_) <;> (try cbv))))
    · rename_i h1
      (try simp only [cfix] at *); (try simp only [Int.ofNat_eq_natCast] at *)
      have h2 : (i : Int) < k := by simpa [Ops.cmp_eq, icmp] using h1
      have h2' : i < k := by omega
      obtain ⟨w, hw, hgi⟩ : ∃ w : Nat, w = 65536 + i ∧ xs[i]? = some [.int .u64 w] := ⟨_, rfl, hg i h2'⟩
      obtain ⟨j', rfl⟩ : ∃ j', j = j' + 1 := ⟨j - 1, by omega⟩
      refine ⟨by simp only [Ops.inb_eq]; exact decide_eq_true ⟨by first | exact (Int.natCast_nonneg i) | (simp only [Int.ofNat_eq_natCast]; exact (Int.natCast_nonneg i)), by first | exact (h2) | (simp only [Int.ofNat_eq_natCast]; exact (h2))⟩, ?_⟩
      simp only [Int.toNat_natCast, Int.ofNat_eq_natCast, Ops.get_eq, Ops.nadd_eq, Ops.nat_eq, Nat.zero_add, hgi]
      (cbv; repeat' (first | (refine ⟨by simp only [Ops.need_eq, needs]; first | rfl | decide, ?_⟩; try cbv) | (refine mt (fun _ => ?_) (fun _ => ?_) <;> (try cbv))))
      · exfalso
        rename_i h3
        have e1 : arith .add .i64 65536 (i : Int) = 65536 + i := by
          show IntKind.i64.wrap (65536 + (i : Int)) = _
          exact wrap64 (by omega) (by omega)
        have e2 : IntKind.u64.wrap (65536 + (i : Int)) = 65536 + i := by
          simp [IntKind.wrap, IntKind.bits, IntKind.signed]; omega
        simp only [Ops.cmp_eq, Ops.wr_eq, Ops.ar_eq, icmp] at h3
        (try simp only [cfix] at *); (try simp only [Int.ofNat_eq_natCast] at *)
        rw [e1, e2, hw] at h3
        simp at h3
      · refine ⟨j', by omega, o.reI (Re.ren [0, 1] _ _ rfl rfl ?_ ?_ fun r => ⟨i + 1, r, by omega, rfl, rfl⟩)⟩
        · refine ⟨rfl, rfl, ?_, trivial⟩
          exact congrArg (VV.int .i64) (by simp only [Ops.ar_eq]; exact add1 (i := i) (by omega))
        · exact ⟨.inr (by rw [hxr]; rfl), .inr rfl, trivial⟩
    · exact hQ _ _ (ReV.none rfl ⟨rfl, rfl⟩)
end Go.Proofs.Ytmkoagmnkogeoaa
