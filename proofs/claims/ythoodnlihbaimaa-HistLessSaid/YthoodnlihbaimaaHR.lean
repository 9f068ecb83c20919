/- hist: the order of calls: the law. -/
import Derived.Test.YthoodnlihbaimaaHO
import Derived.Test.YthoodnlihbaimaaHD
namespace Go.Proofs.Ythoodnlihbaimaa
set_option linter.unusedVariables false
set_option linter.unusedSimpArgs false
open Go Go.SL Go.FL
set_option maxRecDepth 100000
theorem pos_hi (out : List Told) (x : Told) : ∀ a j, a ≤ out.length → pos out x a ≤ j → j < a → x.stamp < (tat out j).stamp
  | 0, j, _, _, h => by omega
  | a + 1, j, ha, hj, h => by
    simp only [pos] at hj
    split at hj
    · rename_i hc
      rcases (by omega : j = a ∨ j < a) with rfl | hja
      · exact hc
      · exact pos_hi out x a j (by omega) hj hja
    · omega
theorem pos_lo (out : List Told) (x : Told) : ∀ a, 0 < pos out x a → (tat out (pos out x a - 1)).stamp ≤ x.stamp
  | 0, h => by simp [pos] at h
  | a + 1, h => by
    simp only [pos] at h ⊢
    split
    · rename_i hc
      rw [if_pos hc] at h
      exact pos_lo out x a h
    · rename_i hc
      rw [show a + 1 - 1 = a by omega]; omega
theorem insT_mg {out : List Told} (x : Told) (h : Srt key out) : insT out x = mg key out [x] := by
  unfold insT
  have hp := pos_le out x out.length
  have h1 := pos_hi out x out.length
  have h2 := pos_lo out x out.length
  generalize pos out x out.length = p at *
  have hm := mg_one2 key (X1 := out.take p) (X2 := out.drop p) (y := x) (fun z hz => ?_) (fun z hz => ?_)
  · rw [List.take_append_drop] at hm
    rw [hm]; simp
  · have hp0 : 0 < p := by rcases p with _ | p; simp at hz; omega
    have hg : out[p - 1]? = some (tat out (p - 1)) := by simp [tat, List.getElem?_eq_getElem (show p - 1 < out.length by omega), List.getD_eq_getElem?_getD]
    have a1 := srt_take key h hz hg
    have a2 := h2 hp0
    exact Int.le_trans a1 a2
  · have hpl : p < out.length := by
      rcases Nat.lt_or_ge p out.length with h | h
      · exact h
      · rw [List.drop_of_length_le h] at hz; cases hz
    have hg : out[p]? = some (tat out p) := by simp [tat, List.getElem?_eq_getElem hpl, List.getD_eq_getElem?_getD]
    have a1 := srt_drop key h hz hg
    have a2 := h1 p (Nat.le_refl _) (Nat.le_refl _) hpl
    exact Int.lt_of_lt_of_le a2 a1
theorem ords_st (l : List Told) : ∀ k, k ≤ l.length → ords l k = st key (l.take k)
  | 0, _ => rfl
  | k + 1, h => by
    have hg : l[k]? = some (tat l k) := by simp [tat, List.getElem?_eq_getElem (show k < l.length by omega), List.getD_eq_getElem?_getD]
    rw [ords, ords_st l k (by omega), insT_mg _ (st_srt key _), List.take_add_one, hg]
    show _ = st key (l.take k ++ [tat l k])
    rw [st_snoc]
theorem orderT_st (l : List Told) : orderT l = st key l := by rw [orderT, ords_st l _ (Nat.le_refl _), List.take_length]
theorem cut_low (l : List Told) : Low (cut40 l) := by
  intro t ht
  obtain ⟨u, _, rfl⟩ := List.mem_map.1 ht
  show 0 ≤ arith .and .i64 u.stamp 65535 ∧ arith .and .i64 u.stamp 65535 ≤ 65535
  obtain ⟨n, h1, h2⟩ := and_mask u.stamp 65535 (by omega)
  rw [show arith .and .i64 u.stamp 65535 = (n : Int) from h2]
  omega
theorem sstable_ev {W0 : World} (l : List Told) (cap tot : Nat) (hn : l.length ≤ 40) (lo : Low l) : Ev Try.prog W0 27 [.sl 0 18 0 l.length cap, .fn 28 [] []] [.arr 18 (l.map Told.cs) tot] (fun v V' => v = .tup [] ∧ V' = [.arr 18 ((st key l).map Told.cs) tot]) := by
  have hs := stable40_ev (W0 := W0) l cap tot hn lo
  have hp1 := Told.plain l
  have hp2 := Told.plain (st key l)
  refine Ev.out fun Q' hQ => ev27 rfl fun o => ?_
  generalize (st key l).map Told.cs = ys at *
  generalize l.map Told.cs = xs at *
  generalize l.length = n at *
  have hr : ∀ (ρ : Nat → Nat) c, rnB ρ (.arr 18 xs c) = .arr 18 xs (c.rn ρ) := by intro ρ c; simp only [rnB, hp1 _]
  have hr2 : ∀ (ρ : Nat → Nat) c, rnB ρ (.arr 18 ys c) = .arr 18 ys (c.rn ρ) := by intro ρ c; simp only [rnB, hp2 _]
  (cbv; repeat' (first | (refine ⟨by simp only [Ops.need_eq, needs]; first | rfl | decide, ?_⟩; try cbv) | (refine mt (fun h => ?_) (fun h => ?_) <;> first | (exfalso; simp [Ops.cmp_eq, Ops.not_eq, icmp] at h; done) | (exfalso; simp [Ops.cmp_eq, icmp] at h; omega) | (try cbv))))
  refine Ops.call _ [0] hs rfl rfl rfl ⟨.inr (by rw [hr]; rfl), trivial⟩ ?_
  rintro v V' ⟨rfl, rfl⟩
  simp only [layB, lset, lapp, List.map_nil, List.map_cons, hr2, rn, rnL, Cap.rn]
  (cbv; repeat' (first | (refine ⟨by simp only [Ops.need_eq, needs]; first | rfl | decide, ?_⟩; try cbv) | (refine mt (fun h => ?_) (fun h => ?_) <;> first | (exfalso; simp [Ops.cmp_eq, Ops.not_eq, icmp] at h; done) | (exfalso; simp [Ops.cmp_eq, icmp] at h; omega) | (try cbv))))
  exact hQ _ _ (ReV.ren [0] (.tup []) [.arr 18 ys tot] rfl rfl rfl ⟨.inr (by rw [hr2]; rfl), trivial⟩ ⟨rfl, rfl⟩)
theorem OrderA_ev {W0 : World} : Ev Try.prog W0 11 [.sl 0 18 0 0 (.n 0)] [.arr 18 [] (.n 0)] (fun v V' => v = .sl 1 18 0 0 (.n 0) ∧ V' = [.arr 18 [] (.n 0), .arr 18 [] (.n 0)]) := by
  have hs := sstable_ev (W0 := W0) [] 0 0 (by decide) (fun _ h => by cases h)
  refine Ev.out fun Q' hQ => ev11 rfl fun o => ?_
  rw [show ([] : List Told).length = 0 from rfl, show ([] : List Told).map Told.cs = [] from rfl, show (st key ([] : List Told)).map Told.cs = [] from rfl] at hs
  (cbv; repeat' (first | (refine ⟨by simp only [Ops.need_eq, needs]; first | rfl | decide, ?_⟩; try cbv) | (refine mt (fun h => ?_) (fun h => ?_) <;> first | (exfalso; simp [Ops.cmp_eq, Ops.not_eq, icmp] at h; done) | (exfalso; simp [Ops.cmp_eq, icmp] at h; omega) | (try cbv))))
  refine ⟨by simp [o.inb_eq], ⟨by simp [o.ll_eq, o.sub_eq], by simp [o.all1_eq, o.sub_eq], by simp [o.nle_eq, o.nadd_eq, o.ll_eq, o.rep_eq, o.nat_eq]⟩, ?_⟩
  simp only [o.nat_eq, o.rep_eq, o.ovl_eq, o.sub_eq, o.nmn_eq, o.nmul_eq]
  (cbv; repeat' (first | (refine ⟨by simp only [Ops.need_eq, needs]; first | rfl | decide, ?_⟩; try cbv) | (refine mt (fun h => ?_) (fun h => ?_) <;> first | (exfalso; simp [Ops.cmp_eq, Ops.not_eq, icmp] at h; done) | (exfalso; simp [Ops.cmp_eq, icmp] at h; omega) | (try cbv))))
  refine Ops.call _ [1] hs rfl rfl rfl ⟨.inr rfl, trivial⟩ ?_
  rintro v V' ⟨rfl, rfl⟩
  simp only [layB, lset, lapp, List.map_nil, List.map_cons, rn, rnL]
  (cbv; repeat' (first | (refine ⟨by simp only [Ops.need_eq, needs]; first | rfl | decide, ?_⟩; try cbv) | (refine mt (fun h => ?_) (fun h => ?_) <;> first | (exfalso; simp [Ops.cmp_eq, Ops.not_eq, icmp] at h; done) | (exfalso; simp [Ops.cmp_eq, icmp] at h; omega) | (try cbv))))
  exact hQ _ _ (ReV.ren [0, 1] (.sl 1 18 0 0 (.n 0)) [.arr 18 [] (.n 0), .arr 18 [] (.n 0)] rfl rfl rfl ⟨.inr rfl, .inr rfl, trivial⟩ ⟨rfl, rfl⟩)
theorem OrderB_ev {W0 : World} (l : List Told) (hn : l.length ≤ 40) (lo : Low l) : Ev Try.prog W0 11 [.sl 1 18 0 l.length (.v 0)] [.num, .arr 18 (l.map Told.cs) (.v 0)] (fun v V' => v = .sl 2 18 0 l.length (.n l.length) ∧ V' = [.num, .arr 18 (l.map Told.cs) (.v 0), .arr 18 ((st key l).map Told.cs) (.n (l.length * 18))]) := by
  have hs := sstable_ev (W0 := W0) l l.length (l.length * 18) hn lo
  have hp1 := Told.plain l
  have hp2 := Told.plain (st key l)
  have hll : (l.map Told.cs).length = l.length := by simp
  have ha1 := all1_told l
  refine Ev.out fun Q' hQ => ev11 rfl fun o => ?_
  generalize (st key l).map Told.cs = ys at *
  generalize l.map Told.cs = xs at *
  generalize l.length = n at *
  have hr : ∀ (ρ : Nat → Nat) c, rnB ρ (.arr 18 xs c) = .arr 18 xs (c.rn ρ) := by intro ρ c; simp only [rnB, hp1 _]
  have hr2 : ∀ (ρ : Nat → Nat) c, rnB ρ (.arr 18 ys c) = .arr 18 ys (c.rn ρ) := by intro ρ c; simp only [rnB, hp2 _]
  have hov : ∀ Z : List (List VV), Z.length = n → ovlF Z 0 xs n = xs := by
    intro Z hZ
    simp only [ovlF, List.take_zero, List.nil_append, Nat.zero_add]
    rw [List.drop_of_length_le (by omega), List.take_of_length_le (by omega), List.append_nil]
  have hdt : (xs.drop 0).take n = xs := by rw [List.drop_zero, List.take_of_length_le (by omega)]
  (cbv; repeat' (first | (refine ⟨by simp only [Ops.need_eq, needs]; first | rfl | decide, ?_⟩; try cbv) | (refine mt (fun h => ?_) (fun h => ?_) <;> first | (exfalso; simp [Ops.cmp_eq, Ops.not_eq, icmp] at h; done) | (exfalso; simp [Ops.cmp_eq, icmp] at h; omega) | (try cbv))))
  refine ⟨by simp [o.inb_eq]; omega, ⟨by simp only [o.ll_eq, o.sub_eq, hdt, hll], by simp only [o.all1_eq, o.sub_eq, hdt, List.all_eq_true]; exact ha1, by simp [o.nle_eq, o.nadd_eq, o.ll_eq, o.rep_eq, o.nat_eq]⟩, ?_⟩
  simp only [o.nat_eq, o.rep_eq, o.ovl_eq, o.sub_eq, o.nmn_eq, o.nmul_eq, Int.ofNat_eq_natCast, Int.toNat_natCast, hdt, Nat.min_self, hov _ List.length_replicate]
  generalize n * 18 = tt at *
  (cbv; repeat' (first | (refine ⟨by simp only [Ops.need_eq, needs]; first | rfl | decide, ?_⟩; try cbv) | (refine mt (fun h => ?_) (fun h => ?_) <;> first | (exfalso; simp [Ops.cmp_eq, Ops.not_eq, icmp] at h; done) | (exfalso; simp [Ops.cmp_eq, icmp] at h; omega) | (try cbv))))
  refine Ops.call _ [2] hs rfl rfl rfl ⟨.inr (by rw [hr]; rfl), trivial⟩ ?_
  rintro v V' ⟨rfl, rfl⟩
  simp only [layB, lset, lapp, List.map_nil, List.map_cons, hr2, rn, rnL, Cap.rn]
  (cbv; repeat' (first | (refine ⟨by simp only [Ops.need_eq, needs]; first | rfl | decide, ?_⟩; try cbv) | (refine mt (fun h => ?_) (fun h => ?_) <;> first | (exfalso; simp [Ops.cmp_eq, Ops.not_eq, icmp] at h; done) | (exfalso; simp [Ops.cmp_eq, icmp] at h; omega) | (try cbv))))
  exact hQ _ _ (ReV.ren [0, 1, 2] (.sl 2 18 0 n (.n n)) [.num, .arr 18 xs (.v 0), .arr 18 ys (.n tt)] rfl rfl rfl ⟨.inr rfl, .inr (by rw [hr]; rfl), .inr (by rw [hr2]; rfl), trivial⟩ ⟨rfl, rfl⟩)
end Go.Proofs.Ythoodnlihbaimaa
