/- hist: the law's own order. -/
import Derived.Test.YthoodnlihbaimaaHQ
import Derived.Test.YthoodnlihbaimaaHC
import Derived.Test.YthoodnlihbaimaaIRo
namespace Go.Proofs.Ythoodnlihbaimaa
set_option linter.unusedVariables false
set_option linter.unusedSimpArgs false
open Go Go.SL Go.FL
set_option maxRecDepth 100000
theorem all1_told (L : List Told) : ∀ y ∈ L.map Told.cs, allOne y = true := by
  intro y hy
  obtain ⟨x, _, rfl⟩ := List.mem_map.1 hy
  rfl
def pos (out : List Told) (x : Told) : Nat → Nat
  | 0 => 0
  | a + 1 => if (tat out a).stamp > x.stamp then pos out x a else a + 1
theorem pos_le (out : List Told) (x : Told) : ∀ a, pos out x a ≤ a
  | 0 => Nat.le_refl _
  | a + 1 => by
    simp only [pos]
    split
    · exact Nat.le_succ_of_le (pos_le out x a)
    · exact Nat.le_refl _
def insT (out : List Told) (x : Told) : List Told := out.take (pos out x out.length) ++ [x] ++ out.drop (pos out x out.length)
theorem insT_len (out : List Told) (x : Told) : (insT out x).length = out.length + 1 := by
  have := pos_le out x out.length
  simp only [insT, List.length_append, List.length_take, List.length_drop, List.length_cons, List.length_nil]; omega
def ords (l : List Told) : Nat → List Told
  | 0 => []
  | k + 1 => insT (ords l k) (tat l k)
theorem ords_len (l : List Told) : ∀ k, (ords l k).length = k
  | 0 => rfl
  | k + 1 => by rw [ords, insT_len, ords_len l k]
def orderT (l : List Told) : List Told := ords l l.length
set_option maxHeartbeats 4000000 in
theorem order_ev {W0 : World} (l : List Told) (hlen : l.length ≤ 1000000) : Ev Try.prog W0 12 [.sl 1 18 0 l.length (.v 0)] [.num, .arr 18 (l.map Told.cs) (.v 0)] (fun v V' =>
    ∃ c tot : Nat, tot = c * 18 ∧ l.length ≤ c ∧ v = .sl 2 18 0 l.length c ∧ V' = [.num, .arr 18 (l.map Told.cs) (.v 0), .arr 18 ((orderT l).map Told.cs) tot]) := by
  refine Ev.out fun Q' hQ => ev12 rfl fun o => ?_
  have hg := tat_get l
  have hpl := Told.plain l
  generalize hR : orderT l = R at hQ
  generalize hxs : l.map Told.cs = xs at *
  generalize hn : l.length = n at *
  generalize hRs : R.map Told.cs = Rs at *
  (cbv; repeat' (refine mt (fun _ => ?_) (fun _ => ?_) <;> cbv))
  refine ⟨fun m env V => ∃ (i c tot : Nat) (out : List Told) (r : Nat → Value), i ≤ n ∧ i ≤ c ∧ tot = c * 18 ∧ out = ords l i ∧ m = n - i ∧
    env = mix [(0, .sl 1 18 0 n (.v 0)), (3, .sl 2 18 0 i c), (4, .int .i64 i)] r ∧
    V = [.num, .arr 18 xs (.v 0), .arr 18 (out.map Told.cs) tot], ⟨n, o.reI (Re.ren [0, 1, 2] _ _ rfl rfl ?_ ?_ fun r => ⟨0, 0, 0, [], r, Nat.zero_le _, Nat.zero_le _, rfl, rfl, rfl, rfl, rfl⟩)⟩, ?_⟩
  · clear hQ hg; simp_all [Cap.rn, fitB, mixOk, rnB, lget, rnL, rn, rho, llen, Plain, assoc, mix, envOf]
  · clear hQ hg; simp_all [Cap.rn, fitB, mixOk, rnB, lget, rnL, rn, rho, llen, Plain, assoc, mix, envOf]
  rintro m env V ⟨i, c, tot, out, r, hi, hic, htot, hout, rfl, rfl, rfl⟩
  have ho := tat_get out
  have hol : out.length = i := by rw [hout, ords_len]
  have hpo := Told.plain out
  generalize hys : out.map Told.cs = ys at *
  have hyl : ys.length = i := by rw [← hys, List.length_map, hol]
  (cbv; repeat' (refine mt (fun _ => ?_) (fun _ => ?_) <;> cbv))
  · rename_i h
    have h1 : i < n := by
      have : (i : Int) < n := by simpa [o.cmp_eq, icmp] using h
      omega
    clear h
    have hgi := hg i h1
    have hnext : ords l (i + 1) = insT out (tat l i) := by rw [ords, ← hout]
    generalize tat l i = x at *
    obtain ⟨x1, x2, x3, x4, x5, x6, x7, x8, x9, x10, x11, x12, x13, x14, x15, x16, x17, x18⟩ := x
    generalize hx : (⟨x1, x2, x3, x4, x5, x6, x7, x8, x9, x10, x11, x12, x13, x14, x15, x16, x17, x18⟩ : Told) = x at *
    have hxc : x.cs = [.int .i64 x1, .int .i64 x2, .int .i64 x3, .int .i64 x4, .int .i64 x5, .int .i64 x6, .int .u64 x7, .int .i64 x8, .int .i64 x9, .int .i64 x10, .int .i64 x11, .int .u64 x12, .int .i64 x13, .int .u64 x14, .int .i64 x15, .int .i64 x16, .int .i64 x17, .int .i64 x18] := by rw [← hx]; rfl
    have hxst : x.stamp = x16 := by rw [← hx]
    rw [hxc] at hgi
    generalize hp : pos out x out.length = p
    refine ⟨fun m env V => ∃ (a : Nat) (r : Nat → Value), a ≤ i ∧ pos out x a = p ∧ m = a ∧
      env = mix [(0, .sl 1 18 0 n (.v 0)), (3, .sl 2 18 0 i c), (4, .int .i64 i), (5, .int .i64 a)] r ∧
      V = [.num, .arr 18 xs (.v 0), .arr 18 ys tot], ⟨i, o.reI (Re.ren [0, 1, 2] _ _ rfl rfl ?_ ?_ fun r => ⟨i, r, Nat.le_refl _, by rw [← hp, hol], rfl, rfl, rfl⟩)⟩, ?_⟩
    · clear hQ hg ho hgi hnext hxc; simp_all [Cap.rn, fitB, mixOk, rnB, lget, rnL, rn, rho, llen, Plain, assoc, mix, envOf]
    · clear hQ hg ho hgi hnext hxc; simp_all [Cap.rn, fitB, mixOk, rnB, lget, rnL, rn, rho, llen, Plain, assoc, mix, envOf]
    rintro m env V ⟨a, r2, hai, hpa, hma, rfl, rfl⟩
    obtain rfl : a = m := hma.symm
    have fin : pos out x a = a → a = p := fun h => by rw [← hpa, h]
    by_cases ha0 : 0 < a
    · obtain ⟨a', ha'⟩ : ∃ a', a = a' + 1 := ⟨a - 1, by omega⟩
      have hs1 : arith .sub .i64 (a : Int) 1 = (a' : Int) := by rw [ha']; exact sub1 (by omega)
      have hgo := ho a' (by omega)
      have hpx : pos out x a = if (tat out a').stamp > x16 then pos out x a' else a := by rw [ha', pos, hxst]
      generalize tat out a' = u at *
      obtain ⟨u1, u2, u3, u4, u5, u6, u7, u8, u9, u10, u11, u12, u13, u14, u15, u16, u17, u18⟩ := u
      simp only at hpx
      (cbv; repeat' (refine mt (fun _ => ?_) (fun _ => ?_) <;> first | (exfalso; rename_i hc; simp [o.cmp_eq, icmp, o.not_eq, o.beq_eq] at hc; first | done | omega) | cbv))
      simp only [o.ar_eq, Int.ofNat_eq_natCast, hs1]
      refine ⟨by simp only [Ops.inb_eq]; exact decide_eq_true ⟨by first | exact (Int.natCast_nonneg a') | (simp only [Int.ofNat_eq_natCast]; exact (Int.natCast_nonneg a')), by first | exact (show (a' : Int) < i by omega) | (simp only [Int.ofNat_eq_natCast]; exact (show (a' : Int) < i by omega))⟩, ?_⟩
      simp only [Int.toNat_natCast, Int.ofNat_eq_natCast, Ops.get_eq, Ops.nadd_eq, Ops.nat_eq, Nat.zero_add, hgo]
      (cbv; repeat' (refine mt (fun _ => ?_) (fun _ => ?_) <;> cbv))
      refine ⟨by simp only [Ops.inb_eq]; exact decide_eq_true ⟨by first | exact (Int.natCast_nonneg i) | (simp only [Int.ofNat_eq_natCast]; exact (Int.natCast_nonneg i)), by first | exact (show (i : Int) < n by omega) | (simp only [Int.ofNat_eq_natCast]; exact (show (i : Int) < n by omega))⟩, ?_⟩
      simp only [Int.toNat_natCast, Int.ofNat_eq_natCast, Ops.get_eq, Ops.nadd_eq, Ops.nat_eq, Nat.zero_add, hgi]
      (cbv; repeat' (refine mt (fun _ => ?_) (fun _ => ?_) <;> cbv))
      · rename_i hc
        have hc1 : u16 > x16 := by simpa [o.cmp_eq, icmp] using hc
        have hpa2 : pos out x a' = p := by rw [← hpa, hpx, if_pos hc1]
        clear hQ hg ho hgi hnext hxc hgo hpx fin
        refine ⟨a', by omega, o.reI (Re.ren [0, 1, 2] _ _ rfl rfl ?_ ?_ fun r => ⟨a', r, by omega, hpa2, rfl, rfl, rfl⟩)⟩
        · clear hpa2; simp_all [Cap.rn, fitB, mixOk, rnB, lget, rnL, rn, rho, llen, Plain, assoc, mix, envOf, o.ar_eq]
        · clear hpa2; simp_all [Cap.rn, fitB, mixOk, rnB, lget, rnL, rn, rho, llen, Plain, assoc, mix, envOf]
      · rename_i hc
        have hc1 : ¬ u16 > x16 := by simpa [o.cmp_eq, icmp] using hc
        have hap : a = p := by rw [← hpa, hpx, if_neg hc1]
        obtain rfl := hap
        have htk : ((ys.drop 0).take a) = (out.take a).map Told.cs := by rw [List.drop_zero, ← hys, List.map_take]
        have hdk : ∀ s', s' = (if c = a then 0 else a) → ((ys.drop s').take (i - a)) = (out.drop a).map Told.cs := by
          intro s' hs'
          rw [hs']
          by_cases hca : c = a
          · have e0 : i - a = 0 := by omega
            rw [e0, List.take_zero, List.drop_of_length_le (by omega)]; rfl
          · rw [if_neg hca, List.take_of_length_le (by rw [List.length_drop, hyl]; omega), ← hys, List.map_drop]
        have hta : (out.take a).length = a := by rw [List.length_take]; omega
        have hda : (out.drop a).length = i - a := by rw [List.length_drop]; omega
        have hins : (out.take a).map Told.cs ++ [x.cs] ++ (out.drop a).map Told.cs = (ords l (i + 1)).map Told.cs := by rw [hnext, insT, hp]; simp
        have hpn := Told.plain (ords l (i + 1))
        refine ⟨by simp [o.slb_eq]; omega, ?_⟩
        refine ⟨by simp only [Ops.inb_eq]; exact decide_eq_true ⟨by first | exact (Int.natCast_nonneg i) | (simp only [Int.ofNat_eq_natCast]; exact (Int.natCast_nonneg i)), by first | exact (show (i : Int) < n by omega) | (simp only [Int.ofNat_eq_natCast]; exact (show (i : Int) < n by omega))⟩, ?_⟩
        simp only [Int.toNat_natCast, Int.ofNat_eq_natCast, Ops.get_eq, Ops.nadd_eq, Ops.nat_eq, Nat.zero_add, hgi]
        (cbv; repeat' (refine mt (fun _ => ?_) (fun _ => ?_) <;> cbv))
        refine ⟨by simp [o.slb_eq]; omega, ?_⟩
        refine ⟨⟨by simp [o.get_eq, hgi, rdn, pack], trivial⟩, ?_⟩
        refine ⟨by simp only [o.sub_eq, htk, o.ll_eq, List.length_map, hta], by simp only [o.sub_eq, htk, o.all1_eq, List.all_eq_true]; exact all1_told _, ⟨by simp [o.ll_eq], by simp [o.nmul_eq], by simp [o.nle_eq, o.nmul_eq, o.nadd_eq]; omega⟩, .inl fun c1 hcap1 => ?_⟩
        simp only [o.cat_eq, o.sub_eq, o.nadd_eq, o.nmul_eq, htk, List.nil_append, Nat.zero_add]
        have hz1l : ((out.take a).map Told.cs).length = a := by rw [List.length_map, hta]
        generalize hz1 : (out.take a).map Told.cs = z1 at *
        generalize ht1 : c1 * 18 = t1
        (cbv; repeat' (refine mt (fun _ => ?_) (fun _ => ?_) <;> cbv))
        refine ⟨⟨by simp [o.get_eq, hgi, rdn, pack], trivial⟩, by simp [o.ll_eq, o.sub_eq], by simp [o.all1_eq, o.sub_eq, allOne, VV.one], ⟨by simp [o.ll_eq, hz1l], by simp [o.nmul_eq, ht1], by simp [o.nle_eq, o.nmul_eq, o.nadd_eq]; omega⟩, .inl fun c2 hcap2 => ?_⟩
        simp only [o.cat_eq, o.sub_eq, o.nadd_eq, o.nmul_eq, List.drop_zero, List.take_succ_cons, List.take_zero]
        rw [hxc] at hins
        generalize hz2 : z1 ++ [[VV.int .i64 x1, .int .i64 x2, .int .i64 x3, .int .i64 x4, .int .i64 x5, .int .i64 x6, .int .u64 x7, .int .i64 x8, .int .i64 x9, .int .i64 x10, .int .i64 x11, .int .u64 x12, .int .i64 x13, .int .u64 x14, .int .i64 x15, .int .i64 x16, .int .i64 x17, .int .i64 x18]] = z2 at *
        have hz2l : z2.length = a + 1 := by rw [← hz2, List.length_append, hz1l]; rfl
        generalize ht2 : c2 * 18 = t2
        generalize ha1 : a + 1 = a1 at *
        (cbv; repeat' (refine mt (fun _ => ?_) (fun _ => ?_) <;> cbv))
        have hsf := hdk _ rfl
        refine ⟨by simp only [o.sub_eq, o.soff_eq, o.nat_eq, o.nsub_eq, Int.ofNat_eq_natCast, Int.toNat_natCast, Nat.zero_add, hsf, o.ll_eq, List.length_map, hda], by simp only [o.sub_eq, o.soff_eq, o.nat_eq, o.nsub_eq, Int.ofNat_eq_natCast, Int.toNat_natCast, Nat.zero_add, hsf, o.all1_eq, List.all_eq_true]; exact all1_told _, ⟨by simp [o.ll_eq, hz2l], by simp [o.nmul_eq, ht2], by simp [o.nle_eq, o.nmul_eq, o.nadd_eq, o.nsub_eq, o.nat_eq]; omega⟩, .inl fun c3 hcap3 => ?_⟩
        simp only [o.cat_eq, o.sub_eq, o.soff_eq, o.nat_eq, o.nsub_eq, o.nadd_eq, o.nmul_eq, Int.ofNat_eq_natCast, Int.toNat_natCast, Nat.zero_add, hsf, hins]
        have hcap4 : a1 + (i - a) ≤ c3 := by simpa [o.nle_eq, o.nadd_eq, o.nsub_eq, o.nat_eq] using hcap3
        have hii : a1 + (i - a) = i + 1 := by omega
        rw [hii] at hcap4 ⊢
        generalize hz3 : (ords l (i + 1)).map Told.cs = z3 at *
        generalize ht3 : c3 * 18 = t3
        (cbv; repeat' (refine mt (fun _ => ?_) (fun _ => ?_) <;> cbv))
        have hpn := Told.plain (ords l (i + 1))
        rw [hz3] at hpn
        have hstep : n - (i + 1) < n - i := by omega
        have hrl : i + 1 ≤ n := by omega
        have hiw : arith .add .i64 (i : Int) 1 = ((i + 1 : Nat) : Int) := add1 (by omega)
        have hz3l : z3.length = i + 1 := by rw [← hz3, List.length_map, ords_len]
        clear hQ hg ho hgi hnext hxc fin hdk hsf hins hz1 hz2 htk hta hda
        refine ⟨n - (i + 1), hstep, o.reI (Re.ren [0, 1, 7] _ _ rfl rfl ?_ ?_ fun r => ⟨i + 1, c3, t3, ords l (i + 1), r, hrl, hcap4, ht3.symm, rfl, rfl, rfl, rfl⟩)⟩
        · simp_all [Cap.rn, fitB, mixOk, rnB, lget, rnL, rn, rho, llen, Plain, assoc, mix, envOf, o.ar_eq, hiw]
        · rw [hz3]; simp_all [Cap.rn, fitB, mixOk, rnB, lget, rnL, rn, rho, llen, Plain, assoc, mix, envOf]
    · have hap : a = p := by
        have : a = 0 := by omega
        subst this
        rw [← hpa]; rfl
      (cbv; repeat' (refine mt (fun _ => ?_) (fun _ => ?_) <;> first | (exfalso; rename_i hc; simp [o.cmp_eq, icmp, o.not_eq, o.beq_eq] at hc; first | done | omega) | cbv))
      obtain rfl := hap
      have htk : ((ys.drop 0).take a) = (out.take a).map Told.cs := by rw [List.drop_zero, ← hys, List.map_take]
      have hdk : ∀ s', s' = (if c = a then 0 else a) → ((ys.drop s').take (i - a)) = (out.drop a).map Told.cs := by
        intro s' hs'
        rw [hs']
        by_cases hca : c = a
        · have e0 : i - a = 0 := by omega
          rw [e0, List.take_zero, List.drop_of_length_le (by omega)]; rfl
        · rw [if_neg hca, List.take_of_length_le (by rw [List.length_drop, hyl]; omega), ← hys, List.map_drop]
      have hta : (out.take a).length = a := by rw [List.length_take]; omega
      have hda : (out.drop a).length = i - a := by rw [List.length_drop]; omega
      have hins : (out.take a).map Told.cs ++ [x.cs] ++ (out.drop a).map Told.cs = (ords l (i + 1)).map Told.cs := by rw [hnext, insT, hp]; simp
      have hpn := Told.plain (ords l (i + 1))
      refine ⟨by simp [o.slb_eq]; omega, ?_⟩
      refine ⟨by simp only [Ops.inb_eq]; exact decide_eq_true ⟨by first | exact (Int.natCast_nonneg i) | (simp only [Int.ofNat_eq_natCast]; exact (Int.natCast_nonneg i)), by first | exact (show (i : Int) < n by omega) | (simp only [Int.ofNat_eq_natCast]; exact (show (i : Int) < n by omega))⟩, ?_⟩
      simp only [Int.toNat_natCast, Int.ofNat_eq_natCast, Ops.get_eq, Ops.nadd_eq, Ops.nat_eq, Nat.zero_add, hgi]
      (cbv; repeat' (refine mt (fun _ => ?_) (fun _ => ?_) <;> cbv))
      refine ⟨by simp [o.slb_eq]; omega, ?_⟩
      refine ⟨⟨by simp [o.get_eq, hgi, rdn, pack], trivial⟩, ?_⟩
      refine ⟨by simp only [o.sub_eq, htk, o.ll_eq, List.length_map, hta], by simp only [o.sub_eq, htk, o.all1_eq, List.all_eq_true]; exact all1_told _, ⟨by simp [o.ll_eq], by simp [o.nmul_eq], by simp [o.nle_eq, o.nmul_eq, o.nadd_eq]; omega⟩, .inl fun c1 hcap1 => ?_⟩
      simp only [o.cat_eq, o.sub_eq, o.nadd_eq, o.nmul_eq, htk, List.nil_append, Nat.zero_add]
      have hz1l : ((out.take a).map Told.cs).length = a := by rw [List.length_map, hta]
      generalize hz1 : (out.take a).map Told.cs = z1 at *
      generalize ht1 : c1 * 18 = t1
      (cbv; repeat' (refine mt (fun _ => ?_) (fun _ => ?_) <;> cbv))
      refine ⟨⟨by simp [o.get_eq, hgi, rdn, pack], trivial⟩, by simp [o.ll_eq, o.sub_eq], by simp [o.all1_eq, o.sub_eq, allOne, VV.one], ⟨by simp [o.ll_eq, hz1l], by simp [o.nmul_eq, ht1], by simp [o.nle_eq, o.nmul_eq, o.nadd_eq]; omega⟩, .inl fun c2 hcap2 => ?_⟩
      simp only [o.cat_eq, o.sub_eq, o.nadd_eq, o.nmul_eq, List.drop_zero, List.take_succ_cons, List.take_zero]
      rw [hxc] at hins
      generalize hz2 : z1 ++ [[VV.int .i64 x1, .int .i64 x2, .int .i64 x3, .int .i64 x4, .int .i64 x5, .int .i64 x6, .int .u64 x7, .int .i64 x8, .int .i64 x9, .int .i64 x10, .int .i64 x11, .int .u64 x12, .int .i64 x13, .int .u64 x14, .int .i64 x15, .int .i64 x16, .int .i64 x17, .int .i64 x18]] = z2 at *
      have hz2l : z2.length = a + 1 := by rw [← hz2, List.length_append, hz1l]; rfl
      generalize ht2 : c2 * 18 = t2
      generalize ha1 : a + 1 = a1 at *
      (cbv; repeat' (refine mt (fun _ => ?_) (fun _ => ?_) <;> cbv))
      have hsf := hdk _ rfl
      refine ⟨by simp only [o.sub_eq, o.soff_eq, o.nat_eq, o.nsub_eq, Int.ofNat_eq_natCast, Int.toNat_natCast, Nat.zero_add, hsf, o.ll_eq, List.length_map, hda], by simp only [o.sub_eq, o.soff_eq, o.nat_eq, o.nsub_eq, Int.ofNat_eq_natCast, Int.toNat_natCast, Nat.zero_add, hsf, o.all1_eq, List.all_eq_true]; exact all1_told _, ⟨by simp [o.ll_eq, hz2l], by simp [o.nmul_eq, ht2], by simp [o.nle_eq, o.nmul_eq, o.nadd_eq, o.nsub_eq, o.nat_eq]; omega⟩, .inl fun c3 hcap3 => ?_⟩
      simp only [o.cat_eq, o.sub_eq, o.soff_eq, o.nat_eq, o.nsub_eq, o.nadd_eq, o.nmul_eq, Int.ofNat_eq_natCast, Int.toNat_natCast, Nat.zero_add, hsf, hins]
      have hcap4 : a1 + (i - a) ≤ c3 := by simpa [o.nle_eq, o.nadd_eq, o.nsub_eq, o.nat_eq] using hcap3
      have hii : a1 + (i - a) = i + 1 := by omega
      rw [hii] at hcap4 ⊢
      generalize hz3 : (ords l (i + 1)).map Told.cs = z3 at *
      generalize ht3 : c3 * 18 = t3
      (cbv; repeat' (refine mt (fun _ => ?_) (fun _ => ?_) <;> cbv))
      have hpn := Told.plain (ords l (i + 1))
      rw [hz3] at hpn
      have hstep : n - (i + 1) < n - i := by omega
      have hrl : i + 1 ≤ n := by omega
      have hiw : arith .add .i64 (i : Int) 1 = ((i + 1 : Nat) : Int) := add1 (by omega)
      have hz3l : z3.length = i + 1 := by rw [← hz3, List.length_map, ords_len]
      clear hQ hg ho hgi hnext hxc fin hdk hsf hins hz1 hz2 htk hta hda
      refine ⟨n - (i + 1), hstep, o.reI (Re.ren [0, 1, 7] _ _ rfl rfl ?_ ?_ fun r => ⟨i + 1, c3, t3, ords l (i + 1), r, hrl, hcap4, ht3.symm, rfl, rfl, rfl, rfl⟩)⟩
      · simp_all [Cap.rn, fitB, mixOk, rnB, lget, rnL, rn, rho, llen, Plain, assoc, mix, envOf, o.ar_eq, hiw]
      · rw [hz3]; simp_all [Cap.rn, fitB, mixOk, rnB, lget, rnL, rn, rho, llen, Plain, assoc, mix, envOf]
  · rename_i h
    have h1 : i = n := by
      have : (n : Int) ≤ i := by simpa [o.cmp_eq, icmp] using h
      omega
    subst h1
    have : R = out := by rw [← hR, orderT, hn, hout]
    subst this
    rw [hys] at hRs
    subst hRs
    exact hQ _ _ (ReV.id ⟨c, tot, htot, hic, rfl, rfl⟩)
end Go.Proofs.Ythoodnlihbaimaa
