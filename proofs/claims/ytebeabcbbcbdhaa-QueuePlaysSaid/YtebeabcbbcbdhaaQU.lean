/- queue: QueuePlays. -/
import Derived.Test.YtebeabcbbcbdhaaQT
namespace Go.Proofs.Ytebeabcbbcbdhaa
set_option linter.unusedVariables false
set_option linter.unusedSimpArgs false
open Go Go.SL
set_option maxRecDepth 100000
theorem all1_ints (L : List Int) : ∀ y ∈ L.map icell, allOne y = true := by
  intro y hy
  obtain ⟨x, _, rfl⟩ := List.mem_map.1 hy
  rfl
theorem sub_head {xsP : List (List VV)} {s n : Nat} {y : Int} {L : List Int} (h : (xsP.drop s).take n = (y :: L).map icell) : xsP[s]? = some [.int .i64 y] := by
  have h1 : ((xsP.drop s).take n)[0]? = some (icell y) := by rw [h]; rfl
  rw [List.getElem?_take] at h1
  split at h1
  · rw [List.getElem?_drop] at h1; simpa [icell] using h1
  · cases h1
theorem sub_tail {xsP : List (List VV)} {s n c : Nat} {y : Int} {L : List Int} (h : (xsP.drop s).take n = (y :: L).map icell) (hn : (y :: L).length = n) (hc : n ≤ c) :
    (xsP.drop (if c = 1 then s else s + 1)).take (n - 1) = L.map icell := by
  obtain ⟨n, rfl⟩ : ∃ n', n = n' + 1 := ⟨n - 1, by simp at hn; omega⟩
  simp only [Nat.add_sub_cancel]
  split
  · have hn0 : n = 0 := by omega
    subst hn0
    have : L = [] := List.eq_nil_of_length_eq_zero (by simpa using hn)
    subst this
    simp
  · have hd : xsP.drop s ≠ [] := by intro e; rw [e] at h; simp at h
    obtain ⟨z, zs, hz⟩ := List.exists_cons_of_ne_nil hd
    have h2 : xsP.drop (s + 1) = zs := by rw [← List.drop_drop, hz]; rfl
    rw [hz] at h
    simp only [List.take_succ_cons, List.map_cons, List.cons.injEq] at h
    rw [h2]; exact h.2
set_option maxHeartbeats 4000000 in
theorem QueuePlays_ev {W0 : World} (most : Int) (l : List Int) (oid : Option Nat) (cap : Nat) (ho : oid = some 0 ∨ (oid = none ∧ l = [])) :
    Ev Try.prog W0 8 [.int .i64 most, .osl oid 1 0 l.length cap] [.ro 1 (l.map icell)] (fun v _ => v = .bool true) := by
  refine Ev.out fun Q' hQ => ev8 rfl fun o => ?_
  have hg := icell_get l
  have hpl := icell_plain l
  generalize hxs : l.map icell = xs at *
  generalize hn : l.length = nl at *
  (cbv; repeat' (refine mt (fun _ => ?_) (fun _ => ?_) <;> cbv))
  obtain ⟨k, hk1, hk2, he⟩ := room_k most
  simp only [o.ar_eq]
  rw [he]
  clear he
  refine o.call0 (New_ev k) rfl ?_
  rintro v V' ⟨h1, _⟩
  obtain ⟨rfl, rfl⟩ := h1 (by omega)
  clear h1
  simp only [List.length_nil, List.length_cons, List.map_cons, List.map_nil, rnB, rnL, rn, ints_rn, Int.toNat_natCast]
  generalize h0 : ints [] = l0
  (cbv; repeat' (refine mt (fun _ => ?_) (fun _ => ?_) <;> cbv))
  refine o.call0 qawake_ev rfl ?_
  rintro v V' ⟨rfl, rfl⟩
  (cbv; repeat' (refine mt (fun _ => ?_) (fun _ => ?_) <;> first | (exfalso; rename_i hc; simp [o.cmp_eq, icmp, o.not_eq, o.beq_eq] at hc; first | done | omega) | cbv))
  refine ⟨fun m env V => ∃ (i s n c tot : Nat) (xsP : List (List VV)) (L : List Int) (r : Nat → Value), i ≤ nl ∧ i ≤ 100 ∧ m = 100 - i ∧ L.length = n ∧ n ≤ k ∧ n ≤ c ∧ (xsP.drop s).take n = L.map icell ∧ Plain xsP ∧
      env = mix [(1, .osl oid 1 0 nl cap), (5, .int .i64 k), (6, .ptr 1 0), (8, .sl 3 1 s n c), (9, .int .i64 i)] r ∧
      V = [.ro 1 xs, .cells [.chan 2, .int .i64 k], .chan k (ints L), .arr 1 xsP tot], ⟨100, o.reI (Re.ren [0, 1, 2, 3] _ _ rfl rfl ?_ ?_ fun r => ⟨0, 0, 0, 0, 0, [], [], r, Nat.zero_le _, Nat.zero_le _, rfl, rfl, Nat.zero_le _, Nat.zero_le _, rfl, fun _ => rfl, rfl, rfl⟩)⟩, ?_⟩
  · simp_all [fitB, mixOk, rnB, lget, rnL, rn, rho, llen, Plain, assoc, mix, envOf]
    rcases ho with rfl | ⟨rfl, _⟩ <;> simp [lget]
  · subst h0; simp_all [fitB, mixOk, rnB, lget, rnL, rn, rho, llen, Plain, assoc, mix, envOf, ints]
  subst h0
  rintro m env V ⟨i, s, n, c, tot, xsP, L, r, hi, hi2, rfl, hL, hnk, hnc, hsub, hpP, rfl, rfl⟩
  generalize hys : ints L = ys
  (cbv; repeat' (refine mt (fun _ => ?_) (fun _ => ?_) <;> cbv))
  · rename_i h1 h2
    have h3 : i < nl := by
      have : (i : Int) < nl := by simpa [o.cmp_eq, icmp] using h1
      omega
    have h4 : i < 100 := by
      have : (i : Int) < 100 := by simpa [o.cmp_eq, icmp] using h2
      omega
    obtain rfl : oid = some 0 := by
      rcases ho with h | ⟨_, h⟩
      · exact h
      · subst h; simp at hn; omega
    have hgi := hg i h3
    generalize l.getD i 0 = x at *
    clear h1 h2 hg hxs
    (cbv; repeat' (refine mt (fun _ => ?_) (fun _ => ?_) <;> cbv))
    refine ⟨by simp only [Ops.inb_eq]; exact decide_eq_true ⟨by first | exact (Int.natCast_nonneg i) | (simp only [Int.ofNat_eq_natCast]; exact (Int.natCast_nonneg i)), by first | exact (show (i : Int) < nl by omega) | (simp only [Int.ofNat_eq_natCast]; exact (show (i : Int) < nl by omega))⟩, ?_⟩
    simp only [Int.toNat_natCast, Int.ofNat_eq_natCast, Ops.get_eq, Ops.nadd_eq, Ops.nat_eq, Nat.zero_add, hgi]
    (cbv; repeat' (refine mt (fun _ => ?_) (fun _ => ?_) <;> cbv))
    refine ⟨by simp [Ops.need_eq, needs, Ops.inb_eq], ?_⟩
    (cbv; repeat' (refine mt (fun _ => ?_) (fun _ => ?_) <;> cbv))
    · cases L with
      | nil =>
        have hn0 : n = 0 := by simpa using hL.symm
        subst hn0
        subst hys
        refine o.call [1, 2] (PopNone_ev k k) rfl rfl rfl (by clear hQ; simp_all [fitB, mixOk, rnB, lget, rnL, rn, rho, llen, Plain, assoc, mix, envOf, ints_rn]) ?_
        rintro v V' ⟨rfl, rfl⟩
        simp only [layB, lset, lapp, rnB, rnL, rn, rho, lget, hpl _, hpP _, ints_rn, List.map_nil]
        generalize hys : ints [] = ys
        (cbv; repeat' (refine mt (fun _ => ?_) (fun _ => ?_) <;> first | (exfalso; rename_i hc; simp [o.cmp_eq, icmp, o.not_eq, o.beq_eq] at hc; first | done | omega) | cbv))
        subst hys
        refine o.call [1, 2] (Len_ev k [] k) rfl rfl rfl (by clear hQ; simp_all [fitB, mixOk, rnB, lget, rnL, rn, rho, llen, Plain, assoc, mix, envOf, ints_rn]) ?_
        rintro v V' ⟨rfl, rfl⟩
        simp only [layB, lset, lapp, rnB, rnL, rn, rho, lget, hpl _, hpP _, ints_rn, List.map_nil]
        rw [hL]
        generalize hys : ints [] = ys
        (cbv; repeat' (refine mt (fun _ => ?_) (fun _ => ?_) <;> first | (exfalso; rename_i hc; simp [o.cmp_eq, icmp, o.not_eq, o.beq_eq] at hc; first | done | omega) | cbv))
        subst hys
        refine o.call [1, 2] (Room_ev k [] k (by omega) (by omega) (by rw [hL]; omega)) rfl rfl rfl (by clear hQ; simp_all [fitB, mixOk, rnB, lget, rnL, rn, rho, llen, Plain, assoc, mix, envOf, ints_rn]) ?_
        rintro v V' ⟨rfl, rfl⟩
        simp only [layB, lset, lapp, rnB, rnL, rn, rho, lget, hpl _, hpP _, ints_rn, List.map_nil]
        rw [hL]
        have e1 : arith .sub .i64 (k : Int) (0 : Int) = (k : Int) - (0 : Int) := wrap64 (by omega) (by omega)
        generalize hys : ints [] = ys
        generalize (k : Int) - (0 : Int) = D at *
        (cbv; repeat' (refine mt (fun _ => ?_) (fun _ => ?_) <;> cbv))
        · rename_i h
          simp [o.cmp_eq, icmp, o.ar_eq] at h
          exact absurd e1.symm h
        · subst hys
          clear hQ e1 hgi
          refine ⟨100 - (i + 1), by omega, o.reI (Re.ren [0, 1, 2, 3] _ _ rfl rfl ?_ ?_ fun r => ⟨i + 1, s, 0, c, tot, xsP, [], r, by omega, by omega, rfl, hL, hnk, hnc, hsub, hpP, rfl, rfl⟩)⟩
          · simp_all [fitB, mixOk, rnB, lget, rnL, rn, rho, llen, Plain, assoc, mix, envOf, o.ar_eq, add1 (i := i) (by omega)]
          · simp_all [fitB, mixOk, rnB, lget, rnL, rn, rho, llen, Plain, assoc, mix, envOf, ints_rn]
      | cons y L =>
        subst hys
        refine o.call [1, 2] (PopSome_ev k y L k) rfl rfl rfl (by clear hQ; simp_all [fitB, mixOk, rnB, lget, rnL, rn, rho, llen, Plain, assoc, mix, envOf, ints_rn]) ?_
        rintro v V' ⟨rfl, rfl⟩
        simp only [layB, lset, lapp, rnB, rnL, rn, rho, lget, hpl _, hpP _, ints_rn, List.map_nil]
        generalize hys : ints L = ys
        have hn0 : 0 < n := by simp at hL; omega
        have hh := sub_head hsub
        have ht := sub_tail hsub hL hnc
        (cbv; repeat' (refine mt (fun _ => ?_) (fun _ => ?_) <;> first | (exfalso; rename_i hc; simp [o.cmp_eq, icmp, o.not_eq, o.beq_eq] at hc; first | done | omega) | cbv))
        have hcn : ((0 : Nat) : Int) < n := by omega
        refine ⟨by simp only [Ops.inb_eq]; exact decide_eq_true ⟨Int.le_refl 0, hcn⟩, ?_⟩
        simp only [Ops.get_eq, Ops.nadd_eq, Ops.nat_eq, Int.toNat_zero, Nat.add_zero, hh]
        (cbv; repeat' (refine mt (fun _ => ?_) (fun _ => ?_) <;> first | (exfalso; rename_i hc; simp [o.cmp_eq, icmp, o.not_eq, o.beq_eq] at hc; first | done | omega) | cbv))
        refine ⟨by simp [o.slb_eq]; omega, ?_⟩
        have hL1 : L.length = n - 1 := by simp at hL; omega
        simp only [o.soff_eq, o.nsub_eq, o.nat_eq, Int.toNat_one]
        generalize hs' : (if c = 1 then s else s + 1) = s' at *
        have hn1 : n - 1 ≤ k := by omega
        have hc1 : n - 1 ≤ c - 1 := by omega
        generalize n - 1 = n1 at *
        generalize c - 1 = c1 at *
        (cbv; repeat' (refine mt (fun _ => ?_) (fun _ => ?_) <;> first | (exfalso; rename_i hc; simp [o.cmp_eq, icmp, o.not_eq, o.beq_eq] at hc; first | done | omega) | cbv))
        subst hys
        refine o.call [1, 2] (Len_ev k L k) rfl rfl rfl (by clear hQ; simp_all [fitB, mixOk, rnB, lget, rnL, rn, rho, llen, Plain, assoc, mix, envOf, ints_rn]) ?_
        rintro v V' ⟨rfl, rfl⟩
        simp only [layB, lset, lapp, rnB, rnL, rn, rho, lget, hpl _, hpP _, ints_rn, List.map_nil]
        rw [hL1]
        generalize hys : ints L = ys
        (cbv; repeat' (refine mt (fun _ => ?_) (fun _ => ?_) <;> first | (exfalso; rename_i hc; simp [o.cmp_eq, icmp, o.not_eq, o.beq_eq] at hc; first | done | omega) | cbv))
        subst hys
        refine o.call [1, 2] (Room_ev k L k (by omega) (by omega) (by rw [hL1]; omega)) rfl rfl rfl (by clear hQ; simp_all [fitB, mixOk, rnB, lget, rnL, rn, rho, llen, Plain, assoc, mix, envOf, ints_rn]) ?_
        rintro v V' ⟨rfl, rfl⟩
        simp only [layB, lset, lapp, rnB, rnL, rn, rho, lget, hpl _, hpP _, ints_rn, List.map_nil]
        rw [hL1]
        have e1 : arith .sub .i64 (k : Int) (n1 : Int) = (k : Int) - (n1 : Int) := wrap64 (by omega) (by omega)
        generalize hys : ints L = ys
        generalize (k : Int) - (n1 : Int) = D at *
        (cbv; repeat' (refine mt (fun _ => ?_) (fun _ => ?_) <;> cbv))
        · rename_i h
          simp [o.cmp_eq, icmp, o.ar_eq] at h
          exact absurd e1.symm h
        · subst hys
          clear hQ e1 hgi hh hsub hL
          refine ⟨100 - (i + 1), by omega, o.reI (Re.ren [0, 1, 2, 3] _ _ rfl rfl ?_ ?_ fun r => ⟨i + 1, s', n1, c1, tot, xsP, L, r, by omega, by omega, rfl, hL1, hn1, hc1, ht, hpP, rfl, rfl⟩)⟩
          · simp_all [fitB, mixOk, rnB, lget, rnL, rn, rho, llen, Plain, assoc, mix, envOf, o.ar_eq, add1 (i := i) (by omega)]
          · simp_all [fitB, mixOk, rnB, lget, rnL, rn, rho, llen, Plain, assoc, mix, envOf, ints_rn]
    · refine ⟨by simp only [Ops.inb_eq]; exact decide_eq_true ⟨by first | exact (Int.natCast_nonneg i) | (simp only [Int.ofNat_eq_natCast]; exact (Int.natCast_nonneg i)), by first | exact (show (i : Int) < nl by omega) | (simp only [Int.ofNat_eq_natCast]; exact (show (i : Int) < nl by omega))⟩, ?_⟩
      simp only [Int.toNat_natCast, Int.ofNat_eq_natCast, Ops.get_eq, Ops.nadd_eq, Ops.nat_eq, Nat.zero_add, hgi]
      (cbv; repeat' (refine mt (fun _ => ?_) (fun _ => ?_) <;> cbv))
      by_cases hlk : L.length < k
      · subst hys
        refine o.call [1, 2] (PushOk_ev k L k x hlk) rfl rfl rfl (by clear hQ; simp_all [fitB, mixOk, rnB, lget, rnL, rn, rho, llen, Plain, assoc, mix, envOf, ints_rn]) ?_
        rintro v V' ⟨rfl, rfl⟩
        simp only [layB, lset, lapp, rnB, rnL, rn, rho, lget, hpl _, hpP _, ints_rn, List.map_nil]
        generalize hys : ints (L ++ [x]) = ys
        (cbv; repeat' (refine mt (fun _ => ?_) (fun _ => ?_) <;> first | (exfalso; rename_i hc; simp [o.cmp_eq, icmp, o.not_eq, o.beq_eq] at hc; first | done | omega) | cbv))
        refine ⟨by simp only [Ops.inb_eq]; exact decide_eq_true ⟨by first | exact (Int.natCast_nonneg i) | (simp only [Int.ofNat_eq_natCast]; exact (Int.natCast_nonneg i)), by first | exact (show (i : Int) < nl by omega) | (simp only [Int.ofNat_eq_natCast]; exact (show (i : Int) < nl by omega))⟩, ?_⟩
        simp only [Int.toNat_natCast, Int.ofNat_eq_natCast, Ops.get_eq, Ops.nadd_eq, Ops.nat_eq, Nat.zero_add, hgi]
        (cbv; repeat' (refine mt (fun _ => ?_) (fun _ => ?_) <;> first | (exfalso; rename_i hc; simp [o.cmp_eq, icmp, o.not_eq, o.beq_eq] at hc; first | done | omega) | cbv))
        refine ⟨⟨by simp [o.get_eq, hgi, rdn, pack], trivial⟩, by simp only [o.sub_eq, hsub, o.ll_eq, List.length_map]; exact hL, by simp only [o.sub_eq, hsub, o.all1_eq, List.all_eq_true]; exact all1_ints L, ⟨by simp [o.ll_eq], by simp [o.nmul_eq], by simp [o.nle_eq, o.nmul_eq, o.nadd_eq]; omega⟩, fun c1 hcap => ?_⟩
        simp only [o.cat_eq, o.sub_eq, o.nadd_eq, o.nmul_eq, hsub, List.nil_append, Nat.zero_add]
        generalize hz1 : L.map icell = zs1
        generalize ht1 : c1 * 1 = tot1
        (cbv; repeat' (refine mt (fun _ => ?_) (fun _ => ?_) <;> cbv))
        refine ⟨⟨by simp [o.get_eq, hgi, rdn, pack], trivial⟩, by simp [o.ll_eq, o.sub_eq], by simp [o.all1_eq, o.sub_eq, allOne, VV.one], ⟨by simp [o.ll_eq, ← hz1, hL], by simp [o.nmul_eq, ht1], by simp [o.nle_eq, o.nmul_eq, o.nadd_eq]; omega⟩, fun c2 hcap => ?_⟩
        simp only [o.cat_eq, o.sub_eq, o.nadd_eq, o.nmul_eq, List.drop_zero, List.take_succ_cons, List.take_zero]
        have hzz : zs1 ++ [[.int .i64 x]] = (L ++ [x]).map icell := by rw [← hz1]; simp [icell]
        rw [hzz]
        have hp1 : Plain zs1 := by rw [← hz1]; exact icell_plain L
        have hp2 := icell_plain (L ++ [x])
        have hL2 : (L ++ [x]).length = n + 1 := by simp [hL]
        have hs2 : ((((L ++ [x]).map icell).drop 0).take (n + 1)) = (L ++ [x]).map icell := by rw [List.drop_zero, List.take_of_length_le (by simp [hL])]
        generalize hz2 : (L ++ [x]).map icell = zs2 at *
        have hk3 : n + 1 ≤ k := by omega
        have hcap2 : n + 1 ≤ c2 := by simpa [o.nle_eq, o.nadd_eq] using hcap
        clear hcap
        generalize hn2 : n + 1 = n2 at *
        generalize ht2 : c2 * 1 = tot2
        (cbv; repeat' (refine mt (fun _ => ?_) (fun _ => ?_) <;> cbv))
        subst hys
        refine o.call [1, 2] (Len_ev k (L ++ [x]) k) rfl rfl rfl (by clear hQ; simp_all [fitB, mixOk, rnB, lget, rnL, rn, rho, llen, Plain, assoc, mix, envOf, ints_rn]) ?_
        rintro v V' ⟨rfl, rfl⟩
        simp only [layB, lset, lapp, rnB, rnL, rn, rho, lget, hpl _, hpP _, hp1 _, hp2 _, ints_rn, List.map_nil]
        rw [hL2]
        generalize hys : ints (L ++ [x]) = ys
        (cbv; repeat' (refine mt (fun _ => ?_) (fun _ => ?_) <;> first | (exfalso; rename_i hc; simp [o.cmp_eq, icmp, o.not_eq, o.beq_eq] at hc; first | done | omega) | cbv))
        subst hys
        refine o.call [1, 2] (Room_ev k (L ++ [x]) k (by omega) (by omega) (by rw [hL2]; omega)) rfl rfl rfl (by clear hQ; simp_all [fitB, mixOk, rnB, lget, rnL, rn, rho, llen, Plain, assoc, mix, envOf, ints_rn]) ?_
        rintro v V' ⟨rfl, rfl⟩
        simp only [layB, lset, lapp, rnB, rnL, rn, rho, lget, hpl _, hpP _, hp1 _, hp2 _, ints_rn, List.map_nil]
        rw [hL2]
        have e1 : arith .sub .i64 (k : Int) (n2 : Int) = (k : Int) - (n2 : Int) := wrap64 (by omega) (by omega)
        generalize hys : ints (L ++ [x]) = ys
        generalize (k : Int) - (n2 : Int) = D at *
        (cbv; repeat' (refine mt (fun _ => ?_) (fun _ => ?_) <;> cbv))
        · rename_i h
          simp [o.cmp_eq, icmp, o.ar_eq] at h
          exact absurd e1.symm h
        · subst hys
          clear hQ e1 hgi
          refine ⟨100 - (i + 1), by omega, o.reI (Re.ren [0, 1, 2, 7] _ _ rfl rfl ?_ ?_ fun r => ⟨i + 1, 0, n2, c2, tot2, zs2, (L ++ [x]), r, by omega, by omega, rfl, hL2, hk3, hcap2, by rw [hz2]; exact hs2, hp2, rfl, rfl⟩)⟩
          · simp_all [fitB, mixOk, rnB, lget, rnL, rn, rho, llen, Plain, assoc, mix, envOf, o.ar_eq, add1 (i := i) (by omega)]
          · simp_all [fitB, mixOk, rnB, lget, rnL, rn, rho, llen, Plain, assoc, mix, envOf, ints_rn]
      · subst hys
        refine o.call [1, 2] (PushFull_ev k L k x hlk) rfl rfl rfl (by clear hQ; simp_all [fitB, mixOk, rnB, lget, rnL, rn, rho, llen, Plain, assoc, mix, envOf, ints_rn]) ?_
        rintro v V' ⟨rfl, rfl⟩
        simp only [layB, lset, lapp, rnB, rnL, rn, rho, lget, hpl _, hpP _, ints_rn, List.map_nil]
        generalize hys : ints L = ys
        (cbv; repeat' (refine mt (fun _ => ?_) (fun _ => ?_) <;> first | (exfalso; rename_i hc; simp [o.cmp_eq, icmp, o.not_eq, o.beq_eq] at hc; first | done | omega) | cbv))
        subst hys
        refine o.call [1, 2] (Len_ev k L k) rfl rfl rfl (by clear hQ; simp_all [fitB, mixOk, rnB, lget, rnL, rn, rho, llen, Plain, assoc, mix, envOf, ints_rn]) ?_
        rintro v V' ⟨rfl, rfl⟩
        simp only [layB, lset, lapp, rnB, rnL, rn, rho, lget, hpl _, hpP _, ints_rn, List.map_nil]
        rw [hL]
        generalize hys : ints L = ys
        (cbv; repeat' (refine mt (fun _ => ?_) (fun _ => ?_) <;> first | (exfalso; rename_i hc; simp [o.cmp_eq, icmp, o.not_eq, o.beq_eq] at hc; first | done | omega) | cbv))
        subst hys
        refine o.call [1, 2] (Room_ev k L k (by omega) (by omega) (by rw [hL]; omega)) rfl rfl rfl (by clear hQ; simp_all [fitB, mixOk, rnB, lget, rnL, rn, rho, llen, Plain, assoc, mix, envOf, ints_rn]) ?_
        rintro v V' ⟨rfl, rfl⟩
        simp only [layB, lset, lapp, rnB, rnL, rn, rho, lget, hpl _, hpP _, ints_rn, List.map_nil]
        rw [hL]
        have e1 : arith .sub .i64 (k : Int) (n : Int) = (k : Int) - (n : Int) := wrap64 (by omega) (by omega)
        generalize hys : ints L = ys
        generalize (k : Int) - (n : Int) = D at *
        (cbv; repeat' (refine mt (fun _ => ?_) (fun _ => ?_) <;> cbv))
        · rename_i h
          simp [o.cmp_eq, icmp, o.ar_eq] at h
          exact absurd e1.symm h
        · subst hys
          clear hQ e1 hgi
          refine ⟨100 - (i + 1), by omega, o.reI (Re.ren [0, 1, 2, 3] _ _ rfl rfl ?_ ?_ fun r => ⟨i + 1, s, n, c, tot, xsP, L, r, by omega, by omega, rfl, hL, hnk, hnc, hsub, hpP, rfl, rfl⟩)⟩
          · simp_all [fitB, mixOk, rnB, lget, rnL, rn, rho, llen, Plain, assoc, mix, envOf, o.ar_eq, add1 (i := i) (by omega)]
          · simp_all [fitB, mixOk, rnB, lget, rnL, rn, rho, llen, Plain, assoc, mix, envOf, ints_rn]
  all_goals
    exact hQ _ _ (ReV.id rfl)
end Go.Proofs.Ytebeabcbbcbdhaa
