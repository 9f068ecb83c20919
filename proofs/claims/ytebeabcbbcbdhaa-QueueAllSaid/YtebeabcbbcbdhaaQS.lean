/- queue: QueueAll. -/
import Derived.Test.YtebeabcbbcbdhaaQR
namespace Go.Proofs.Ytebeabcbbcbdhaa
set_option linter.unusedVariables false
set_option linter.unusedSimpArgs false
open Go Go.SL
set_option maxRecDepth 100000
def icell (x : Int) : List VV := [.int .i64 x]
theorem icell_plain (l : List Int) : Plain (l.map icell) := Plain.of (fun _ _ => rfl) l
theorem icell_get (l : List Int) (i : Nat) (h : i < l.length) : (l.map icell)[i]? = some [.int .i64 (l.getD i 0)] := by
  simp [icell, List.getElem?_eq_getElem h, List.getD_eq_getElem?_getD]
theorem take_succ_int (l : List Int) (i : Nat) (h : i < l.length) : l.take (i + 1) = l.take i ++ [l.getD i 0] := by
  rw [List.take_add_one, List.getElem?_eq_getElem h, List.getD_eq_getElem?_getD, List.getElem?_eq_getElem h]; rfl
theorem drop_int (l : List Int) (n i : Nat) (h : i < n) (hn : n ≤ l.length) : (l.take n).drop i = l.getD i 0 :: (l.take n).drop (i + 1) := by
  have h1 : i < (l.take n).length := by simp; omega
  rw [List.drop_eq_getElem_cons h1]
  simp [List.getD_eq_getElem?_getD, List.getElem?_eq_getElem (show i < l.length by omega)]
theorem QueueAll_ev {W0 : World} (l : List Int) (oid : Option Nat) (cap : Nat) (ho : oid = some 0 ∨ (oid = none ∧ l = [])) :
    Ev Try.prog W0 9 [.osl oid 1 0 l.length cap] [.ro 1 (l.map icell)] (fun v _ => v = .bool true) := by
  refine Ev.out fun Q' hQ => ev9 rfl fun o => ?_
  have hg := icell_get l
  have hpl := icell_plain l
  generalize hxs : l.map icell = xs at *
  generalize hn : l.length = nl at *
  (cbv; repeat' (refine mt (fun _ => ?_) (fun _ => ?_) <;> cbv))
  all_goals
    rename_i hgt
    obtain ⟨N, hN, hN2, hN3⟩ : ∃ N : Nat, N ≤ nl ∧ N ≤ 256 ∧ N = if nl > 256 then 256 else nl := ⟨_, by split <;> omega, by split <;> omega, rfl⟩
    refine o.call0 (New_ev 256) rfl ?_
    rintro v V' ⟨h1, _⟩
    obtain ⟨rfl, rfl⟩ := h1 (by decide)
    clear h1
    simp only [List.length_cons, List.length_nil, List.map_cons, List.map_nil, rnB, rnL, rn, ints_rn]
    generalize h0 : ints [] = l0
    (cbv; repeat' (refine mt (fun _ => ?_) (fun _ => ?_) <;> cbv))
    subst h0
    have hNe : (N : Int) = if nl > 256 then (256 : Int) else nl := by rw [hN3]; split <;> rfl
    refine ⟨fun m env V => ∃ (i : Nat) (r : Nat → Value), i ≤ N ∧ m = N - i ∧
      env = mix [(0, .osl oid 1 0 nl cap), (3, .int .i64 N), (4, .ptr 1 0), (5, .int .i64 0), (6, .int .i64 i)] r ∧
      V = [.ro 1 xs, .cells [.chan 2, .int .i64 256], .chan 256 (ints (l.take i))], ⟨N, o.reI (Re.ren [0, 1, 2] _ _ rfl rfl ?_ ?_ fun r => ⟨0, r, Nat.zero_le _, rfl, rfl, rfl⟩)⟩, ?_⟩
  case' refine_1.refine_1 => simp_all [fitB, mixOk, rnB, lget, rnL, rn, rho, llen, Plain, assoc, mix, envOf, o.cmp_eq, icmp]
  case' refine_2.refine_1 => simp_all [fitB, mixOk, rnB, lget, rnL, rn, rho, llen, Plain, assoc, mix, envOf, o.cmp_eq, icmp]
  case' refine_1.refine_2 => simp_all [fitB, mixOk, rnB, lget, rnL, rn, rho, llen, Plain, assoc, mix, envOf, ints]
  case' refine_2.refine_2 => simp_all [fitB, mixOk, rnB, lget, rnL, rn, rho, llen, Plain, assoc, mix, envOf, ints]
  case' refine_1.refine_1 => rcases ho with rfl | ⟨rfl, _⟩ <;> exact ⟨by simp [lget], fun _ => by omega⟩
  case' refine_2.refine_1 => rcases ho with rfl | ⟨rfl, _⟩ <;> exact ⟨by simp [lget], fun _ => by omega⟩
  all_goals
    clear hNe hgt
    rintro m env V ⟨i, r, hi, rfl, rfl, rfl⟩
    have hly : (l.take i).length = i := by simp; omega
    have hpy := fun ρ => ints_rn ρ (l.take i)
    generalize hys : ints (l.take i) = ys at *
    (cbv; repeat' (refine mt (fun _ => ?_) (fun _ => ?_) <;> cbv))
  case' refine_1.refine_3.refine_1 | refine_2.refine_3.refine_1 =>
    rename_i h1
    have h3 : i < N := by
      have : (i : Int) < N := by simpa [o.cmp_eq, icmp] using h1
      omega
    have h4 : i < nl := by omega
    obtain rfl : oid = some 0 := by
      rcases ho with h | ⟨_, h⟩
      · exact h
      · subst h; simp at hn; omega
    (cbv; repeat' (refine mt (fun _ => ?_) (fun _ => ?_) <;> cbv))
    refine ⟨by simp only [Ops.inb_eq]; exact decide_eq_true ⟨by first | exact (Int.natCast_nonneg i) | (simp only [Int.ofNat_eq_natCast]; exact (Int.natCast_nonneg i)), by first | exact (show (i : Int) < nl by omega) | (simp only [Int.ofNat_eq_natCast]; exact (show (i : Int) < nl by omega))⟩, ?_⟩
    simp only [Int.toNat_natCast, Int.ofNat_eq_natCast, Ops.get_eq, Ops.nadd_eq, Ops.nat_eq, Nat.zero_add, (hg i h4)]
    have hts := take_succ_int l i (by omega)
    generalize l.getD i 0 = x at *
    (cbv; repeat' (refine mt (fun _ => ?_) (fun _ => ?_) <;> cbv))
    refine o.call [1, 2] (PushOk_ev 256 (l.take i) 256 x (by omega)) rfl rfl rfl (by rw [hys]; clear hg hQ; simp_all [fitB, mixOk, rnB, lget, rnL, rn, rho, llen, Plain, assoc, mix, envOf]) ?_
    rintro v V' ⟨rfl, rfl⟩
    simp only [layB, lset, lapp, rnB, rnL, rn, rho, lget, hpl _, ints_rn, List.map_nil]
    rw [← hts]
    have hpz := fun ρ => ints_rn ρ (l.take (i + 1))
    generalize hzs : ints (l.take (i + 1)) = zs at *
    (cbv; repeat' (refine mt (fun _ => ?_) (fun _ => ?_) <;> first | (exfalso; rename_i hc; simp [o.cmp_eq, icmp, o.not_eq, o.beq_eq] at hc; first | done | omega) | cbv))
    clear hys hpy hly hn h1 hts hg hQ
    refine ⟨N - (i + 1), by omega, o.reI (Re.ren [0, 1, 2] _ _ rfl rfl ?_ ?_ fun r => ⟨i + 1, r, by omega, rfl, rfl, rfl⟩)⟩
    · simp_all [fitB, mixOk, rnB, lget, rnL, rn, rho, llen, Plain, assoc, mix, envOf, o.ar_eq, add1 (i := i) (by omega)]
    · rw [hzs]; clear hzs; simp_all [fitB, mixOk, rnB, lget, rnL, rn, rho, llen, Plain, assoc, mix, envOf]
  all_goals
    rename_i h1
    obtain rfl : i = N := by
      have : (N : Int) ≤ i := by simpa [o.cmp_eq, icmp] using h1
      omega
    clear h1 hi hly hpy
    subst hys
    refine ⟨fun m env V => ∃ (j : Nat) (r : Nat → Value), j ≤ i ∧ m = i - j ∧
      env = mix [(0, .osl oid 1 0 nl cap), (3, .int .i64 i), (4, .ptr 1 0), (5, .int .i64 0), (7, .int .i64 j)] r ∧
      V = [.ro 1 xs, .cells [.chan 2, .int .i64 256], .chan 256 (ints ((l.take i).drop j))], ⟨i, o.reI (Re.ren [0, 1, 2] _ _ rfl rfl ?_ ?_ fun r => ⟨0, r, Nat.zero_le _, rfl, rfl, rfl⟩)⟩, ?_⟩
  case' refine_1.refine_3.refine_2.refine_1 => simp_all [fitB, mixOk, rnB, lget, rnL, rn, rho, llen, Plain, assoc, mix, envOf]
  case' refine_2.refine_3.refine_2.refine_1 => simp_all [fitB, mixOk, rnB, lget, rnL, rn, rho, llen, Plain, assoc, mix, envOf]
  case' refine_1.refine_3.refine_2.refine_1 => rcases ho with rfl | ⟨rfl, _⟩ <;> simp [lget]
  case' refine_2.refine_3.refine_2.refine_1 => rcases ho with rfl | ⟨rfl, _⟩ <;> simp [lget]
  case' refine_1.refine_3.refine_2.refine_2 => simp_all [fitB, mixOk, rnB, lget, rnL, rn, rho, llen, Plain, assoc, mix, envOf, ints_rn]
  case' refine_2.refine_3.refine_2.refine_2 => simp_all [fitB, mixOk, rnB, lget, rnL, rn, rho, llen, Plain, assoc, mix, envOf, ints_rn]
  all_goals
    rintro m env V ⟨j, r2, hj, rfl, rfl, rfl⟩
    by_cases hji : j < i
    · have hdr := drop_int l i j hji (by omega)
      have hgj := hg j (by omega)
      obtain rfl : oid = some 0 := by
        rcases ho with h | ⟨_, h⟩
        · exact h
        · subst h; simp at hn; omega
      generalize hys : ints ((l.take i).drop j) = ys
      generalize l.getD j 0 = x at *
      (cbv; repeat' (refine mt (fun _ => ?_) (fun _ => ?_) <;> first | (exfalso; rename_i hc; simp [o.cmp_eq, icmp, o.not_eq, o.beq_eq] at hc; first | done | omega) | cbv))
      subst hys
      rw [hdr]
      refine o.call [1, 2] (PopSome_ev 256 x ((l.take i).drop (j + 1)) 256) rfl rfl rfl (by clear hg hQ; simp_all [fitB, mixOk, rnB, lget, rnL, rn, rho, llen, Plain, assoc, mix, envOf, ints_rn]) ?_
      rintro v V' ⟨rfl, rfl⟩
      simp only [layB, lset, lapp, rnB, rnL, rn, rho, lget, hpl _, ints_rn, List.map_nil]
      have hpz := fun ρ => ints_rn ρ ((l.take i).drop (j + 1))
      generalize hzs : ints ((l.take i).drop (j + 1)) = zs at *
      (cbv; repeat' (refine mt (fun _ => ?_) (fun _ => ?_) <;> first | (exfalso; rename_i hc; simp [o.cmp_eq, icmp, o.not_eq, o.beq_eq] at hc; first | done | omega) | cbv))
      refine ⟨by simp only [Ops.inb_eq]; exact decide_eq_true ⟨by first | exact (Int.natCast_nonneg j) | (simp only [Int.ofNat_eq_natCast]; exact (Int.natCast_nonneg j)), by first | exact (show (j : Int) < nl by omega) | (simp only [Int.ofNat_eq_natCast]; exact (show (j : Int) < nl by omega))⟩, ?_⟩
      simp only [Int.toNat_natCast, Int.ofNat_eq_natCast, Ops.get_eq, Ops.nadd_eq, Ops.nat_eq, Nat.zero_add, hgj]
      (cbv; repeat' (refine mt (fun _ => ?_) (fun _ => ?_) <;> first | (exfalso; rename_i hc; simp [o.cmp_eq, icmp, o.not_eq, o.beq_eq] at hc; first | done | omega) | cbv))
      clear hdr hgj hn hg hQ
      refine ⟨i - (j + 1), by omega, o.reI (Re.ren [0, 1, 2] _ _ rfl rfl ?_ ?_ fun r => ⟨j + 1, r, by omega, rfl, rfl, rfl⟩)⟩
      · simp_all [fitB, mixOk, rnB, lget, rnL, rn, rho, llen, Plain, assoc, mix, envOf, o.ar_eq, add1 (i := j) (by omega)]
      · rw [hzs]; clear hzs; simp_all [fitB, mixOk, rnB, lget, rnL, rn, rho, llen, Plain, assoc, mix, envOf]
    · obtain rfl : j = i := by omega
      have hdr : (l.take j).drop j = [] := by simp
      rw [hdr]
      generalize hys : ints [] = ys
      (cbv; repeat' (refine mt (fun _ => ?_) (fun _ => ?_) <;> first | (exfalso; rename_i hc; simp [o.cmp_eq, icmp, o.not_eq, o.beq_eq] at hc; first | done | omega) | cbv))
      subst hys
      refine o.call [1, 2] (PopNone_ev 256 256) rfl rfl rfl (by clear hg hQ; simp_all [fitB, mixOk, rnB, lget, rnL, rn, rho, llen, Plain, assoc, mix, envOf, ints_rn]) ?_
      rintro v V' ⟨rfl, rfl⟩
      simp only [layB, lset, lapp, rnB, rnL, rn, rho, lget, hpl _, ints_rn, List.map_nil]
      generalize hys : ints [] = ys
      (cbv; repeat' (refine mt (fun _ => ?_) (fun _ => ?_) <;> cbv))
      refine o.call0 qawake_ev rfl ?_
      rintro v V' ⟨rfl, rfl⟩
      (cbv; repeat' (refine mt (fun _ => ?_) (fun _ => ?_) <;> first | (exfalso; rename_i hc; simp [o.cmp_eq, icmp, o.not_eq, o.beq_eq] at hc; first | done | omega) | cbv))
      subst hys
      refine o.call [1, 2] (Len_ev 256 [] 256) rfl rfl rfl (by clear hg hQ; simp_all [fitB, mixOk, rnB, lget, rnL, rn, rho, llen, Plain, assoc, mix, envOf, ints_rn]) ?_
      rintro v V' ⟨rfl, rfl⟩
      simp only [layB, lset, lapp, rnB, rnL, rn, rho, lget, hpl _, ints_rn, List.map_nil, List.length_nil]
      generalize hys : ints [] = ys
      (cbv; repeat' (refine mt (fun _ => ?_) (fun _ => ?_) <;> first | (exfalso; rename_i hc; simp [o.cmp_eq, icmp, o.not_eq, o.beq_eq] at hc; first | done | omega) | cbv))
      refine hQ _ _ (ReV.id ?_)
      simp [o.cmp_eq, icmp]
end Go.Proofs.Ytebeabcbbcbdhaa
