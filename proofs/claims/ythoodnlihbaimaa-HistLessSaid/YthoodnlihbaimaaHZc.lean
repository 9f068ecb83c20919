/- hist: linear calls are linear without those that change nothing: the law. -/
import Derived.Test.YthoodnlihbaimaaHZb
namespace Go.Proofs.Ythoodnlihbaimaa
set_option linter.unusedVariables false
set_option linter.unusedSimpArgs false
open Go Go.SL Go.FL
set_option maxRecDepth 100000
def mS : Nat → VV
  | 0 => .sl 3 18 0 0 (.n 0)
  | k + 1 => .sl 4 18 0 (k + 1) (.v 3)
def mV (X Y : VB) (zs : List (List VV)) : Nat → List VB
  | 0 => [X, .num, Y, .arr 18 [] (.n 0)]
  | _ + 1 => [X, .num, Y, .num, .arr 18 zs (.v 3)]
theorem m_st (X Y : VB) (zs : List (List VV)) (k : Nat) : (k = 0 ∧ mS k = .sl 3 18 0 0 (.n 0) ∧ mV X Y zs k = [X, .num, Y, .arr 18 [] (.n 0)]) ∨ (0 < k ∧ mS k = .sl 4 18 0 k (.v 3) ∧ mV X Y zs k = [X, .num, Y, .num, .arr 18 zs (.v 3)]) := by
  rcases k with _ | k
  · exact .inl ⟨rfl, rfl, rfl⟩
  · exact .inr ⟨by omega, rfl, rfl⟩
set_option maxHeartbeats 2000000 in
theorem HistLess_ev {W0 : World} (l : List Told) (oid : Option Nat) (cap : Nat) (ho : oid = some 0 ∨ (oid = none ∧ l = [])) : Ev Try.prog W0 6 [.osl oid 18 0 l.length cap] [.ro 18 (l.map Told.cs)] (fun v V' => v = .bool true) := by
  have hc := cutAll_ev (W0 := W0) l oid cap ho
  have hpl := Told.plain l
  have hXr : ∀ ρ, rnB ρ (.ro 18 (l.map Told.cs)) = .ro 18 (l.map Told.cs) := fun ρ => by simp only [rnB, hpl _]
  have hlen := cut40_len l
  have ho2 : oid = some 0 ∨ (oid = none ∧ l.length = 0) := by
    rcases ho with h | ⟨h, rfl⟩
    · exact .inl h
    · exact .inr ⟨h, rfl⟩
  have hB := LinearB_ev (W0 := W0) (cut40 l) (by omega) (cut_low l) (cut40_ok l)
  have hpy := Told.plain (cut40 l)
  have hgy := tat_get (cut40 l)
  have haw := awake20_ev (W0 := W0)
  have hst := out_st (.ro 18 (l.map Told.cs)) ((cut40 l).map Told.cs) (cut40 l).length
  have hlin := lin_filter (cut40_ok l)
  have hnx := keepN_next (cut40 l)
  have hfl : ((cut40 l).filter keepB).length ≤ (cut40 l).length := List.length_filter_le ..
  have hB2 := LinearB_ev (W0 := W0) ((cut40 l).filter keepB) (by omega) (fun t ht => cut_low l t (List.mem_filter.1 ht).1) (fun t ht => cut40_ok l t (List.mem_filter.1 ht).1)
  have hend : keepN (cut40 l) (cut40 l).length = (cut40 l).filter keepB := by unfold keepN; rw [List.take_length]
  have hN0 : keepN (cut40 l) 0 = [] := rfl
  have hpn : ∀ i, Plain ((keepN (cut40 l) i).map Told.cs) := fun i => Told.plain _
  have hln : ∀ i, (keepN (cut40 l) i).length ≤ (cut40 l).length := fun i => Nat.le_trans (List.length_filter_le ..) (List.length_take_le' ..)
  clear ho hpl
  refine Ev.out fun Q' hQ => ?_
  generalize linT (cut40 l) = lt at *
  generalize tat (cut40 l) = zt at *
  generalize (cut40 l).filter keepB = F at *
  generalize keepN (cut40 l) = kN at *
  generalize (cut40 l).map Told.cs = ys at *
  generalize (cut40 l).length = n at *
  generalize l.map Told.cs = xs at *
  generalize l.length = nx at *
  have hr : ∀ (ρ : Nat → Nat) c, rnB ρ (.arr 18 ys c) = .arr 18 ys (c.rn ρ) := by intro ρ c; simp only [rnB, hpy _]
  refine ev6 rfl fun o => ?_
  (cbv; repeat' (first | (refine ⟨by simp only [Ops.need_eq, needs]; first | rfl | decide, ?_⟩; try cbv) | (refine mt (fun h => ?_) (fun h => ?_) <;> first | (exfalso; simp [Ops.cmp_eq, Ops.not_eq, icmp] at h; done) | (exfalso; simp [Ops.cmp_eq, icmp] at h; omega) | (try cbv))))
  refine Ops.call _ [0] hc (by rcases ho2 with rfl | ⟨rfl, _⟩ <;> rfl) rfl rfl ⟨.inr (by rw [hXr]; rfl), trivial⟩ ?_
  rintro v V' ⟨rfl, rfl⟩
  rcases hst with ⟨hi, e1, e2⟩ | ⟨hi, e1, e2⟩
  · rw [e1, e2]
    clear e1 e2 hB hgy hB2 hlin hnx hend hN0 hpn hln
    simp only [layB, lset, lapp, List.map_nil, List.map_cons, hXr, rn, rnL, Cap.rn]
    (cbv; repeat' (first | (refine ⟨by simp only [Ops.need_eq, needs]; first | rfl | decide, ?_⟩; try cbv) | (refine mt (fun h => ?_) (fun h => ?_) <;> first | (exfalso; simp [Ops.cmp_eq, Ops.not_eq, icmp] at h; done) | (exfalso; simp [Ops.cmp_eq, icmp] at h; omega) | (try cbv))))
    refine Ops.call0 _ (haw) rfl ?_; rintro v V' ⟨rfl, rfl⟩; simp only [lapp, List.map_nil, rn, rnL]
    (cbv; repeat' (first | (refine ⟨by simp only [Ops.need_eq, needs]; first | rfl | decide, ?_⟩; try cbv) | (refine mt (fun h => ?_) (fun h => ?_) <;> first | (exfalso; simp [Ops.cmp_eq, Ops.not_eq, icmp] at h; done) | (exfalso; simp [Ops.cmp_eq, icmp] at h; omega) | (try cbv))))
    refine Ops.call _ [1] LinearA_ev rfl rfl rfl ⟨.inr rfl, trivial⟩ ?_
    rintro v V' ⟨rfl, rfl⟩
    simp only [layB, lset, lapp, List.map_nil, List.map_cons, rn, rnL, Cap.rn]
    (cbv; repeat' (first | (refine ⟨by simp only [Ops.need_eq, needs]; first | rfl | decide, ?_⟩; try cbv) | (refine mt (fun h => ?_) (fun h => ?_) <;> first | (exfalso; simp [Ops.cmp_eq, Ops.not_eq, icmp] at h; done) | (exfalso; simp [Ops.cmp_eq, icmp] at h; omega) | (try cbv))))
    refine ⟨fun k env V => ∃ r : Nat → Value, env = mix [(3, .sl 1 18 0 0 (.n 0)), (4, .sl 2 18 0 0 (.n 0)), (5, .int .i64 0)] r ∧ V = [.ro 18 xs, .arr 18 [] (.n 0), .arr 18 [] (.n 0)], ⟨0, o.reI (Re.ren [0, 1, 2] _ _ rfl rfl ?_ ?_ fun r => ⟨r, rfl, rfl⟩)⟩, ?_⟩
    · exact ⟨rfl, rfl, rfl, trivial⟩
    · exact ⟨.inr (by rw [hXr]; rfl), .inr rfl, .inr rfl, trivial⟩
    rintro k env V ⟨r, rfl, rfl⟩
    (cbv; repeat' (first | (refine ⟨by simp only [Ops.need_eq, needs]; first | rfl | decide, ?_⟩; try cbv) | (refine mt (fun h => ?_) (fun h => ?_) <;> first | (exfalso; simp [Ops.cmp_eq, Ops.not_eq, icmp] at h; done) | (exfalso; simp [Ops.cmp_eq, icmp] at h; omega) | (try cbv))))
    refine Ops.call _ [2] LinearA_ev rfl rfl rfl ⟨.inr rfl, trivial⟩ ?_
    rintro v V' ⟨rfl, rfl⟩
    simp only [layB, lset, lapp, List.map_nil, List.map_cons, rn, rnL, Cap.rn]
    (cbv; repeat' (first | (refine ⟨by simp only [Ops.need_eq, needs]; first | rfl | decide, ?_⟩; try cbv) | (refine mt (fun h => ?_) (fun h => ?_) <;> first | (exfalso; simp [Ops.cmp_eq, Ops.not_eq, icmp] at h; done) | (exfalso; simp [Ops.cmp_eq, icmp] at h; omega) | (try cbv))))
    exact hQ _ _ (ReV.ren [0] (.bool true) [.ro 18 xs] rfl rfl rfl ⟨.inr (by rw [hXr]; rfl), trivial⟩ rfl)
  · rw [e1, e2]
    clear e1 e2
    have r1 : ∀ m, rho [0] m 1 = m := fun _ => rfl
    have hr2 : ∀ ρ : Nat → Nat, rnB ρ .num = .num := fun _ => rfl
    simp only [layB, lset, lapp, List.map_nil, List.map_cons, hXr, hr, hr2, rn, rnL, Cap.rn]
    (cbv; repeat' (first | (refine ⟨by simp only [Ops.need_eq, needs]; first | rfl | decide, ?_⟩; try cbv) | (refine mt (fun h => ?_) (fun h => ?_) <;> first | (exfalso; simp [Ops.cmp_eq, Ops.not_eq, icmp] at h; done) | (exfalso; simp [Ops.cmp_eq, icmp] at h; omega) | (try cbv))))
    refine Ops.call0 _ (haw) rfl ?_; rintro v V' ⟨rfl, rfl⟩; simp only [lapp, List.map_nil, rn, rnL]
    (cbv; repeat' (first | (refine ⟨by simp only [Ops.need_eq, needs]; first | rfl | decide, ?_⟩; try cbv) | (refine mt (fun h => ?_) (fun h => ?_) <;> first | (exfalso; simp [Ops.cmp_eq, Ops.not_eq, icmp] at h; done) | (exfalso; simp [Ops.cmp_eq, icmp] at h; omega) | (try cbv))))
    refine Ops.call _ [1, 2] hB rfl rfl rfl ⟨.inr rfl, .inr (by rw [hr]; rfl), trivial⟩ ?_
    rintro v V' ⟨rfl, rfl⟩
    simp only [layB, lset, lapp, List.map_nil, List.map_cons, hr, hr2, rn, rnL, Cap.rn]
    cases lt
    · clear hgy hB2 hlin hnx hend hN0 hpn hln
      (cbv; repeat' (first | (refine ⟨by simp only [Ops.need_eq, needs]; first | rfl | decide, ?_⟩; try cbv) | (refine mt (fun h => ?_) (fun h => ?_) <;> first | (exfalso; simp [Ops.cmp_eq, Ops.not_eq, icmp] at h; done) | (exfalso; simp [Ops.cmp_eq, icmp] at h; omega) | (try cbv))))
      refine Ops.call0 _ (haw) rfl ?_; rintro v V' ⟨rfl, rfl⟩; simp only [lapp, List.map_nil, rn, rnL]
      (cbv; repeat' (first | (refine ⟨by simp only [Ops.need_eq, needs]; first | rfl | decide, ?_⟩; try cbv) | (refine mt (fun h => ?_) (fun h => ?_) <;> first | (exfalso; simp [Ops.cmp_eq, Ops.not_eq, icmp] at h; done) | (exfalso; simp [Ops.cmp_eq, icmp] at h; omega) | (try cbv))))
      exact hQ _ _ (ReV.ren [0] (.bool true) [.ro 18 xs] rfl rfl rfl ⟨.inr (by rw [hXr]; rfl), trivial⟩ rfl)
    · have hlin := hlin rfl
      rw [hlin] at hB2
      clear hB hc hlin
      (cbv; repeat' (first | (refine ⟨by simp only [Ops.need_eq, needs]; first | rfl | decide, ?_⟩; try cbv) | (refine mt (fun h => ?_) (fun h => ?_) <;> first | (exfalso; simp [Ops.cmp_eq, Ops.not_eq, icmp] at h; done) | (exfalso; simp [Ops.cmp_eq, icmp] at h; omega) | (try cbv))))
      refine ⟨fun m env V => ∃ (i : Nat) (r : Nat → Value), i ≤ n ∧ m = n - i ∧ env = mix [(3, .sl 2 18 0 n (.v 1)), (4, mS (kN i).length), (5, .int .i64 i)] r ∧ V = mV (.ro 18 xs) (.arr 18 ys (.v 1)) ((kN i).map Told.cs) (kN i).length, ⟨n, o.reI (Re.ren [0, 1, 2, 3] _ _ rfl rfl ?_ ?_ fun r => ⟨0, r, Nat.zero_le _, rfl, by rw [hN0], by rw [hN0]⟩)⟩, ?_⟩
      · exact ⟨rfl, rfl, rfl, trivial⟩
      · exact ⟨.inr (by rw [hXr]; rfl), .inr rfl, .inr (by rw [hr]; rfl), .inr rfl, trivial⟩
      rintro m env V ⟨i, r, hin, hm, rfl, rfl⟩
      have hms := m_st (.ro 18 xs) (.arr 18 ys (.v 1)) ((kN i).map Told.cs) (kN i).length
      by_cases hlt : i < n
      · have hi1 := add1 (i := i) (by omega)
        have hgi := hgy i hlt
        have hnx := hnx i hlt
        have hlk := hln i
        have hpk := hpn (i + 1)
        have hpk0 := hpn i
        have hll : ((kN i).map Told.cs).length = (kN i).length := by simp
        have hyn : keepB (zt i) = true → (kN (i + 1)).map Told.cs = (kN i).map Told.cs ++ [(zt i).cs] ∧ (kN (i + 1)).length = (kN i).length + 1 := fun h => by
          rw [hnx, if_pos h]; simp
        have hyo : keepB (zt i) = false → kN (i + 1) = kN i := fun h => by rw [hnx, if_neg (by simp [h])]
        have hkb : keepB (zt i) = (!((zt i).kind == 3) && !((zt i).kind == 6) && (zt i).e == 0) := rfl
        clear hgy hnx hend hB2 hN0 hpn hln
        generalize zt i = u at *
        generalize hzs : (kN i).map Told.cs = zs at *
        generalize hkl : (kN i).length = k at *
        have hrz : ∀ (ρ : Nat → Nat) c, rnB ρ (.arr 18 zs c) = .arr 18 zs (c.rn ρ) := by intro ρ c; simp only [rnB, hpk0 _]
        obtain ⟨u1, u2, u3, u4, u5, u6, u7, u8, u9, u10, u11, u12, u13, u14, u15, u16, u17, u18⟩ := u
        generalize keepB _ = kb at *
        simp only [Told.cs] at hgi hyn hkb
        -- what stays as it is
        have hkc : kb = false ∨ (kb = true ∧ u3 ≠ 3 ∧ u3 ≠ 6 ∧ u13 = 0) := by
          cases kb with
          | false => exact .inl rfl
          | true => right; simp at hkb; exact ⟨rfl, by omega, by omega, by omega⟩
        have hks : kb = false → u3 = 3 ∨ (u3 ≠ 3 ∧ u3 = 6) ∨ (u3 ≠ 3 ∧ u3 ≠ 6 ∧ u13 ≠ 0) := by
          rintro rfl
          simp at hkb
          omega
        clear hkb
        have hsame : ∀ (env : Env) (V : List VB), kb = false → env 3 = .sl 2 18 0 n (.v 1) → env 4 = mS k → env 5 = .int .i64 ((i + 1 : Nat) : Int) → V = mV (.ro 18 xs) (.arr 18 ys (.v 1)) zs k →
            ∃ m', m' < m ∧ o.re ((fun m env V => ∃ (i : Nat) (r : Nat → Value), i ≤ n ∧ m = n - i ∧ env = mix [(3, .sl 2 18 0 n (.v 1)), (4, mS (kN i).length), (5, .int .i64 i)] r ∧ V = mV (.ro 18 xs) (.arr 18 ys (.v 1)) ((kN i).map Told.cs) (kN i).length) m') env V := by
          intro env V hkf h3 h4 h5 hV
          have hyo := hyo hkf
          refine ⟨n - (i + 1), by omega, o.reI ?_⟩
          rcases hms with ⟨hk0, q1, q2⟩ | ⟨hk0, q1, q2⟩
          · rw [hV, q2]
            refine Re.ren [0, 1, 2, 3] [(3, .sl 2 18 0 n (.v 1)), (4, mS k), (5, .int .i64 ((i + 1 : Nat) : Int))] [.ro 18 xs, .num, .arr 18 ys (.v 1), .arr 18 [] (.n 0)] rfl rfl ?_ ?_ fun r => ⟨i + 1, r, by omega, rfl, by rw [hyo, hkl], by rw [hyo, hkl, hzs, q2]⟩
            · exact ⟨h3, by rw [h4, q1]; rfl, h5, trivial⟩
            · exact ⟨.inr (by rw [hXr]; rfl), .inr rfl, .inr (by rw [hr]; rfl), .inr rfl, trivial⟩
          · rw [hV, q2]
            refine Re.ren [0, 1, 2, 3, 4] [(3, .sl 2 18 0 n (.v 1)), (4, mS k), (5, .int .i64 ((i + 1 : Nat) : Int))] [.ro 18 xs, .num, .arr 18 ys (.v 1), .num, .arr 18 zs (.v 3)] rfl rfl ?_ ?_ fun r => ⟨i + 1, r, by omega, rfl, by rw [hyo, hkl], by rw [hyo, hkl, hzs, q2]⟩
            · exact ⟨h3, by rw [h4, q1]; rfl, h5, trivial⟩
            · exact ⟨.inr (by rw [hXr]; rfl), .inr rfl, .inr (by rw [hr]; rfl), .inr rfl, .inr (by rw [hrz]; rfl), trivial⟩
        have hms2 := hms
        rcases hkc with hkf | ⟨hkt, c3, c6, c0⟩
        · have hsame := fun env V => hsame env V hkf
          have hks := hks hkf
          clear hyn hyo hpk hms
          rcases hms2 with ⟨hk0, q1, q2⟩ | ⟨hk0, q1, q2⟩
          all_goals rw [q1, q2] at hsame ⊢
          · rcases hks with c3 | ⟨c3, c6⟩ | ⟨c3, c6, c0⟩
            · (cbv; repeat' (first | (refine ⟨by simp only [Ops.need_eq, needs]; first | rfl | decide, ?_⟩; try cbv) | (refine mt (fun h => ?_) (fun h => ?_) <;> first | (exfalso; simp [Ops.cmp_eq, Ops.not_eq, icmp] at h; done) | (exfalso; simp [Ops.cmp_eq, icmp] at h; omega) | (try cbv))))
              refine ⟨by simp only [Ops.inb_eq]; exact decide_eq_true ⟨by first | exact (Int.natCast_nonneg i) | (simp only [Int.ofNat_eq_natCast]; exact (Int.natCast_nonneg i)), by first | exact (show (i : Int) < n by omega) | (simp only [Int.ofNat_eq_natCast]; exact (show (i : Int) < n by omega))⟩, ?_⟩
              simp only [Int.toNat_natCast, Int.ofNat_eq_natCast, Ops.get_eq, Ops.nadd_eq, Ops.nat_eq, Nat.zero_add, hgi]
              (cbv; repeat' (first | (refine ⟨by simp only [Ops.need_eq, needs]; first | rfl | decide, ?_⟩; try cbv) | (refine mt (fun h => ?_) (fun h => ?_) <;> first | (exfalso; simp [Ops.cmp_eq, Ops.not_eq, icmp] at h; done) | (exfalso; simp [Ops.cmp_eq, icmp] at h; omega) | (try cbv))))
              refine hsame _ _ ?_ ?_ ?_ ?_
              · rfl
              · rfl
              · exact congrArg (VV.int .i64) (by simp only [Ops.ar_eq]; exact hi1)
              · rfl
            · (cbv; repeat' (first | (refine ⟨by simp only [Ops.need_eq, needs]; first | rfl | decide, ?_⟩; try cbv) | (refine mt (fun h => ?_) (fun h => ?_) <;> first | (exfalso; simp [Ops.cmp_eq, Ops.not_eq, icmp] at h; done) | (exfalso; simp [Ops.cmp_eq, icmp] at h; omega) | (try cbv))))
              refine ⟨by simp only [Ops.inb_eq]; exact decide_eq_true ⟨by first | exact (Int.natCast_nonneg i) | (simp only [Int.ofNat_eq_natCast]; exact (Int.natCast_nonneg i)), by first | exact (show (i : Int) < n by omega) | (simp only [Int.ofNat_eq_natCast]; exact (show (i : Int) < n by omega))⟩, ?_⟩
              simp only [Int.toNat_natCast, Int.ofNat_eq_natCast, Ops.get_eq, Ops.nadd_eq, Ops.nat_eq, Nat.zero_add, hgi]
              (cbv; repeat' (first | (refine ⟨by simp only [Ops.need_eq, needs]; first | rfl | decide, ?_⟩; try cbv) | (refine mt (fun h => ?_) (fun h => ?_) <;> first | (exfalso; simp [Ops.cmp_eq, Ops.not_eq, icmp] at h; done) | (exfalso; simp [Ops.cmp_eq, icmp] at h; omega) | (try cbv))))
              refine hsame _ _ ?_ ?_ ?_ ?_
              · rfl
              · rfl
              · exact congrArg (VV.int .i64) (by simp only [Ops.ar_eq]; exact hi1)
              · rfl
            · (cbv; repeat' (first | (refine ⟨by simp only [Ops.need_eq, needs]; first | rfl | decide, ?_⟩; try cbv) | (refine mt (fun h => ?_) (fun h => ?_) <;> first | (exfalso; simp [Ops.cmp_eq, Ops.not_eq, icmp] at h; done) | (exfalso; simp [Ops.cmp_eq, icmp] at h; omega) | (try cbv))))
              refine ⟨by simp only [Ops.inb_eq]; exact decide_eq_true ⟨by first | exact (Int.natCast_nonneg i) | (simp only [Int.ofNat_eq_natCast]; exact (Int.natCast_nonneg i)), by first | exact (show (i : Int) < n by omega) | (simp only [Int.ofNat_eq_natCast]; exact (show (i : Int) < n by omega))⟩, ?_⟩
              simp only [Int.toNat_natCast, Int.ofNat_eq_natCast, Ops.get_eq, Ops.nadd_eq, Ops.nat_eq, Nat.zero_add, hgi]
              (cbv; repeat' (first | (refine ⟨by simp only [Ops.need_eq, needs]; first | rfl | decide, ?_⟩; try cbv) | (refine mt (fun h => ?_) (fun h => ?_) <;> first | (exfalso; simp [Ops.cmp_eq, Ops.not_eq, icmp] at h; done) | (exfalso; simp [Ops.cmp_eq, icmp] at h; omega) | (try cbv))))
              refine ⟨by simp only [Ops.inb_eq]; exact decide_eq_true ⟨by first | exact (Int.natCast_nonneg i) | (simp only [Int.ofNat_eq_natCast]; exact (Int.natCast_nonneg i)), by first | exact (show (i : Int) < n by omega) | (simp only [Int.ofNat_eq_natCast]; exact (show (i : Int) < n by omega))⟩, ?_⟩
              simp only [Int.toNat_natCast, Int.ofNat_eq_natCast, Ops.get_eq, Ops.nadd_eq, Ops.nat_eq, Nat.zero_add, hgi]
              (cbv; repeat' (first | (refine ⟨by simp only [Ops.need_eq, needs]; first | rfl | decide, ?_⟩; try cbv) | (refine mt (fun h => ?_) (fun h => ?_) <;> first | (exfalso; simp [Ops.cmp_eq, Ops.not_eq, icmp] at h; done) | (exfalso; simp [Ops.cmp_eq, icmp] at h; omega) | (try cbv))))
              refine hsame _ _ ?_ ?_ ?_ ?_
              · rfl
              · rfl
              · exact congrArg (VV.int .i64) (by simp only [Ops.ar_eq]; exact hi1)
              · rfl
          · rcases hks with c3 | ⟨c3, c6⟩ | ⟨c3, c6, c0⟩
            · (cbv; repeat' (first | (refine ⟨by simp only [Ops.need_eq, needs]; first | rfl | decide, ?_⟩; try cbv) | (refine mt (fun h => ?_) (fun h => ?_) <;> first | (exfalso; simp [Ops.cmp_eq, Ops.not_eq, icmp] at h; done) | (exfalso; simp [Ops.cmp_eq, icmp] at h; omega) | (try cbv))))
              refine ⟨by simp only [Ops.inb_eq]; exact decide_eq_true ⟨by first | exact (Int.natCast_nonneg i) | (simp only [Int.ofNat_eq_natCast]; exact (Int.natCast_nonneg i)), by first | exact (show (i : Int) < n by omega) | (simp only [Int.ofNat_eq_natCast]; exact (show (i : Int) < n by omega))⟩, ?_⟩
              simp only [Int.toNat_natCast, Int.ofNat_eq_natCast, Ops.get_eq, Ops.nadd_eq, Ops.nat_eq, Nat.zero_add, hgi]
              (cbv; repeat' (first | (refine ⟨by simp only [Ops.need_eq, needs]; first | rfl | decide, ?_⟩; try cbv) | (refine mt (fun h => ?_) (fun h => ?_) <;> first | (exfalso; simp [Ops.cmp_eq, Ops.not_eq, icmp] at h; done) | (exfalso; simp [Ops.cmp_eq, icmp] at h; omega) | (try cbv))))
              refine hsame _ _ ?_ ?_ ?_ ?_
              · rfl
              · rfl
              · exact congrArg (VV.int .i64) (by simp only [Ops.ar_eq]; exact hi1)
              · rfl
            · (cbv; repeat' (first | (refine ⟨by simp only [Ops.need_eq, needs]; first | rfl | decide, ?_⟩; try cbv) | (refine mt (fun h => ?_) (fun h => ?_) <;> first | (exfalso; simp [Ops.cmp_eq, Ops.not_eq, icmp] at h; done) | (exfalso; simp [Ops.cmp_eq, icmp] at h; omega) | (try cbv))))
              refine ⟨by simp only [Ops.inb_eq]; exact decide_eq_true ⟨by first | exact (Int.natCast_nonneg i) | (simp only [Int.ofNat_eq_natCast]; exact (Int.natCast_nonneg i)), by first | exact (show (i : Int) < n by omega) | (simp only [Int.ofNat_eq_natCast]; exact (show (i : Int) < n by omega))⟩, ?_⟩
              simp only [Int.toNat_natCast, Int.ofNat_eq_natCast, Ops.get_eq, Ops.nadd_eq, Ops.nat_eq, Nat.zero_add, hgi]
              (cbv; repeat' (first | (refine ⟨by simp only [Ops.need_eq, needs]; first | rfl | decide, ?_⟩; try cbv) | (refine mt (fun h => ?_) (fun h => ?_) <;> first | (exfalso; simp [Ops.cmp_eq, Ops.not_eq, icmp] at h; done) | (exfalso; simp [Ops.cmp_eq, icmp] at h; omega) | (try cbv))))
              refine hsame _ _ ?_ ?_ ?_ ?_
              · rfl
              · rfl
              · exact congrArg (VV.int .i64) (by simp only [Ops.ar_eq]; exact hi1)
              · rfl
            · (cbv; repeat' (first | (refine ⟨by simp only [Ops.need_eq, needs]; first | rfl | decide, ?_⟩; try cbv) | (refine mt (fun h => ?_) (fun h => ?_) <;> first | (exfalso; simp [Ops.cmp_eq, Ops.not_eq, icmp] at h; done) | (exfalso; simp [Ops.cmp_eq, icmp] at h; omega) | (try cbv))))
              refine ⟨by simp only [Ops.inb_eq]; exact decide_eq_true ⟨by first | exact (Int.natCast_nonneg i) | (simp only [Int.ofNat_eq_natCast]; exact (Int.natCast_nonneg i)), by first | exact (show (i : Int) < n by omega) | (simp only [Int.ofNat_eq_natCast]; exact (show (i : Int) < n by omega))⟩, ?_⟩
              simp only [Int.toNat_natCast, Int.ofNat_eq_natCast, Ops.get_eq, Ops.nadd_eq, Ops.nat_eq, Nat.zero_add, hgi]
              (cbv; repeat' (first | (refine ⟨by simp only [Ops.need_eq, needs]; first | rfl | decide, ?_⟩; try cbv) | (refine mt (fun h => ?_) (fun h => ?_) <;> first | (exfalso; simp [Ops.cmp_eq, Ops.not_eq, icmp] at h; done) | (exfalso; simp [Ops.cmp_eq, icmp] at h; omega) | (try cbv))))
              refine ⟨by simp only [Ops.inb_eq]; exact decide_eq_true ⟨by first | exact (Int.natCast_nonneg i) | (simp only [Int.ofNat_eq_natCast]; exact (Int.natCast_nonneg i)), by first | exact (show (i : Int) < n by omega) | (simp only [Int.ofNat_eq_natCast]; exact (show (i : Int) < n by omega))⟩, ?_⟩
              simp only [Int.toNat_natCast, Int.ofNat_eq_natCast, Ops.get_eq, Ops.nadd_eq, Ops.nat_eq, Nat.zero_add, hgi]
              (cbv; repeat' (first | (refine ⟨by simp only [Ops.need_eq, needs]; first | rfl | decide, ?_⟩; try cbv) | (refine mt (fun h => ?_) (fun h => ?_) <;> first | (exfalso; simp [Ops.cmp_eq, Ops.not_eq, icmp] at h; done) | (exfalso; simp [Ops.cmp_eq, icmp] at h; omega) | (try cbv))))
              refine hsame _ _ ?_ ?_ ?_ ?_
              · rfl
              · rfl
              · exact congrArg (VV.int .i64) (by simp only [Ops.ar_eq]; exact hi1)
              · rfl
        · have hyn2 := hyn hkt
          clear hyn
          obtain ⟨hyn, hyl⟩ := hyn2
          rw [hyn] at hpk
          have hpk : ∀ ρ : Nat → Nat, List.map (rnL ρ) (zs ++ _) = zs ++ _ := hpk
          clear hsame hyo hks hms2
          rcases hms with ⟨hk0, q1, q2⟩ | ⟨hk0, q1, q2⟩
          all_goals
            rw [q1, q2]
            clear q1 q2
            (cbv; repeat' (first | (refine ⟨by simp only [Ops.need_eq, needs]; first | rfl | decide, ?_⟩; try cbv) | (refine mt (fun h => ?_) (fun h => ?_) <;> first | (exfalso; simp [Ops.cmp_eq, Ops.not_eq, icmp] at h; done) | (exfalso; simp [Ops.cmp_eq, icmp] at h; omega) | (try cbv))))
            refine ⟨by simp only [Ops.inb_eq]; exact decide_eq_true ⟨by first | exact (Int.natCast_nonneg i) | (simp only [Int.ofNat_eq_natCast]; exact (Int.natCast_nonneg i)), by first | exact (show (i : Int) < n by omega) | (simp only [Int.ofNat_eq_natCast]; exact (show (i : Int) < n by omega))⟩, ?_⟩
            simp only [Int.toNat_natCast, Int.ofNat_eq_natCast, Ops.get_eq, Ops.nadd_eq, Ops.nat_eq, Nat.zero_add, hgi]
            (cbv; repeat' (first | (refine ⟨by simp only [Ops.need_eq, needs]; first | rfl | decide, ?_⟩; try cbv) | (refine mt (fun h => ?_) (fun h => ?_) <;> first | (exfalso; simp [Ops.cmp_eq, Ops.not_eq, icmp] at h; done) | (exfalso; simp [Ops.cmp_eq, icmp] at h; omega) | (try cbv))))
            refine ⟨by simp only [Ops.inb_eq]; exact decide_eq_true ⟨by first | exact (Int.natCast_nonneg i) | (simp only [Int.ofNat_eq_natCast]; exact (Int.natCast_nonneg i)), by first | exact (show (i : Int) < n by omega) | (simp only [Int.ofNat_eq_natCast]; exact (show (i : Int) < n by omega))⟩, ?_⟩
            simp only [Int.toNat_natCast, Int.ofNat_eq_natCast, Ops.get_eq, Ops.nadd_eq, Ops.nat_eq, Nat.zero_add, hgi]
            (cbv; repeat' (first | (refine ⟨by simp only [Ops.need_eq, needs]; first | rfl | decide, ?_⟩; try cbv) | (refine mt (fun h => ?_) (fun h => ?_) <;> first | (exfalso; simp [Ops.cmp_eq, Ops.not_eq, icmp] at h; done) | (exfalso; simp [Ops.cmp_eq, icmp] at h; omega) | (try cbv))))
            refine ⟨by simp only [Ops.inb_eq]; exact decide_eq_true ⟨by first | exact (Int.natCast_nonneg i) | (simp only [Int.ofNat_eq_natCast]; exact (Int.natCast_nonneg i)), by first | exact (show (i : Int) < n by omega) | (simp only [Int.ofNat_eq_natCast]; exact (show (i : Int) < n by omega))⟩, ?_⟩
            simp only [Int.toNat_natCast, Int.ofNat_eq_natCast, Ops.get_eq, Ops.nadd_eq, Ops.nat_eq, Nat.zero_add, hgi]
            (cbv; repeat' (first | (refine ⟨by simp only [Ops.need_eq, needs]; first | rfl | decide, ?_⟩; try cbv) | (refine mt (fun h => ?_) (fun h => ?_) <;> first | (exfalso; simp [Ops.cmp_eq, Ops.not_eq, icmp] at h; done) | (exfalso; simp [Ops.cmp_eq, icmp] at h; omega) | (try cbv))))
            refine ⟨by simp [o.ll_eq, o.sub_eq], by simp [o.all1_eq, o.sub_eq, allOne, VV.one], ?_⟩
          · refine ⟨⟨by simp [o.ll_eq], by simp [o.nmul_eq], by simp [o.nle_eq, o.nmul_eq, o.nadd_eq]⟩, .inr fun _ => ?_⟩
            (cbv; repeat' (first | (refine ⟨by simp only [Ops.need_eq, needs]; first | rfl | decide, ?_⟩; try cbv) | (refine mt (fun _ => ?_) (fun _ => ?_) <;> (try cbv))))
            refine ⟨n - (i + 1), by omega, o.reI (Re.ren [0, 1, 2, 5, 6] _ _ rfl rfl ?_ ?_ fun r => ⟨i + 1, r, by omega, rfl, rfl, rfl⟩)⟩
            · rw [hyl, hk0]
              exact ⟨rfl, by simp only [Ops.nadd_eq]; rfl, congrArg (VV.int .i64) (by simp only [Ops.ar_eq]; exact hi1), trivial⟩
            · rw [hyl, hk0, hyn]
              refine ⟨.inr (by rw [hXr]; rfl), .inr rfl, .inr (by rw [hr]; rfl), .inr rfl, .inr ?_, trivial⟩
              have hz0 : zs = [] := List.eq_nil_of_length_eq_zero (by omega)
              rw [hz0]
              simp only [Ops.cat_eq, Ops.sub_eq, List.drop_zero, List.take_succ_cons, List.take_zero]
              rfl
          · refine ⟨⟨by simp [o.ll_eq, hll], by simp [o.nle_eq, o.nmul_eq, o.nadd_eq]; omega⟩, ?_⟩
            (cbv; repeat' (first | (refine ⟨by simp only [Ops.need_eq, needs]; first | rfl | decide, ?_⟩; try cbv) | (refine mt (fun _ => ?_) (fun _ => ?_) <;> (try cbv))))
            have hk1 : ∃ k', k = k' + 1 := ⟨k - 1, by omega⟩
            obtain ⟨k', rfl⟩ := hk1
            refine ⟨n - (i + 1), by omega, o.reI (Re.ren [0, 1, 2, 6, 7] _ _ rfl rfl ?_ ?_ fun r => ⟨i + 1, r, by omega, rfl, rfl, rfl⟩)⟩
            · rw [hyl]
              exact ⟨rfl, by simp only [Ops.nadd_eq]; rfl, congrArg (VV.int .i64) (by simp only [Ops.ar_eq]; exact hi1), trivial⟩
            · rw [hyl, hyn]
              refine ⟨.inr (by rw [hXr]; rfl), .inr rfl, .inr (by rw [hr]; rfl), .inr rfl, .inr ?_, trivial⟩
              show some (VB.arr 18 _ _) = some (VB.arr 18 (List.map (rnL _) _) _)
              rw [hpk]
              simp only [Ops.cat_eq, Ops.sub_eq, List.drop_zero, List.take_succ_cons, List.take_zero]
              rfl
      · have hkF : kN i = F := by rw [show i = n by omega]; exact hend
        rw [hkF] at hms ⊢
        clear hnx hend hgy hN0 hpn hln hkF
        have hpf := Told.plain F
        generalize F.map Told.cs = zs at *
        generalize F.length = k at *
        have hrz : ∀ (ρ : Nat → Nat) c, rnB ρ (.arr 18 zs c) = .arr 18 zs (c.rn ρ) := by intro ρ c; simp only [rnB, hpf _]
        rcases hms with ⟨hk, q1, q2⟩ | ⟨hk, q1, q2⟩
        · rw [q1, q2]
          clear q1 q2 hB2
          (cbv; repeat' (first | (refine ⟨by simp only [Ops.need_eq, needs]; first | rfl | decide, ?_⟩; try cbv) | (refine mt (fun h => ?_) (fun h => ?_) <;> first | (exfalso; simp [Ops.cmp_eq, Ops.not_eq, icmp] at h; done) | (exfalso; simp [Ops.cmp_eq, icmp] at h; omega) | (try cbv))))
          refine Ops.call _ [3] LinearA_ev rfl rfl rfl ⟨.inr rfl, trivial⟩ ?_
          rintro v V' ⟨rfl, rfl⟩
          simp only [layB, lset, lapp, List.map_nil, List.map_cons, rn, rnL, Cap.rn]
          (cbv; repeat' (first | (refine ⟨by simp only [Ops.need_eq, needs]; first | rfl | decide, ?_⟩; try cbv) | (refine mt (fun h => ?_) (fun h => ?_) <;> first | (exfalso; simp [Ops.cmp_eq, Ops.not_eq, icmp] at h; done) | (exfalso; simp [Ops.cmp_eq, icmp] at h; omega) | (try cbv))))
          exact hQ _ _ (ReV.ren [0] (.bool true) [.ro 18 xs] rfl rfl rfl ⟨.inr (by rw [hXr]; rfl), trivial⟩ rfl)
        · rw [q1, q2]
          clear q1 q2
          (cbv; repeat' (first | (refine ⟨by simp only [Ops.need_eq, needs]; first | rfl | decide, ?_⟩; try cbv) | (refine mt (fun h => ?_) (fun h => ?_) <;> first | (exfalso; simp [Ops.cmp_eq, Ops.not_eq, icmp] at h; done) | (exfalso; simp [Ops.cmp_eq, icmp] at h; omega) | (try cbv))))
          refine Ops.call _ [3, 4] hB2 rfl rfl rfl ⟨.inr rfl, .inr (by rw [hrz]; rfl), trivial⟩ ?_
          rintro v V' ⟨rfl, rfl⟩
          simp only [layB, lset, lapp, List.map_nil, List.map_cons, hrz, hr2, rn, rnL, Cap.rn]
          (cbv; repeat' (first | (refine ⟨by simp only [Ops.need_eq, needs]; first | rfl | decide, ?_⟩; try cbv) | (refine mt (fun h => ?_) (fun h => ?_) <;> first | (exfalso; simp [Ops.cmp_eq, Ops.not_eq, icmp] at h; done) | (exfalso; simp [Ops.cmp_eq, icmp] at h; omega) | (try cbv))))
          exact hQ _ _ (ReV.ren [0] (.bool true) [.ro 18 xs] rfl rfl rfl ⟨.inr (by rw [hXr]; rfl), trivial⟩ rfl)
end Go.Proofs.Ythoodnlihbaimaa
