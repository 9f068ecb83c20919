/- list: each step of it touches one word at most, the epoch being pinned. -/
import Derived.Test.YtglghdjpkecngaaGreatDA
import Derived.Test.YtglghdjpkecngaaGreatXd
import Derived.Test.YtglghdjpkecngaaGreatIRI
namespace Go.Proofs.YtglghdjpkecngaaGreat
set_option linter.unusedVariables false
set_option linter.unusedSimpArgs false
open Go Go.SL Go.FL
set_option maxRecDepth 100000
theorem wget (l : List Want) (i : Nat) (h : i < l.length) : ∃ w : Want, (l.map Want.cs)[i]? = some [.int .i64 w.who, .int .i64 w.kind, .int .i64 w.key] := ⟨l[i], by simp [List.getElem?_eq_getElem h, Want.cs]⟩
theorem LastB_ev {W0 : World} (m : MemS) : Ev Tryz.prog W0 33 [.ptr 0 0] [bx W0 (memU m)] (fun v V' => v = .agg [.int .i64 m.la, .int .i64 m.lw, .bool m.lc] ∧ V' = [bx W0 (memU m)]) := Ev.boxM (Last_ev m) rfl
theorem Want.plain (l : List Want) : Plain (l.map Want.cs) := Plain.of (fun _ _ => rfl) l
theorem key7 (k : Int) : ∃ n : Nat, arith .and .i64 k 7 = n ∧ n < 8 := by
  have := andIo (n := k) (m := 7) (by omega)
  refine ⟨u64i k &&& 7, this, ?_⟩
  have := Nat.and_le_right (n := u64i k) (m := 7)
  omega
set_option maxHeartbeats 8000000 in
theorem ListSteps_ev {W0 : World} (l : List Want) (oid : Option Nat) (cap : Nat) (ho : oid = some 0 ∨ (oid = none ∧ l = [])) : Ev Tryz.prog W0 10 [.osl oid 3 0 l.length cap] [.ro 3 (l.map Want.cs)] (fun v V' => v = .bool true) := by
  refine Ev.out fun Q' hQ => ev10 rfl fun o => ?_
  obtain ⟨⟨d1, d2, d3, d4⟩, m0, kz, hb, rfl, hLA⟩ := begun_ok 30 (by omega) (by omega)
  obtain ⟨A0, hw⟩ := hLA 8
  have hc : CfgOk (arena 4 (30 : Nat) 12 40).c := by constructor <;> simp only [arena] <;> omega
  have hg := wget l
  have hpl := Want.plain l
  have hE : ∀ i, (arena 4 (30 : Nat) 12 40).v i = .agg [.int .i64 4, .int .i64 30, .int .i64 12, .int .i64 40, .int .i64 100, .int .i64 600, .int .i64 3, .ptr i 0, .int .i64 0] := fun _ => rfl
  have hbe := begun_ev (W0 := W0) (30 : Nat) (by omega) (by omega) hb
  have hNow := fun m => eNow_ev (W0 := W0) m (arena 4 (30 : Nat) 12 40)
  have hStp := fun m s hwf => ListStep_ev (W0 := W0) m (arena 4 (30 : Nat) 12 40) s (lwf_of hwf)
  have hOf := fun a => lOf_ev (W0 := W0) (arena 4 (30 : Nat) 12 40).c a (by simp [arena])
  have hcv : cfgV (arena 4 (30 : Nat) 12 40).c = .agg [.int .i64 4, .int .i64 30, .int .i64 12, .int .i64 40, .int .i64 100, .int .i64 600, .int .i64 3] := rfl
  have hAny : ∀ (m : MemS) (inn : List Bool) (cnt i : Nat) (kind : Int) (key : Nat), LX (arena 4 (30 : Nat) 12 40).c 6 (d2, kz) m inn cnt (i + 1) ((i + 1 : Nat) : Int) → inn.length = 8 → i < 12 → (kind = 1 ∨ kind = 2 ∨ kind = 3) → key < 8 →
      ∃ n s' m' inn' cnt', n ≤ 500 ∧ LRn (arena 4 (30 : Nat) 12 40) 6 n (newList kind key d2) m s' m' ∧ inn'.length = 8 ∧ LX (arena 4 (30 : Nat) 12 40).c 6 (d2, kz) m' inn' cnt' (i + 1 + 1) ((i + 1 + 1 : Nat) : Int) := fun m inn cnt i kind key A h8 hi hk hk2 => by
    obtain ⟨n, s', m', inn', cnt', g1, g2, g3, g4, g5⟩ := A.any hc hw rfl hk (key := key) (by omega) (by omega) (by simp only [arena]; omega) (by simp only [arena]; omega)
    exact ⟨n, s', m', inn', cnt', g1, g2, by omega, g4.weak (by omega) (by omega)⟩
  have hPin : ∀ m inn cnt a b, LX (arena 4 (30 : Nat) 12 40).c 6 (d2, kz) m inn cnt a b → m.peek 6 = 0 := fun m inn cnt a b A => A.pin
  have hpk : ∀ m : MemS, (m.at 6).1 ≠ 0 → m.peek 6 ≠ 0 := fun m h => by
    have hr : m.inR 6 = true := by
      simp only [MemS.at, List.getD_eq_getElem?_getD] at h
      have hl : 6 < m.cs.length := by
        rcases Nat.lt_or_ge 6 m.cs.length with h1 | h1
        · exact h1
        · rw [List.getElem?_eq_none (by simpa using h1)] at h; simp at h
      exact Bool.and_eq_true_iff.2 ⟨rfl, decide_eq_true (by omega)⟩
    simp only [MemS.peek, hr, if_true]; exact h
  have A0 := A0.lx (fun k => by rw [List.getElem?_replicate]; split <;> rfl)
  have S0 := begun_sb 30 (by omega) (by omega) _ _ hb
  have hStepOne : ∀ (n : Nat) (s : ListS) (m : MemS) (s' : ListS) (m' : MemS), LRn (arena 4 (30 : Nat) 12 40) 6 n s m s' m' → ListS.wfb (arena 4 (30 : Nat) 12 40).c s = true ∧ Tk m (s.step (arena 4 (30 : Nat) 12 40) m).2.2 ∧ (ofA (arena 4 (30 : Nat) 12 40).c (s.step (arena 4 (30 : Nat) 12 40) m).2.2.la < 0 ∨ ((s.step (arena 4 (30 : Nat) 12 40) m).2.2.at 6).1 ≠ 0) ∧
      (((s.step (arena 4 (30 : Nat) 12 40) m).1 = true ∧ (s.step (arena 4 (30 : Nat) 12 40) m).2.1 = s' ∧ (s.step (arena 4 (30 : Nat) 12 40) m).2.2 = m') ∨ ((s.step (arena 4 (30 : Nat) 12 40) m).1 = false ∧ ∃ k, n = k + 1 ∧ LRn (arena 4 (30 : Nat) 12 40) 6 k (s.step (arena 4 (30 : Nat) 12 40) m).2.1 (s.step (arena 4 (30 : Nat) 12 40) m).2.2 s' m')) := fun n s m s' m' h => by
    obtain ⟨h1, h2, h3⟩ := h.step1
    exact ⟨h1, ListS.tk s, h2, h3⟩
  simp only [hE] at hbe hNow hStp
  rw [hcv] at hOf
  clear hb hw hc
  generalize arena 4 (30 : Nat) 12 40 = E at *
  generalize hnx : l.length = nx at *
  generalize hxs : l.map Want.cs = xs at *
  have hXr : ∀ ρ, rnB ρ (.ro 3 xs) = .ro 3 xs := fun ρ => by simp only [rnB, hpl _]
  (cbv; repeat' (first | (refine ⟨by simp only [Ops.need_eq, needs]; first | rfl | decide, ?_⟩; try cbv) | (refine mt (fun h => ?_) (fun h => ?_) <;> first | (exfalso; simp [Ops.cmp_eq, Ops.not_eq, icmp] at h; done) | (exfalso; simp [Ops.cmp_eq, icmp] at h; omega) | (try cbv))))
  refine Ops.call _ [] hbe rfl rfl rfl trivial ?_
  rintro v V' ⟨rfl, rfl⟩
  simp only [layB, lapp, List.map_cons, List.map_nil, rnB_bx, rn, rnL]
  generalize hM : bx W0 (memU m0) = M
  (cbv; repeat' (first | (refine ⟨by simp only [Ops.need_eq, needs]; first | rfl | decide, ?_⟩; try cbv) | (refine mt (fun h => ?_) (fun h => ?_) <;> first | (exfalso; simp [Ops.cmp_eq, Ops.not_eq, icmp] at h; done) | (exfalso; simp [Ops.cmp_eq, icmp] at h; omega) | (try cbv))))
  refine Ops.call0 _ (awake16_ev) rfl ?_; rintro v V' ⟨rfl, rfl⟩; simp only [lapp, List.map_nil, rn, rnL]
  (cbv; repeat' (first | (refine ⟨by simp only [Ops.need_eq, needs]; first | rfl | decide, ?_⟩; try cbv) | (refine mt (fun h => ?_) (fun h => ?_) <;> first | (exfalso; simp [Ops.cmp_eq, Ops.not_eq, icmp] at h; done) | (exfalso; simp [Ops.cmp_eq, icmp] at h; omega) | (try cbv))))
  subst hM
  refine ⟨fun mm env V => ∃ (i : Nat) (m : MemS) (inn : List Bool) (cnt : Nat) (r : Nat → Value), i ≤ nx ∧ i ≤ 12 ∧ inn.length = 8 ∧ LX E.c 6 (d2, kz) m inn cnt (i + 1) ((i + 1 : Nat) : Int) ∧ Sb m (200000 + 600 * i) ∧ mm = 12 - i ∧
    env = mix [(0, .osl oid 3 0 nx cap), (3, .ptr 2 0), (4, .int .u64 d2), (6, .int .i64 i)] r ∧ V = [.ro 3 xs, bx W0 (memU m), .cells [.int .i64 4, .int .i64 30, .int .i64 12, .int .i64 40, .int .i64 100, .int .i64 600, .int .i64 3, .ptr 1 0, .int .i64 0]],
    ⟨12, o.reI (Re.ren [0, 1, 2] _ _ rfl rfl ?_ ?_ fun r => ⟨0, m0, List.replicate 8 false, 0, r, Nat.zero_le _, Nat.zero_le _, by simp, A0.weak (Nat.le_refl _) (by decide), S0, rfl, rfl, rfl⟩)⟩, ?_⟩
  · refine ⟨?_, rfl, rfl, rfl, trivial⟩
    rcases ho with rfl | ⟨rfl, _⟩ <;> rfl
  · exact ⟨.inr (by rw [hXr]; rfl), .inr rfl, .inr rfl, trivial⟩
  rintro mm env V ⟨i, m, inn, cnt, r, hi, hi2, h8, A, S, rfl, rfl, rfl⟩
  have hpin := hPin m inn cnt _ _ A
  by_cases hlt : i < nx ∧ i < 12
  · obtain ⟨w, hw⟩ := hg i hlt.1
    obtain rfl : oid = some 0 := by
      rcases ho with h | ⟨_, h⟩
      · exact h
      · subst h; simp at hnx; omega
    obtain ⟨w1, w2, w3⟩ := w
    obtain ⟨ky, hky, hky2⟩ := key7 w3
    have hkd := kind3 w2
    simp only at hkd
    generalize hkk : arith .add .i64 1 (arith .rem .i64 (arith .add .i64 (arith .rem .i64 w2 3) 3) 3) = kd at hkd
    obtain ⟨n, s', mf, inn', cnt', hn5, hRn, h8', A'⟩ := hAny m inn cnt i kd ky A h8 hlt.2 hkd hky2
    have hNew := listNew_ev (W0 := W0) kd ky d2
    rw [show checkList kd ky = true by simp only [checkList, Bool.and_eq_true, decide_eq_true_eq]; omega] at hNew
    simp only [if_true] at hNew
    generalize newList kd ky d2 = s at *
    generalize hM : bx W0 (memU m) = M at *
    (cbv; repeat' (first | (refine ⟨by simp only [Ops.need_eq, needs]; first | rfl | decide, ?_⟩; try cbv) | (refine mt (fun h => ?_) (fun h => ?_) <;> first | (exfalso; simp [Ops.cmp_eq, Ops.not_eq, icmp] at h; done) | (exfalso; simp [Ops.cmp_eq, icmp] at h; omega) | (try cbv))))
    refine ⟨by simp only [Ops.inb_eq]; exact decide_eq_true ⟨by first | exact (Int.natCast_nonneg i) | (simp only [Int.ofNat_eq_natCast]; exact (Int.natCast_nonneg i)), by first | exact (show (i : Int) < nx by omega) | (simp only [Int.ofNat_eq_natCast]; exact (show (i : Int) < nx by omega))⟩, ?_⟩
    simp only [Int.toNat_natCast, Int.ofNat_eq_natCast, Ops.get_eq, Ops.nadd_eq, Ops.nat_eq, Nat.zero_add, (hw)]
    (cbv; repeat' (first | (refine ⟨by simp only [Ops.need_eq, needs]; first | rfl | decide, ?_⟩; try cbv) | (refine mt (fun h => ?_) (fun h => ?_) <;> first | (exfalso; simp [Ops.cmp_eq, Ops.not_eq, icmp] at h; done) | (exfalso; simp [Ops.cmp_eq, icmp] at h; omega) | (try cbv))))
    refine ⟨by simp only [Ops.inb_eq]; exact decide_eq_true ⟨by first | exact (Int.natCast_nonneg i) | (simp only [Int.ofNat_eq_natCast]; exact (Int.natCast_nonneg i)), by first | exact (show (i : Int) < nx by omega) | (simp only [Int.ofNat_eq_natCast]; exact (show (i : Int) < nx by omega))⟩, ?_⟩
    simp only [Int.toNat_natCast, Int.ofNat_eq_natCast, Ops.get_eq, Ops.nadd_eq, Ops.nat_eq, Nat.zero_add, (hw)]
    (cbv; repeat' (first | (refine ⟨by simp only [Ops.need_eq, needs]; first | rfl | decide, ?_⟩; try cbv) | (refine mt (fun h => ?_) (fun h => ?_) <;> first | (exfalso; simp [Ops.cmp_eq, Ops.not_eq, icmp] at h; done) | (exfalso; simp [Ops.cmp_eq, icmp] at h; omega) | (try cbv))))
    simp only [o.ar_eq]
    rw [hkk, hky]
    refine Ops.call _ [] hNew rfl rfl rfl trivial ?_
    rintro v V' ⟨rfl, rfl⟩
    simp only [layB, lset, lapp, List.map_nil, List.map_cons, rnB_bx, rn, rnL]
    generalize hS : bx W0 (listU W0 s) = S1
    refine ⟨by cbv; simp only [Ops.get_eq, hw]; exact ⟨rfl, rfl, trivial⟩, ?_⟩
    clear hkk hky hw
    (cbv; repeat' (first | (refine ⟨by simp only [Ops.need_eq, needs]; first | rfl | decide, ?_⟩; try cbv) | (refine mt (fun h => ?_) (fun h => ?_) <;> first | (exfalso; simp [Ops.cmp_eq, Ops.not_eq, icmp] at h; done) | (exfalso; simp [Ops.cmp_eq, icmp] at h; omega) | (try cbv))))
    subst hM hS
    refine ⟨fun mm env V => ∃ (k : Nat) (s1 : ListS) (m1 : MemS) (n1 : Nat) (r : Nat → Value), n1 + k ≤ n ∧ LRn E 6 n1 s1 m1 s' mf ∧ Sb m1 (200000 + 600 * i + k) ∧ mm = n1 ∧
      env = mix [(0, .osl (some 0) 3 0 nx cap), (3, .ptr 2 0), (4, .int .u64 d2), (6, .int .i64 i), (7, .ptr 3 0), (9, .int .i64 k)] r ∧
      V = [.ro 3 xs, bx W0 (memU m1), .cells [.int .i64 4, .int .i64 30, .int .i64 12, .int .i64 40, .int .i64 100, .int .i64 600, .int .i64 3, .ptr 1 0, .int .i64 0], bx W0 (listU W0 s1)],
      ⟨n, o.reI (Re.ren [0, 1, 2, 3] _ _ rfl rfl ?_ ?_ fun r => ⟨0, s, m, n, r, Nat.le_refl _, hRn, S, rfl, rfl, rfl⟩)⟩, ?_⟩
    · exact ⟨rfl, rfl, rfl, rfl, rfl, rfl, trivial⟩
    · exact ⟨.inr (by rw [hXr]; rfl), .inr rfl, .inr rfl, .inr rfl, trivial⟩
    rintro mm env V ⟨k, s1, m1, n1, r, hk5, hR1, S1, rfl, rfl, rfl⟩
    obtain ⟨hwf, htk, hla, hend⟩ := hStepOne _ _ _ _ _ hR1
    obtain ⟨S2, hs1, hs2⟩ := S1.tk (by omega) htk
    have hN1 := hNow m1
    have hSt := hStp m1 s1 hwf
    have hs0 := S1.1
    have hs3 := S1.2
    generalize hst : s1.step E m1 = st at *
    obtain ⟨rb, s2, m2⟩ := st
    simp only at hla hend S2 hs1 hs2 hSt
    have hN2 := hNow m2
    have hL2 := LastB_ev (W0 := W0) m2
    have hO2 := hOf m2.la
    have hP2 := PeekB_ev (W0 := W0) m2 6
    have hpp : pinA 0 = 6 := by decide
    have hadd : arith .add .i64 m1.steps 1 = m1.steps + 1 := w64_id (by omega) (by omega)
    have hpk2 : ofA E.c m2.la < 0 ∨ m2.peek 6 ≠ 0 := hla.imp id (hpk m2)
    have hn0 : 0 < mm := by
      rcases hend with ⟨h1, h2, h3⟩ | ⟨h1, k, h2, _⟩
      · obtain ⟨k, _, _, h, _⟩ := hR1.ex; omega
      · omega
    generalize ofA E.c m2.la = ov at *
    generalize m2.peek 6 = pk at *
    obtain ⟨la, lw, lc, hlas⟩ : ∃ a b c, (m2.la = a ∧ m2.lw = b) ∧ m2.lc = c := ⟨_, _, _, ⟨rfl, rfl⟩, rfl⟩
    obtain ⟨⟨hl1, hl2⟩, hl3⟩ := hlas
    rw [hl1, hl2, hl3] at hL2
    rw [hl1] at hO2
    generalize hst1 : m1.steps = q1 at *
    generalize hst2 : m2.steps = q2 at *
    generalize hM : bx W0 (memU m1) = M at *
    generalize hS : bx W0 (listU W0 s1) = SS at *
    (cbv; repeat' (first | (refine ⟨by simp only [Ops.need_eq, needs]; first | rfl | decide, ?_⟩; try cbv) | (refine mt (fun h => ?_) (fun h => ?_) <;> first | (exfalso; simp [Ops.cmp_eq, Ops.not_eq, icmp] at h; done) | (exfalso; simp [Ops.cmp_eq, icmp] at h; omega) | (try cbv))))
    refine Ops.call _ [1] hN1 rfl rfl rfl ⟨.inr (by rw [← hM]; rfl), trivial⟩ ?_
    rintro v V' ⟨rfl, rfl⟩
    simp only [layB, lset, lapp, List.map_nil, List.map_cons, rn, rnL]
    rw [← hM, rnB_bx, hM]
    (cbv; repeat' (first | (refine ⟨by simp only [Ops.need_eq, needs]; first | rfl | decide, ?_⟩; try cbv) | (refine mt (fun h => ?_) (fun h => ?_) <;> first | (exfalso; simp [Ops.cmp_eq, Ops.not_eq, icmp] at h; done) | (exfalso; simp [Ops.cmp_eq, icmp] at h; omega) | (try cbv))))
    refine Ops.call _ [1, 3] hSt rfl rfl rfl ⟨.inr (by rw [← hM]; rfl), .inr (by rw [← hS]; rfl), trivial⟩ ?_
    rintro v V' ⟨rfl, rfl⟩
    simp only [layB, lset, lapp, List.map_nil, List.map_cons, rn, rnL, rnB_bx]
    clear hM hS hSt hN1
    generalize hM : bx W0 (memU m2) = M2 at *
    generalize hS : bx W0 (listU W0 s2) = SS2 at *
    (cbv; repeat' (first | (refine ⟨by simp only [Ops.need_eq, needs]; first | rfl | decide, ?_⟩; try cbv) | (refine mt (fun h => ?_) (fun h => ?_) <;> first | (exfalso; simp [Ops.cmp_eq, Ops.not_eq, Ops.beq_eq, icmp, o.ar_eq, hadd] at h; done) | (exfalso; simp [Ops.cmp_eq, Ops.not_eq, Ops.beq_eq, icmp, o.ar_eq, hadd] at h; omega) | (try cbv))))
    refine Ops.call _ [1] hN2 rfl rfl rfl ⟨.inr (by rw [← hM]; rfl), trivial⟩ ?_
    rintro v V' ⟨rfl, rfl⟩
    simp only [layB, lset, lapp, List.map_nil, List.map_cons, rn, rnL]
    rw [← hM, rnB_bx, hM]
    (refine ⟨by first | (cbv; done) | exact trivial | (cbv; trivial), ?_⟩)
    have hcmp : o.cmp .gtr q2 (o.ar .add .i64 q1 1) = false := by simp only [o.cmp_eq, o.ar_eq, icmp, hadd]; exact decide_eq_false (by omega)
    (cbv; repeat' (first | (refine ⟨by simp only [Ops.need_eq, needs]; first | rfl | decide, ?_⟩; try cbv) | (refine mt (fun h => ?_) (fun h => ?_) <;> first | (exfalso; simp [Ops.cmp_eq, Ops.not_eq, Ops.beq_eq, icmp, o.ar_eq, hadd] at h; done) | (exfalso; simp [Ops.cmp_eq, Ops.not_eq, Ops.beq_eq, icmp, o.ar_eq, hadd] at h; omega) | (try cbv))))
    refine Ops.call _ [1] hN2 rfl rfl rfl ⟨.inr (by rw [← hM]; rfl), trivial⟩ ?_
    rintro v V' ⟨rfl, rfl⟩
    simp only [layB, lset, lapp, List.map_nil, List.map_cons, rn, rnL]
    rw [← hM, rnB_bx, hM]
    (refine ⟨by first | (cbv; done) | exact trivial | (cbv; trivial), ?_⟩)
    (cbv; repeat' (first | (refine ⟨by simp only [Ops.need_eq, needs]; first | rfl | decide, ?_⟩; try cbv) | (refine mt (fun h => ?_) (fun h => ?_) <;> first | (exfalso; simp [Ops.cmp_eq, Ops.not_eq, Ops.beq_eq, icmp, o.ar_eq, hadd] at h; done) | (exfalso; simp [Ops.cmp_eq, Ops.not_eq, Ops.beq_eq, icmp, o.ar_eq, hadd] at h; omega) | (try cbv))))
    · refine Ops.call _ [1] hL2 rfl rfl rfl ⟨.inr (by rw [← hM]; rfl), trivial⟩ ?_
      rintro v V' ⟨rfl, rfl⟩
      simp only [layB, lset, lapp, List.map_nil, List.map_cons, rn, rnL]
      rw [← hM, rnB_bx, hM]
      (refine ⟨by first | (cbv; done) | exact trivial | (cbv; trivial), ?_⟩)
      (cbv; repeat' (first | (refine ⟨by simp only [Ops.need_eq, needs]; first | rfl | decide, ?_⟩; try cbv) | (refine mt (fun h => ?_) (fun h => ?_) <;> first | (exfalso; simp [Ops.cmp_eq, Ops.not_eq, Ops.beq_eq, icmp, o.ar_eq, hadd] at h; done) | (exfalso; simp [Ops.cmp_eq, Ops.not_eq, Ops.beq_eq, icmp, o.ar_eq, hadd] at h; omega) | (try cbv))))
      refine Ops.call0 _ (hO2) rfl ?_; rintro v V' ⟨rfl, rfl⟩; simp only [lapp, List.map_nil, rn, rnL]
      (refine ⟨by first | (cbv; done) | exact trivial | (cbv; trivial), ?_⟩)
      (cbv; repeat' (first | (refine ⟨by simp only [Ops.need_eq, needs]; first | rfl | decide, ?_⟩; try cbv) | (refine mt (fun h => ?_) (fun h => ?_) <;> first | (exfalso; simp [Ops.cmp_eq, Ops.not_eq, Ops.beq_eq, icmp, o.ar_eq, hadd] at h; done) | (exfalso; simp [Ops.cmp_eq, Ops.not_eq, Ops.beq_eq, icmp, o.ar_eq, hadd] at h; omega) | (try cbv))))
      · have hov2 : 0 ≤ ov := by simpa [o.cmp_eq, icmp] using h
        have hpk3 : pk ≠ 0 := by omega
        refine Ops.call0 _ (lPin_ev 0) rfl ?_; rintro v V' ⟨rfl, rfl⟩; simp only [lapp, List.map_nil, rn, rnL]
        rw [hpp]
        (refine ⟨by first | (cbv; done) | exact trivial | (cbv; trivial), ?_⟩)
        (cbv; repeat' (first | (refine ⟨by simp only [Ops.need_eq, needs]; first | rfl | decide, ?_⟩; try cbv) | (refine mt (fun h => ?_) (fun h => ?_) <;> first | (exfalso; simp [Ops.cmp_eq, Ops.not_eq, Ops.beq_eq, icmp, o.ar_eq, hadd] at h; done) | (exfalso; simp [Ops.cmp_eq, Ops.not_eq, Ops.beq_eq, icmp, o.ar_eq, hadd] at h; omega) | (try cbv))))
        refine Ops.call _ [1] hP2 rfl rfl rfl ⟨.inr (by rw [← hM]; rfl), trivial⟩ ?_
        rintro v V' ⟨rfl, rfl⟩
        simp only [layB, lset, lapp, List.map_nil, List.map_cons, rn, rnL]
        rw [← hM, rnB_bx, hM]
        (refine ⟨by first | (cbv; done) | exact trivial | (cbv; trivial), ?_⟩)
        (cbv; repeat' (first | (refine ⟨by simp only [Ops.need_eq, needs]; first | rfl | decide, ?_⟩; try cbv) | (refine mt (fun h => ?_) (fun h => ?_) <;> first | (exfalso; simp [Ops.cmp_eq, Ops.not_eq, Ops.beq_eq, icmp, o.ar_eq, hadd] at h; done) | (exfalso; simp [Ops.cmp_eq, Ops.not_eq, Ops.beq_eq, icmp, o.ar_eq, hadd] at h; omega) | (try cbv))))
        · have hrb := h
          obtain ⟨h1, h2, h3⟩ : true = true ∧ s2 = s' ∧ m2 = mf := by
            rcases hend with h9 | ⟨h9, _⟩
            · exact ⟨rfl, h9.2⟩
            · rw [hrb] at h9; cases h9
          subst h3
          refine ⟨12 - (i + 1), by omega, o.reI (Re.ren [0, 1, 2] _ _ rfl rfl ?_ ?_ fun r => ⟨i + 1, m2, inn', cnt', r, by omega, by omega, h8', A', ⟨S2.1, Int.le_trans S2.2 (by (try simp only [cfix]); (try simp only [Int.ofNat_eq_natCast]); omega)⟩, rfl, rfl, rfl⟩)⟩
          · refine ⟨rfl, rfl, rfl, ?_, trivial⟩
            exact congrArg (VV.int .i64) (by simp only [Ops.ar_eq]; exact add1 (i := i) (by omega))
          · exact ⟨.inr (by rw [hXr]; rfl), .inr (by rw [← hM]; rfl), .inr rfl, trivial⟩
        · have hrb := h
          obtain ⟨k', hk', hR'⟩ : ∃ k', mm = k' + 1 ∧ LRn E 6 k' s2 m2 s' mf := by
            rcases hend with ⟨h9, _⟩ | h9
            · rw [hrb] at h9; cases h9
            · exact h9.2
          refine ⟨k', by omega, o.reI (Re.ren [0, 1, 2, 3] _ _ rfl rfl ?_ ?_ fun r => ⟨k + 1, s2, m2, k', r, by omega, hR', S2, rfl, rfl, rfl⟩)⟩
          · refine ⟨rfl, rfl, rfl, rfl, rfl, ?_, trivial⟩
            exact congrArg (VV.int .i64) (by simp only [Ops.ar_eq]; exact add1 (i := k) (by omega))
          · exact ⟨.inr (by rw [hXr]; rfl), .inr (by rw [← hM]; rfl), .inr rfl, .inr (by rw [← hS]; rfl), trivial⟩
      · have hrb := h
        obtain ⟨h1, h2, h3⟩ : true = true ∧ s2 = s' ∧ m2 = mf := by
          rcases hend with h9 | ⟨h9, _⟩
          · exact ⟨rfl, h9.2⟩
          · rw [hrb] at h9; cases h9
        subst h3
        refine ⟨12 - (i + 1), by omega, o.reI (Re.ren [0, 1, 2] _ _ rfl rfl ?_ ?_ fun r => ⟨i + 1, m2, inn', cnt', r, by omega, by omega, h8', A', ⟨S2.1, Int.le_trans S2.2 (by (try simp only [cfix]); (try simp only [Int.ofNat_eq_natCast]); omega)⟩, rfl, rfl, rfl⟩)⟩
        · refine ⟨rfl, rfl, rfl, ?_, trivial⟩
          exact congrArg (VV.int .i64) (by simp only [Ops.ar_eq]; exact add1 (i := i) (by omega))
        · exact ⟨.inr (by rw [hXr]; rfl), .inr (by rw [← hM]; rfl), .inr rfl, trivial⟩
      · have hrb := h
        obtain ⟨k', hk', hR'⟩ : ∃ k', mm = k' + 1 ∧ LRn E 6 k' s2 m2 s' mf := by
          rcases hend with ⟨h9, _⟩ | h9
          · rw [hrb] at h9; cases h9
          · exact h9.2
        refine ⟨k', by omega, o.reI (Re.ren [0, 1, 2, 3] _ _ rfl rfl ?_ ?_ fun r => ⟨k + 1, s2, m2, k', r, by omega, hR', S2, rfl, rfl, rfl⟩)⟩
        · refine ⟨rfl, rfl, rfl, rfl, rfl, ?_, trivial⟩
          exact congrArg (VV.int .i64) (by simp only [Ops.ar_eq]; exact add1 (i := k) (by omega))
        · exact ⟨.inr (by rw [hXr]; rfl), .inr (by rw [← hM]; rfl), .inr rfl, .inr (by rw [← hS]; rfl), trivial⟩
    · have hrb := h
      obtain ⟨h1, h2, h3⟩ : true = true ∧ s2 = s' ∧ m2 = mf := by
        rcases hend with h9 | ⟨h9, _⟩
        · exact ⟨rfl, h9.2⟩
        · rw [hrb] at h9; cases h9
      subst h3
      refine ⟨12 - (i + 1), by omega, o.reI (Re.ren [0, 1, 2] _ _ rfl rfl ?_ ?_ fun r => ⟨i + 1, m2, inn', cnt', r, by omega, by omega, h8', A', ⟨S2.1, Int.le_trans S2.2 (by (try simp only [cfix]); (try simp only [Int.ofNat_eq_natCast]); omega)⟩, rfl, rfl, rfl⟩)⟩
      · refine ⟨rfl, rfl, rfl, ?_, trivial⟩
        exact congrArg (VV.int .i64) (by simp only [Ops.ar_eq]; exact add1 (i := i) (by omega))
      · exact ⟨.inr (by rw [hXr]; rfl), .inr (by rw [← hM]; rfl), .inr rfl, trivial⟩
    · have hrb := h
      obtain ⟨k', hk', hR'⟩ : ∃ k', mm = k' + 1 ∧ LRn E 6 k' s2 m2 s' mf := by
        rcases hend with ⟨h9, _⟩ | h9
        · rw [hrb] at h9; cases h9
        · exact h9.2
      refine ⟨k', by omega, o.reI (Re.ren [0, 1, 2, 3] _ _ rfl rfl ?_ ?_ fun r => ⟨k + 1, s2, m2, k', r, by omega, hR', S2, rfl, rfl, rfl⟩)⟩
      · refine ⟨rfl, rfl, rfl, rfl, rfl, ?_, trivial⟩
        exact congrArg (VV.int .i64) (by simp only [Ops.ar_eq]; exact add1 (i := k) (by omega))
      · exact ⟨.inr (by rw [hXr]; rfl), .inr (by rw [← hM]; rfl), .inr rfl, .inr (by rw [← hS]; rfl), trivial⟩
  · generalize hM : bx W0 (memU m) = M at *
    have hP := PeekB_ev (W0 := W0) m 6
    rw [hpin, hM] at hP
    have hpp : pinA 0 = 6 := by decide
    have hend : nx ≤ i ∨ (i < nx ∧ 12 ≤ i) := by omega
    rcases hend with h1 | ⟨h1, h2⟩
    all_goals
      (cbv; repeat' (first | (refine ⟨by simp only [Ops.need_eq, needs]; first | rfl | decide, ?_⟩; try cbv) | (refine mt (fun h => ?_) (fun h => ?_) <;> first | (exfalso; simp [Ops.cmp_eq, Ops.not_eq, Ops.beq_eq, icmp] at h; done) | (exfalso; simp [Ops.cmp_eq, Ops.not_eq, Ops.beq_eq, icmp] at h; omega) | (try cbv))))
      refine Ops.call0 _ (lPin_ev 0) rfl ?_; rintro v V' ⟨rfl, rfl⟩; simp only [lapp, List.map_nil, rn, rnL]
      rw [hpp]
      (refine ⟨by first | (cbv; done) | exact trivial | (cbv; trivial), ?_⟩)
      (cbv; repeat' (first | (refine ⟨by simp only [Ops.need_eq, needs]; first | rfl | decide, ?_⟩; try cbv) | (refine mt (fun h => ?_) (fun h => ?_) <;> first | (exfalso; simp [Ops.cmp_eq, Ops.not_eq, Ops.beq_eq, icmp] at h; done) | (exfalso; simp [Ops.cmp_eq, Ops.not_eq, Ops.beq_eq, icmp] at h; omega) | (try cbv))))
      refine Ops.call _ [1] hP rfl rfl rfl ⟨.inr (by rw [← hM]; rfl), trivial⟩ ?_
      rintro v V' ⟨rfl, rfl⟩
      simp only [layB, lset, lapp, List.map_nil, List.map_cons, rn, rnL]
      (refine ⟨by first | (cbv; done) | exact trivial | (cbv; trivial), ?_⟩)
      (cbv; repeat' (first | (refine ⟨by simp only [Ops.need_eq, needs]; first | rfl | decide, ?_⟩; try cbv) | (refine mt (fun h => ?_) (fun h => ?_) <;> first | (exfalso; simp [Ops.cmp_eq, Ops.not_eq, Ops.beq_eq, icmp] at h; done) | (exfalso; simp [Ops.cmp_eq, Ops.not_eq, Ops.beq_eq, icmp] at h; omega) | (try cbv))))
      simp only [Ops.cmp_eq, icmp]
      exact hQ _ _ (ReV.ren [0] (.bool true) [.ro 3 xs] rfl rfl rfl ⟨.inr (by rw [hXr]; rfl), trivial⟩ rfl)
end Go.Proofs.YtglghdjpkecngaaGreat
