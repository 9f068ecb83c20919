/- shelf: alone, whatever is asked, in however many lists. -/
import Derived.Test.YtglghdjpkecngaaGreatDA
import Derived.Test.YtglghdjpkecngaaGreatBN
import Derived.Test.YtglghdjpkecngaaGreatXe
import Derived.Test.YtglghdjpkecngaaGreatIRJ
namespace Go.Proofs.YtglghdjpkecngaaGreat
set_option linter.unusedVariables false
set_option linter.unusedSimpArgs false
open Go Go.SL Go.FL
set_option maxRecDepth 100000
theorem lawOf_ev {W0 : World} (key l : Int) (hl : l ≤ 65535) : Ev Tryz.prog W0 42 [.int .i64 key, .int .i64 l] [] (fun v V' => v = .int .i64 (ofS key l) ∧ V' = []) := by
  refine Ev.out fun Q' hQ => ev42 rfl fun o => ?_
  (cbv; repeat' (refine mt (fun _ => ?_) (fun _ => ?_) <;> cbv))
  · rename_i h
    have h1 : l < 1 := by simpa [o.cmp_eq, icmp] using h
    exact hQ _ _ (ReV.none rfl ⟨by rw [ofS, if_pos h1], rfl⟩)
  · rename_i h
    have h1 : ¬ l < 1 := by simpa [o.cmp_eq, icmp] using h
    have hb := ofS_lt (key := key) (show 1 ≤ l by omega)
    rw [ofS, if_neg h1] at hb
    simp only [o.wr_eq, o.ar_eq, o.need_eq, arith, needs, u64w]
    have e1 : (l % 18446744073709551616).tmod 4294967296 = l := by rw [tmod_pos (by omega)]; omega
    have e2 : (key % 18446744073709551616).tmod 4294967296 = key % 4294967296 := by rw [tmod_pos (by omega)]; omega
    rw [e1, e2]
    have e3 : (key % 4294967296 * 2654435769 % 18446744073709551616).tmod 4294967296 = key % 4294967296 * 2654435769 % 4294967296 := by rw [tmod_pos (by omega)]; omega
    rw [e3, tmod_pos (a := key % 4294967296 * 2654435769 % 4294967296) (by omega), w64_id (by omega) (by omega)]
    refine ⟨rfl, rfl, rfl, by simp; omega, ?_⟩
    exact hQ _ _ (ReV.none rfl ⟨by rw [ofS, if_neg h1], rfl⟩)
theorem Want.plain (l : List Want) : Plain (l.map Want.cs) := Plain.of (fun _ _ => rfl) l
theorem wget (l : List Want) (i : Nat) (h : i < l.length) : ∃ w : Want, (l.map Want.cs)[i]? = some [.int .i64 w.who, .int .i64 w.kind, .int .i64 w.key] := ⟨l[i], by simp [List.getElem?_eq_getElem h, Want.cs]⟩
theorem bset (l : List Bool) (i : Nat) (b : Bool) : (l.map bcell).set i [.bool b] = (l.set i b).map bcell := by simp [bcell]
theorem key31 (k : Int) : ∃ n : Nat, arith .and .i64 k 31 = n ∧ n < 32 := by
  have := andIo (n := k) (m := 31) (by omega)
  refine ⟨u64i k &&& 31, this, ?_⟩
  have := Nat.and_le_right (n := u64i k) (m := 31)
  omega
def arr60 (c : Nat) (n : Nat) : EnvS := arena 1 c n 40
set_option maxHeartbeats 8000000 in
theorem ShelfSpreads_ev {W0 : World} (lists : Int) (l : List Want) (oid : Option Nat) (cap : Nat) (ho : oid = some 0 ∨ (oid = none ∧ l = [])) : Ev Tryz.prog W0 11 [.int .i64 lists, .osl oid 3 0 l.length cap] [.ro 3 (l.map Want.cs)] (fun v V' => v = .bool true) := by
  refine Ev.out fun Q' hQ => ev11 rfl fun o => ?_
  obtain ⟨s7, hs7, hs8⟩ : ∃ n : Nat, arith .and .i64 lists 7 = n ∧ n < 8 := by
    have := andIo (n := lists) (m := 7) (by omega)
    refine ⟨u64i lists &&& 7, this, ?_⟩
    have := Nat.and_le_right (n := u64i lists) (m := 7)
    omega
  have hs9 : arith .add .i64 1 (s7 : Int) = ((s7 + 1 : Nat) : Int) := by
    have : arith .add .i64 1 (s7 : Int) = 1 + (s7 : Int) := w64_id (by omega) (by omega)
    rw [this]; omega
  obtain ⟨nn, hnn⟩ : ∃ nn, nn = s7 + 1 := ⟨_, rfl⟩
  rw [← hnn] at hs9
  have hnn1 : 1 ≤ nn ∧ nn ≤ 8 := by omega
  obtain ⟨m0, hfr, -, A0, hw, hc⟩ := shelf_ok 1 60 16 nn (by omega) (by omega) (by omega) (by omega) (by omega) (by omega) (by omega) (by omega)
  have hArena := Arena_ev (W0 := W0) 1 60 16 40 hc
  have hfr : freshShelf (arena (1 : Nat) (60 : Nat) (16 : Nat) 40) nn (freshM (arena (1 : Nat) (60 : Nat) (16 : Nat) 40).c) = some (0, headsL nn, m0) := hfr
  have hg := wget l
  have hpl := Want.plain l
  have hE : ∀ i, (arena (1 : Nat) (60 : Nat) (16 : Nat) 40).v i = .agg [.int .i64 1, .int .i64 60, .int .i64 16, .int .i64 40, .int .i64 100, .int .i64 600, .int .i64 3, .ptr i 0, .int .i64 0] := fun _ => rfl
  have hFr := shelfFresh_ev (W0 := W0) (arena (1 : Nat) (60 : Nat) (16 : Nat) 40) nn _ hfr
  have hne : headsL nn ≠ [] := by simp [headsL]; omega
  have hln := headsL_len nn
  have hNew := fun kind key => shelfNew_ev (W0 := W0) (headsL nn) hne (by omega) kind key
  have hHead := fun key => shelfHead_ev (W0 := W0) (headsL nn) hne (by omega) key
  have hHeads := shelfHeads_ev (W0 := W0) (headsL nn) hne (by omega)
  have hhd : ∀ key : Int, (headsL nn)[(ofS key nn).toNat]?.getD 0 = 65536 + (ofS key nn).toNat := fun key => by
    have := ofS_lt (key := key) (l := nn) (by omega)
    rw [headsL_get _ _ (by omega)]; rfl
  have hOf := fun key => lawOf_ev (W0 := W0) key nn (by omega)
  have hofb := fun key => ofS_lt (key := key) (l := nn) (by omega)
  simp only [hln] at hNew hHead hHeads
  have hStep : ∀ (m : MemS) (inn : List Bool) (i : Nat) (kind : Int) (key : Nat), SX (arena (1 : Nat) (60 : Nat) (16 : Nat) 40).c 6 m (headsL nn) (KnI inn nn) i → inn.length = 32 → i < 50 → (kind = 1 ∨ kind = 2 ∨ kind = 3) → key < 32 →
      ∃ n s' m', n ≤ 1500 ∧ LRn (arena (1 : Nat) (60 : Nat) (16 : Nat) 40) 6 n (newList kind key (65536 + (ofS key nn).toNat)) m s' m' ∧ s'.out.e = 0 ∧ s'.out.v = (if (inn[key]?.getD false == (!decide (kind = 2))) = true then 1 else 0) ∧
        SX (arena (1 : Nat) (60 : Nat) (16 : Nat) 40).c 6 m' (headsL nn) (KnI (if kind = 1 then inn else inn.set key (decide (kind = 2))) nn) (i + 1) := fun m inn i kind key A h32 hi hk hk2 => by
    obtain ⟨n, s', m', g1, g2⟩ := spread_step hc hw rfl A (by omega) hk (key := key) (by omega) (by omega) (by simp only [arena]; omega) (by simp only [arena]; omega) (by simp only [arena]; omega)
    exact ⟨n, s', m', by omega, g2⟩
  have hStepOne : ∀ (n : Nat) (s : ListS) (m : MemS) (s' : ListS) (m' : MemS), LRn (arena (1 : Nat) (60 : Nat) (16 : Nat) 40) 6 n s m s' m' → ListS.wfb (arena (1 : Nat) (60 : Nat) (16 : Nat) 40).c s = true ∧
      (((s.step (arena (1 : Nat) (60 : Nat) (16 : Nat) 40) m).1 = true ∧ (s.step (arena (1 : Nat) (60 : Nat) (16 : Nat) 40) m).2.1 = s' ∧ (s.step (arena (1 : Nat) (60 : Nat) (16 : Nat) 40) m).2.2 = m') ∨ ((s.step (arena (1 : Nat) (60 : Nat) (16 : Nat) 40) m).1 = false ∧ ∃ k, n = k + 1 ∧ LRn (arena (1 : Nat) (60 : Nat) (16 : Nat) 40) 6 k (s.step (arena (1 : Nat) (60 : Nat) (16 : Nat) 40) m).2.1 (s.step (arena (1 : Nat) (60 : Nat) (16 : Nat) 40) m).2.2 s' m')) := fun n s m s' m' h => by
    obtain ⟨h1, h2, h3⟩ := h.step1
    exact ⟨h1, h3⟩
  have hStp := fun m s hwf => ListStep_ev (W0 := W0) m (arena (1 : Nat) (60 : Nat) (16 : Nat) 40) s (lwf_of hwf)
  have hP : ∀ ky : Nat, ky < 32 → ∃ p : Nat, p < nn ∧ (ofS ky nn).toNat = p ∧ Ev Tryz.prog W0 42 [.int .i64 ky, .int .i64 nn] [] (fun v V' => v = .int .i64 (p : Int) ∧ V' = []) ∧
      (∀ kind : Int, (kind = 1 ∨ kind = 2 ∨ kind = 3) → Ev Tryz.prog W0 39 [.ptr 0 0, .int .i64 kind, .int .i64 ky] [bx W0 (shelfU (headsL nn))] (fun v V' => v = .tup [.ptr 1 0, .int .i64 0] ∧ V' = [bx W0 (shelfU (headsL nn)), bx W0 (listU W0 (newList kind ky (65536 + p)))])) ∧
      Ev Tryz.prog W0 40 [.ptr 0 0, .int .i64 ky] [bx W0 (shelfU (headsL nn))] (fun v V' => v = .tup [.int .u64 (65536 + p : Nat), .bool true] ∧ V' = [bx W0 (shelfU (headsL nn))]) ∧
      ((headsL nn).map fun h : Nat => [VV.int .u64 (h : Int)])[p]? = some [VV.int .u64 ((65536 + p : Nat) : Int)] := fun ky hk => by
    have hb := hofb ky
    refine ⟨(ofS ky nn).toNat, by omega, rfl, ?_, fun kind hkd => ?_, ?_, ?_⟩
    · have := hOf ky
      rwa [show (((ofS ky nn).toNat : Nat) : Int) = ofS ky nn by omega]
    · have := hNew kind ky
      rw [hhd ky, show checkList kind ky = true by simp only [checkList, Bool.and_eq_true, decide_eq_true_eq]; omega] at this
      simpa only [if_true] using this
    · have := hHead ky
      rwa [hhd ky] at this
    · rw [List.getElem?_map, headsL_get _ _ (by omega)]; rfl
  have A0 : SX (arena (1 : Nat) (60 : Nat) (16 : Nat) 40).c 6 m0 (headsL nn) (KnI (List.replicate 32 false) nn) 0 := SX.congr A0 fun p k hp => by
    simp only [KnI, List.getElem?_replicate, false_iff]
    intro h
    obtain ⟨_, _, _, h⟩ := h
    split at h <;> cases h
  have hArena : Ev Tryz.prog W0 36 [.int .i64 1, .int .i64 60, .int .i64 16, .int .i64 40] [] (fun v V' => v = .tup [(arena (1 : Nat) (60 : Nat) (16 : Nat) 40).v 0, .bool true] ∧ V' = [bx W0 (memU (freshM (arena (1 : Nat) (60 : Nat) (16 : Nat) 40).c))]) := hArena
  simp only [hE] at hArena hFr hStp
  clear hfr hw hc hs8
  generalize arena (1 : Nat) (60 : Nat) (16 : Nat) 40 = E at *
  generalize hmf : freshM E.c = mf at *
  generalize hnx : l.length = nx at *
  generalize hxs : l.map Want.cs = xs at *
  generalize hHL : headsL nn = HL at *
  have hXr : ∀ ρ, rnB ρ (.ro 3 xs) = .ro 3 xs := fun ρ => by simp only [rnB, hpl _]
  (cbv; repeat' (first | (refine ⟨by simp only [Ops.need_eq, needs]; first | rfl | decide, ?_⟩; try cbv) | (refine mt (fun h => ?_) (fun h => ?_) <;> first | (exfalso; simp [Ops.cmp_eq, Ops.not_eq, icmp] at h; done) | (exfalso; simp [Ops.cmp_eq, icmp] at h; omega) | (try cbv))))
  simp only [o.ar_eq]
  rw [hs7, hs9]
  refine Ops.call _ [] hArena rfl rfl rfl trivial ?_
  rintro v V' ⟨rfl, rfl⟩
  simp only [layB, lapp, List.map_cons, List.map_nil, rnB_bx, rn, rnL]
  generalize hM : bx W0 (memU mf) = M at *
  (cbv; repeat' (first | (refine ⟨by simp only [Ops.need_eq, needs]; first | rfl | decide, ?_⟩; try cbv) | (refine mt (fun h => ?_) (fun h => ?_) <;> first | (exfalso; simp [Ops.cmp_eq, Ops.not_eq, icmp] at h; done) | (exfalso; simp [Ops.cmp_eq, icmp] at h; omega) | (try cbv))))
  refine Ops.call0 _ (awake17_ev) rfl ?_; rintro v V' ⟨rfl, rfl⟩; simp only [lapp, List.map_nil, rn, rnL]
  (cbv; repeat' (first | (refine ⟨by simp only [Ops.need_eq, needs]; first | rfl | decide, ?_⟩; try cbv) | (refine mt (fun h => ?_) (fun h => ?_) <;> first | (exfalso; simp [Ops.cmp_eq, Ops.not_eq, icmp] at h; done) | (exfalso; simp [Ops.cmp_eq, icmp] at h; omega) | (try cbv))))
  refine Ops.call _ [1] hFr rfl rfl rfl ⟨.inr (by rw [← hM]; rfl), trivial⟩ ?_
  intro v V' hr
  simp only [if_true] at hr
  obtain ⟨rfl, rfl⟩ := hr
  simp only [layB, lset, lapp, List.map_nil, List.map_cons, rnB_bx, rn, rnL]
  clear hM
  generalize hS : bx W0 (shelfU HL) = S at *
  have hSr : ∀ ρ, rnB ρ S = S := fun ρ => by rw [← hS]; rfl
  generalize hM : bx W0 (memU m0) = M0
  (cbv; repeat' (first | (refine ⟨by simp only [Ops.need_eq, needs]; first | rfl | decide, ?_⟩; try cbv) | (refine mt (fun h => ?_) (fun h => ?_) <;> first | (exfalso; simp [Ops.cmp_eq, Ops.not_eq, icmp] at h; done) | (exfalso; simp [Ops.cmp_eq, icmp] at h; omega) | (try cbv))))
  refine ⟨by simp [o.inb_eq], ?_⟩
  have hrep : o.rep (o.nat 32) [VV.bool false] = (List.replicate 32 false).map bcell := by simp only [o.rep_eq, o.nat_eq]; rfl
  have hn32 : o.nat 32 = 32 := by simp only [o.nat_eq]; rfl
  have hm32 : o.nmul 32 1 = 32 := by simp only [o.nmul_eq]
  simp only [hn32] at hrep
  simp only [hn32, hm32, hrep]
  subst hM
  refine ⟨fun mm env V => ∃ (i : Nat) (m : MemS) (inn : List Bool) (r : Nat → Value), i ≤ nx ∧ i ≤ 50 ∧ inn.length = 32 ∧ SX E.c 6 m HL (KnI inn nn) i ∧ mm = 50 - i ∧
    env = mix [(1, .osl oid 3 0 nx cap), (5, .int .i64 nn), (6, .ptr 2 0), (8, .ptr 3 0), (10, .sl 4 1 0 32 32), (11, .int .i64 i)] r ∧
    V = [.ro 3 xs, bx W0 (memU m), .cells [.int .i64 1, .int .i64 60, .int .i64 16, .int .i64 40, .int .i64 100, .int .i64 600, .int .i64 3, .ptr 1 0, .int .i64 0], S, .arr 1 (inn.map bcell) 32],
    ⟨50, o.reI (Re.ren [0, 1, 2, 3, 4] _ _ rfl rfl ?_ ?_ fun r => ⟨0, m0, List.replicate 32 false, r, Nat.zero_le _, Nat.zero_le _, by simp, A0, rfl, rfl, rfl⟩)⟩, ?_⟩
  · refine ⟨?_, rfl, rfl, rfl, rfl, rfl, trivial⟩
    rcases ho with rfl | ⟨rfl, _⟩ <;> rfl
  · exact ⟨.inr (by rw [hXr]; rfl), .inr rfl, .inr rfl, .inr (by rw [hSr]; rfl), .inr rfl, trivial⟩
  rintro mm env V ⟨i, m, inn, r, hi, hi2, h32, A, rfl, rfl, rfl⟩
  have hbp := bcell_plain inn
  have hbg := bget inn
  have hbs := bset inn
  generalize hbx : inn.map bcell = bxs at *
  by_cases hlt : i < nx ∧ i < 50
  · obtain ⟨w, hw⟩ := hg i hlt.1
    obtain rfl : oid = some 0 := by
      rcases ho with h | ⟨_, h⟩
      · exact h
      · subst h; simp at hnx; omega
    obtain ⟨w1, w2, w3⟩ := w
    obtain ⟨ky, hky, hky2⟩ := key31 w3
    have hkd := kind3 w2
    simp only at hkd
    generalize hkk : arith .add .i64 1 (arith .rem .i64 (arith .add .i64 (arith .rem .i64 w2 3) 3) 3) = kd at hkd
    obtain ⟨n, s', mf2, hn5, hRn, hde, hdv, A'⟩ := hStep m inn i kd ky A h32 hlt.2 hkd hky2
    obtain ⟨pp, hpp, hpo, hOff, hNw, hHd, hhg⟩ := hP ky hky2
    have hNw := hNw kd hkd
    rw [hpo] at hRn
    have hgk := hbg ky (by rw [h32]; exact hky2)
    have hHp : Plain ((HL.map fun h : Nat => [VV.int .u64 (h : Int)])) := Plain.of (fun _ _ => rfl) HL
    generalize hhh : 65536 + pp = hh at *
    generalize newList kd ky hh = s at *
    generalize hHLx : (HL.map fun h : Nat => [VV.int .u64 (h : Int)]) = HLx at *
    have hHr : ∀ ρ c, rnB ρ (.arr 1 HLx c) = .arr 1 HLx (c.rn ρ) := fun ρ c => by simp only [rnB, hHp _]
    generalize hM : bx W0 (memU m) = M at *
    (cbv; repeat' (first | (refine ⟨by simp only [Ops.need_eq, needs]; first | rfl | decide, ?_⟩; try cbv) | (refine mt (fun h => ?_) (fun h => ?_) <;> first | (exfalso; simp [Ops.cmp_eq, Ops.not_eq, icmp] at h; done) | (exfalso; simp [Ops.cmp_eq, icmp] at h; omega) | (try cbv))))
    refine ⟨by simp only [Ops.inb_eq]; exact decide_eq_true ⟨by first | exact (Int.natCast_nonneg i) | (simp only [Int.ofNat_eq_natCast]; exact (Int.natCast_nonneg i)), by first | exact (show (i : Int) < nx by omega) | (simp only [Int.ofNat_eq_natCast]; exact (show (i : Int) < nx by omega))⟩, ?_⟩
    simp only [Int.toNat_natCast, Int.ofNat_eq_natCast, Ops.get_eq, Ops.nadd_eq, Ops.nat_eq, Nat.zero_add, (hw)]
    (cbv; repeat' (first | (refine ⟨by simp only [Ops.need_eq, needs]; first | rfl | decide, ?_⟩; try cbv) | (refine mt (fun h => ?_) (fun h => ?_) <;> first | (exfalso; simp [Ops.cmp_eq, Ops.not_eq, icmp] at h; done) | (exfalso; simp [Ops.cmp_eq, icmp] at h; omega) | (try cbv))))
    refine ⟨by simp only [Ops.inb_eq]; exact decide_eq_true ⟨by first | exact (Int.natCast_nonneg i) | (simp only [Int.ofNat_eq_natCast]; exact (Int.natCast_nonneg i)), by first | exact (show (i : Int) < nx by omega) | (simp only [Int.ofNat_eq_natCast]; exact (show (i : Int) < nx by omega))⟩, ?_⟩
    simp only [Int.toNat_natCast, Int.ofNat_eq_natCast, Ops.get_eq, Ops.nadd_eq, Ops.nat_eq, Nat.zero_add, (hw)]
    (cbv; repeat' (first | (refine ⟨by simp only [Ops.need_eq, needs]; first | rfl | decide, ?_⟩; try cbv) | (refine mt (fun h => ?_) (fun h => ?_) <;> first | (exfalso; simp [Ops.cmp_eq, Ops.not_eq, icmp] at h; done) | (exfalso; simp [Ops.cmp_eq, icmp] at h; omega) | (try cbv))))
    simp only [o.ar_eq]
    rw [hkk, hky]
    clear hkk hky hw
    refine Ops.call _ [3] hNw rfl rfl rfl ⟨.inr (by rw [hSr]; rfl), trivial⟩ ?_
    rintro v V' ⟨rfl, rfl⟩
    simp only [layB, lset, lapp, List.map_nil, List.map_cons, rnB_bx, rn, rnL, hSr]
    generalize hL : bx W0 (listU W0 s) = L1
    have hLr : ∀ ρ, rnB ρ L1 = L1 := fun ρ => by rw [← hL]; rfl
    (cbv; repeat' (first | (refine ⟨by simp only [Ops.need_eq, needs]; first | rfl | decide, ?_⟩; try cbv) | (refine mt (fun h => ?_) (fun h => ?_) <;> first | (exfalso; simp [Ops.cmp_eq, Ops.not_eq, icmp] at h; done) | (exfalso; simp [Ops.cmp_eq, icmp] at h; omega) | (try cbv))))
    refine Ops.call _ [3] hHd rfl rfl rfl ⟨.inr (by rw [hSr]; rfl), trivial⟩ ?_
    rintro v V' ⟨rfl, rfl⟩
    simp only [layB, lset, lapp, List.map_nil, List.map_cons, rn, rnL, hSr]
    (cbv; repeat' (first | (refine ⟨by simp only [Ops.need_eq, needs]; first | rfl | decide, ?_⟩; try cbv) | (refine mt (fun h => ?_) (fun h => ?_) <;> first | (exfalso; simp [Ops.cmp_eq, Ops.not_eq, Ops.beq_eq, icmp] at h; done) | (exfalso; simp [Ops.cmp_eq, Ops.not_eq, Ops.beq_eq, icmp] at h; omega) | (try cbv))))
    refine Ops.call _ [3] hHeads rfl rfl rfl ⟨.inr (by rw [hSr]; rfl), trivial⟩ ?_
    rintro v V' ⟨rfl, rfl⟩
    simp only [layB, lset, lapp, List.map_nil, List.map_cons, rn, rnL, hSr, hHr, Cap.rn]
    (cbv; repeat' (first | (refine ⟨by simp only [Ops.need_eq, needs]; first | rfl | decide, ?_⟩; try cbv) | (refine mt (fun h => ?_) (fun h => ?_) <;> first | (exfalso; simp [Ops.cmp_eq, Ops.not_eq, Ops.beq_eq, icmp] at h; done) | (exfalso; simp [Ops.cmp_eq, Ops.not_eq, Ops.beq_eq, icmp] at h; omega) | (try cbv))))
    refine Ops.call _ [] hOff rfl rfl rfl trivial ?_
    rintro v V' ⟨rfl, rfl⟩
    simp only [layB, lapp, List.map_nil]
    (cbv; repeat' (first | (refine ⟨by simp only [Ops.need_eq, needs]; first | rfl | decide, ?_⟩; try cbv) | (refine mt (fun h => ?_) (fun h => ?_) <;> first | (exfalso; simp [Ops.cmp_eq, Ops.not_eq, Ops.beq_eq, icmp] at h; done) | (exfalso; simp [Ops.cmp_eq, Ops.not_eq, Ops.beq_eq, icmp] at h; omega) | (try cbv))))
    refine ⟨by simp only [Ops.inb_eq]; exact decide_eq_true ⟨by first | exact (Int.natCast_nonneg pp) | (simp only [Int.ofNat_eq_natCast]; exact (Int.natCast_nonneg pp)), by first | exact (show (pp : Int) < nn by omega) | (simp only [Int.ofNat_eq_natCast]; exact (show (pp : Int) < nn by omega))⟩, ?_⟩
    simp only [Int.toNat_natCast, Int.ofNat_eq_natCast, Ops.get_eq, Ops.nadd_eq, Ops.nat_eq, Nat.zero_add, (hhg)]
    (cbv; repeat' (first | (refine ⟨by simp only [Ops.need_eq, needs]; first | rfl | decide, ?_⟩; try cbv) | (refine mt (fun h => ?_) (fun h => ?_) <;> first | (exfalso; simp [Ops.cmp_eq, Ops.not_eq, Ops.beq_eq, icmp] at h; done) | (exfalso; simp [Ops.cmp_eq, Ops.not_eq, Ops.beq_eq, icmp] at h; omega) | (try cbv))))
    have hnk : ky < inn.length := by omega
    subst hM hL
    refine ⟨fun mm env V => ∃ (k : Nat) (s1 : ListS) (m1 : MemS) (n1 : Nat) (r : Nat → Value), n1 + k ≤ n ∧ LRn E 6 n1 s1 m1 s' mf2 ∧ mm = n1 ∧
      env = mix [(1, .osl (some 0) 3 0 nx cap), (5, .int .i64 nn), (6, .ptr 2 0), (8, .ptr 3 0), (10, .sl 4 1 0 32 32), (11, .int .i64 i), (12, .int .i64 kd), (13, .int .i64 ky), (14, .ptr 5 0), (18, .int .i64 k)] r ∧
      V = [.ro 3 xs, bx W0 (memU m1), .cells [.int .i64 1, .int .i64 60, .int .i64 16, .int .i64 40, .int .i64 100, .int .i64 600, .int .i64 3, .ptr 1 0, .int .i64 0], S, .arr 1 bxs 32, bx W0 (listU W0 s1)],
      ⟨n, o.reI (Re.ren [0, 1, 2, 3, 4, 5] _ _ rfl rfl ?_ ?_ fun r => ⟨0, s, m, n, r, Nat.le_refl _, hRn, rfl, rfl, rfl⟩)⟩, ?_⟩
    · exact ⟨rfl, rfl, rfl, rfl, rfl, rfl, rfl, rfl, rfl, rfl, trivial⟩
    · exact ⟨.inr (by rw [hXr]; rfl), .inr rfl, .inr rfl, .inr (by rw [hSr]; rfl), .inr (by simp only [rnB, hbp _, Cap.rn]; rfl), .inr rfl, trivial⟩
    rintro mm env V ⟨k, s1, m1, n1, r, hk5, hR1, rfl, rfl, rfl⟩
    obtain ⟨hwf, hend⟩ := hStepOne _ _ _ _ _ hR1
    have hSt := hStp m1 s1 hwf
    generalize hst : s1.step E m1 = st at *
    obtain ⟨rb, s2, m2⟩ := st
    simp only at hend hSt
    generalize hM : bx W0 (memU m1) = M at *
    generalize hL : bx W0 (listU W0 s1) = L1 at *
    have hk20 : k < 20000 := by omega
    (cbv; repeat' (first | (refine ⟨by simp only [Ops.need_eq, needs]; first | rfl | decide, ?_⟩; try cbv) | (refine mt (fun h => ?_) (fun h => ?_) <;> first | (exfalso; simp [Ops.cmp_eq, Ops.not_eq, Ops.beq_eq, icmp] at h; done) | (exfalso; simp [Ops.cmp_eq, Ops.not_eq, Ops.beq_eq, icmp] at h; omega) | (try cbv))))
    refine Ops.call _ [1, 5] hSt rfl rfl rfl ⟨.inr (by rw [← hM]; rfl), .inr (by rw [← hL]; rfl), trivial⟩ ?_
    rintro v V' ⟨rfl, rfl⟩
    simp only [layB, lset, lapp, List.map_nil, List.map_cons, rn, rnL, rnB_bx]
    clear hM hL hSt
    generalize hM : bx W0 (memU m2) = M2 at *
    cases rb with
    | false =>
      obtain ⟨k', hk', hR'⟩ : ∃ k', mm = k' + 1 ∧ LRn E 6 k' s2 m2 s' mf2 := by
        rcases hend with ⟨h9, _⟩ | h9
        · cases h9
        · exact h9.2
      generalize hL : bx W0 (listU W0 s2) = L2 at *
      (cbv; repeat' (first | (refine ⟨by simp only [Ops.need_eq, needs]; first | rfl | decide, ?_⟩; try cbv) | (refine mt (fun h => ?_) (fun h => ?_) <;> first | (exfalso; simp [Ops.cmp_eq, Ops.not_eq, Ops.beq_eq, icmp] at h; done) | (exfalso; simp [Ops.cmp_eq, Ops.not_eq, Ops.beq_eq, icmp] at h; omega) | (try cbv))))
      refine ⟨k', by omega, o.reI (Re.ren [0, 1, 2, 3, 4, 5] _ _ rfl rfl ?_ ?_ fun r => ⟨k + 1, s2, m2, k', r, by omega, hR', rfl, rfl, rfl⟩)⟩
      · refine ⟨rfl, rfl, rfl, rfl, rfl, rfl, rfl, rfl, rfl, ?_, trivial⟩
        exact congrArg (VV.int .i64) (by simp only [Ops.ar_eq]; exact add1 (i := k) (by omega))
      · exact ⟨.inr (by rw [hXr]; rfl), .inr (by rw [← hM]; rfl), .inr rfl, .inr (by rw [hSr]; rfl), .inr (by simp only [rnB, hbp _, Cap.rn]; rfl), .inr (by rw [← hL]; rfl), trivial⟩
    | true =>
      obtain ⟨rfl, rfl⟩ : s2 = s' ∧ m2 = mf2 := by
        rcases hend with h9 | ⟨h9, _⟩
        · exact h9.2
        · cases h9
      have hDn := listDone_ev (W0 := W0) s2
      generalize hL : bx W0 (listU W0 s2) = L2 at *
      generalize s2.out = dd at *
      obtain ⟨x1, x2, x3, x4⟩ := dd
      simp only at hde hdv
      subst hde
      generalize hb : inn[ky]?.getD false = b at *
      rcases hkd with rfl | rfl | rfl
      · rw [if_pos rfl] at A'
        cases b <;> simp at hdv <;> subst hdv
        all_goals
          (cbv; repeat' (first | (refine ⟨by simp only [Ops.need_eq, needs]; first | rfl | decide, ?_⟩; try cbv) | (refine mt (fun h => ?_) (fun h => ?_) <;> first | (exfalso; simp [Ops.cmp_eq, Ops.not_eq, Ops.beq_eq, icmp] at h; done) | (exfalso; simp [Ops.cmp_eq, Ops.not_eq, Ops.beq_eq, icmp] at h; omega) | (try cbv))))
          refine ⟨by simp only [Ops.inb_eq]; exact decide_eq_true ⟨by first | exact (Int.natCast_nonneg ky) | (simp only [Int.ofNat_eq_natCast]; exact (Int.natCast_nonneg ky)), by first | exact (show (ky : Int) < 32 by omega) | (simp only [Int.ofNat_eq_natCast]; exact (show (ky : Int) < 32 by omega))⟩, ?_⟩
          simp only [Int.toNat_natCast, Int.ofNat_eq_natCast, Ops.get_eq, Ops.nadd_eq, Ops.nat_eq, Nat.zero_add, (hgk)]
          (cbv; repeat' (first | (refine ⟨by simp only [Ops.need_eq, needs]; first | rfl | decide, ?_⟩; try cbv) | (refine mt (fun h => ?_) (fun h => ?_) <;> first | (exfalso; simp [Ops.cmp_eq, Ops.not_eq, Ops.beq_eq, icmp] at h; done) | (exfalso; simp [Ops.cmp_eq, Ops.not_eq, Ops.beq_eq, icmp] at h; omega) | (try cbv))))
          refine Ops.call _ [5] hDn rfl rfl rfl ⟨.inr (by rw [← hL]; rfl), trivial⟩ ?_
          rintro v V' ⟨rfl, rfl⟩
          simp only [layB, lset, lapp, List.map_nil, List.map_cons, rn, rnL, doneV]
          rw [← hL, rnB_bx, hL]
          (cbv; repeat' (first | (refine ⟨by simp only [Ops.need_eq, needs]; first | rfl | decide, ?_⟩; try cbv) | (refine mt (fun h => ?_) (fun h => ?_) <;> first | (exfalso; simp [Ops.cmp_eq, Ops.not_eq, Ops.beq_eq, icmp] at h; done) | (exfalso; simp [Ops.cmp_eq, Ops.not_eq, Ops.beq_eq, icmp] at h; omega) | (try cbv))))
          refine ⟨50 - (i + 1), by omega, o.reI (Re.ren [0, 1, 2, 3, 4] _ _ rfl rfl ?_ ?_ fun r => ⟨i + 1, m2, inn, r, by omega, by omega, h32, A', rfl, rfl, rfl⟩)⟩
          · refine ⟨rfl, rfl, rfl, rfl, rfl, ?_, trivial⟩
            exact congrArg (VV.int .i64) (by simp only [Ops.ar_eq]; exact add1 (i := i) (by omega))
          · exact ⟨.inr (by rw [hXr]; rfl), .inr (by rw [← hM]; rfl), .inr rfl, .inr (by rw [hSr]; rfl), .inr (by rw [hbx]; simp only [rnB, hbp _, Cap.rn]; rfl), trivial⟩
      · rw [if_neg (by decide), show decide ((2 : Int) = 2) = true by decide] at A'
        cases b <;> simp at hdv <;> subst hdv
        all_goals
          (cbv; repeat' (first | (refine ⟨by simp only [Ops.need_eq, needs]; first | rfl | decide, ?_⟩; try cbv) | (refine mt (fun h => ?_) (fun h => ?_) <;> first | (exfalso; simp [Ops.cmp_eq, Ops.not_eq, Ops.beq_eq, icmp] at h; done) | (exfalso; simp [Ops.cmp_eq, Ops.not_eq, Ops.beq_eq, icmp] at h; omega) | (try cbv))))
          refine ⟨by simp only [Ops.inb_eq]; exact decide_eq_true ⟨by first | exact (Int.natCast_nonneg ky) | (simp only [Int.ofNat_eq_natCast]; exact (Int.natCast_nonneg ky)), by first | exact (show (ky : Int) < 32 by omega) | (simp only [Int.ofNat_eq_natCast]; exact (show (ky : Int) < 32 by omega))⟩, ?_⟩
          simp only [Int.toNat_natCast, Int.ofNat_eq_natCast, Ops.get_eq, Ops.nadd_eq, Ops.nat_eq, Nat.zero_add, (hgk)]
          (cbv; repeat' (first | (refine ⟨by simp only [Ops.need_eq, needs]; first | rfl | decide, ?_⟩; try cbv) | (refine mt (fun h => ?_) (fun h => ?_) <;> first | (exfalso; simp [Ops.cmp_eq, Ops.not_eq, Ops.beq_eq, icmp] at h; done) | (exfalso; simp [Ops.cmp_eq, Ops.not_eq, Ops.beq_eq, icmp] at h; omega) | (try cbv))))
          refine Ops.call _ [5] hDn rfl rfl rfl ⟨.inr (by rw [← hL]; rfl), trivial⟩ ?_
          rintro v V' ⟨rfl, rfl⟩
          simp only [layB, lset, lapp, List.map_nil, List.map_cons, rn, rnL, doneV]
          rw [← hL, rnB_bx, hL]
          (cbv; repeat' (first | (refine ⟨by simp only [Ops.need_eq, needs]; first | rfl | decide, ?_⟩; try cbv) | (refine mt (fun h => ?_) (fun h => ?_) <;> first | (exfalso; simp [Ops.cmp_eq, Ops.not_eq, Ops.beq_eq, icmp] at h; done) | (exfalso; simp [Ops.cmp_eq, Ops.not_eq, Ops.beq_eq, icmp] at h; omega) | (try cbv))))
          refine ⟨by simp only [Ops.inb_eq]; exact decide_eq_true ⟨by first | exact (Int.natCast_nonneg ky) | (simp only [Int.ofNat_eq_natCast]; exact (Int.natCast_nonneg ky)), by first | exact (show (ky : Int) < 32 by omega) | (simp only [Int.ofNat_eq_natCast]; exact (show (ky : Int) < 32 by omega))⟩, ?_⟩
          simp only [Int.toNat_natCast, Int.ofNat_eq_natCast, Ops.get_eq, Ops.nadd_eq, Ops.nat_eq, Nat.zero_add, (hgk)]
          (cbv; repeat' (first | (refine ⟨by simp only [Ops.need_eq, needs]; first | rfl | decide, ?_⟩; try cbv) | (refine mt (fun h => ?_) (fun h => ?_) <;> first | (exfalso; simp [Ops.cmp_eq, Ops.not_eq, Ops.beq_eq, icmp] at h; done) | (exfalso; simp [Ops.cmp_eq, Ops.not_eq, Ops.beq_eq, icmp] at h; omega) | (try cbv))))
          refine ⟨50 - (i + 1), by omega, o.reI (Re.ren [0, 1, 2, 3, 4] _ _ rfl rfl ?_ ?_ fun r => ⟨i + 1, m2, inn.set ky true, r, by omega, by omega, by simp [h32], A', rfl, rfl, rfl⟩)⟩
          · refine ⟨rfl, rfl, rfl, rfl, rfl, ?_, trivial⟩
            exact congrArg (VV.int .i64) (by simp only [Ops.ar_eq]; exact add1 (i := i) (by omega))
          · refine ⟨.inr (by rw [hXr]; rfl), .inr (by rw [← hM]; rfl), .inr rfl, .inr (by rw [hSr]; rfl), .inr ?_, trivial⟩
            have e2 : o.cmp .eql 2 2 = true := by simp only [o.cmp_eq, icmp]; rfl
            have hp2 := bcell_plain (inn.set ky true)
            rw [← hbs] at hp2 ⊢
            show some (VB.arr 1 (o.set bxs _ [VV.bool (o.cmp .eql 2 2)]) 32) = _
            simp only [o.set_eq]; rw [e2]
            simp only [rnB, hp2 _, Cap.rn]
            rfl
      · rw [if_neg (by decide), show decide ((3 : Int) = 2) = false by decide] at A'
        cases b <;> simp at hdv <;> subst hdv
        all_goals
          (cbv; repeat' (first | (refine ⟨by simp only [Ops.need_eq, needs]; first | rfl | decide, ?_⟩; try cbv) | (refine mt (fun h => ?_) (fun h => ?_) <;> first | (exfalso; simp [Ops.cmp_eq, Ops.not_eq, Ops.beq_eq, icmp] at h; done) | (exfalso; simp [Ops.cmp_eq, Ops.not_eq, Ops.beq_eq, icmp] at h; omega) | (try cbv))))
          refine ⟨by simp only [Ops.inb_eq]; exact decide_eq_true ⟨by first | exact (Int.natCast_nonneg ky) | (simp only [Int.ofNat_eq_natCast]; exact (Int.natCast_nonneg ky)), by first | exact (show (ky : Int) < 32 by omega) | (simp only [Int.ofNat_eq_natCast]; exact (show (ky : Int) < 32 by omega))⟩, ?_⟩
          simp only [Int.toNat_natCast, Int.ofNat_eq_natCast, Ops.get_eq, Ops.nadd_eq, Ops.nat_eq, Nat.zero_add, (hgk)]
          (cbv; repeat' (first | (refine ⟨by simp only [Ops.need_eq, needs]; first | rfl | decide, ?_⟩; try cbv) | (refine mt (fun h => ?_) (fun h => ?_) <;> first | (exfalso; simp [Ops.cmp_eq, Ops.not_eq, Ops.beq_eq, icmp] at h; done) | (exfalso; simp [Ops.cmp_eq, Ops.not_eq, Ops.beq_eq, icmp] at h; omega) | (try cbv))))
          refine Ops.call _ [5] hDn rfl rfl rfl ⟨.inr (by rw [← hL]; rfl), trivial⟩ ?_
          rintro v V' ⟨rfl, rfl⟩
          simp only [layB, lset, lapp, List.map_nil, List.map_cons, rn, rnL, doneV]
          rw [← hL, rnB_bx, hL]
          (cbv; repeat' (first | (refine ⟨by simp only [Ops.need_eq, needs]; first | rfl | decide, ?_⟩; try cbv) | (refine mt (fun h => ?_) (fun h => ?_) <;> first | (exfalso; simp [Ops.cmp_eq, Ops.not_eq, Ops.beq_eq, icmp] at h; done) | (exfalso; simp [Ops.cmp_eq, Ops.not_eq, Ops.beq_eq, icmp] at h; omega) | (try cbv))))
          refine ⟨by simp only [Ops.inb_eq]; exact decide_eq_true ⟨by first | exact (Int.natCast_nonneg ky) | (simp only [Int.ofNat_eq_natCast]; exact (Int.natCast_nonneg ky)), by first | exact (show (ky : Int) < 32 by omega) | (simp only [Int.ofNat_eq_natCast]; exact (show (ky : Int) < 32 by omega))⟩, ?_⟩
          simp only [Int.toNat_natCast, Int.ofNat_eq_natCast, Ops.get_eq, Ops.nadd_eq, Ops.nat_eq, Nat.zero_add, (hgk)]
          (cbv; repeat' (first | (refine ⟨by simp only [Ops.need_eq, needs]; first | rfl | decide, ?_⟩; try cbv) | (refine mt (fun h => ?_) (fun h => ?_) <;> first | (exfalso; simp [Ops.cmp_eq, Ops.not_eq, Ops.beq_eq, icmp] at h; done) | (exfalso; simp [Ops.cmp_eq, Ops.not_eq, Ops.beq_eq, icmp] at h; omega) | (try cbv))))
          refine ⟨50 - (i + 1), by omega, o.reI (Re.ren [0, 1, 2, 3, 4] _ _ rfl rfl ?_ ?_ fun r => ⟨i + 1, m2, inn.set ky false, r, by omega, by omega, by simp [h32], A', rfl, rfl, rfl⟩)⟩
          · refine ⟨rfl, rfl, rfl, rfl, rfl, ?_, trivial⟩
            exact congrArg (VV.int .i64) (by simp only [Ops.ar_eq]; exact add1 (i := i) (by omega))
          · refine ⟨.inr (by rw [hXr]; rfl), .inr (by rw [← hM]; rfl), .inr rfl, .inr (by rw [hSr]; rfl), .inr ?_, trivial⟩
            have e2 : o.cmp .eql 3 2 = false := by simp only [o.cmp_eq, icmp]; rfl
            have hp2 := bcell_plain (inn.set ky false)
            rw [← hbs] at hp2 ⊢
            show some (VB.arr 1 (o.set bxs _ [VV.bool (o.cmp .eql 3 2)]) 32) = _
            simp only [o.set_eq]; rw [e2]
            simp only [rnB, hp2 _, Cap.rn]
            rfl
  · have hend : nx ≤ i ∨ (i < nx ∧ 50 ≤ i) := by omega
    generalize hM : bx W0 (memU m) = M at *
    rcases hend with h1 | ⟨h1, h2⟩
    all_goals
      (cbv; repeat' (first | (refine ⟨by simp only [Ops.need_eq, needs]; first | rfl | decide, ?_⟩; try cbv) | (refine mt (fun h => ?_) (fun h => ?_) <;> first | (exfalso; simp [Ops.cmp_eq, Ops.not_eq, Ops.beq_eq, icmp] at h; done) | (exfalso; simp [Ops.cmp_eq, Ops.not_eq, Ops.beq_eq, icmp] at h; omega) | (try cbv))))
      exact hQ _ _ (ReV.ren [0] (.bool true) [.ro 3 xs] rfl rfl rfl ⟨.inr (by rw [hXr]; rfl), trivial⟩ rfl)
end Go.Proofs.YtglghdjpkecngaaGreat
