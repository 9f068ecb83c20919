/- shelf: a key that came in is in its own list, and in no other one. -/
import Derived.Test.YtglghdjpkecngaaGreatDA
import Derived.Test.YtglghdjpkecngaaGreatBN
import Derived.Test.YtglghdjpkecngaaGreatXe
import Derived.Test.YtglghdjpkecngaaGreatIRJ
import Derived.Test.YtglghdjpkecngaaGreatIRK
namespace Go.Proofs.YtglghdjpkecngaaGreat
set_option linter.unusedVariables false
set_option linter.unusedSimpArgs false
open Go Go.SL Go.FL
set_option maxRecDepth 100000
theorem lawOf_ev {W0 : World} (key l : Int) (hl : l ≤ 65535) : Ev Tryz.prog W0 42 [.int .i64 key, .int .i64 l] [] (fun v V' => v = .int .i64 (ofS key l) ∧ V' = []) := by
  refine Ev.out fun Q' hQ => ev42 rfl fun o => ?_
  (cbv; repeat' (refine mt (fun _ => ?_) (fun _ => ?_) <;> cbv))
  · rename_i h
    have h1 : l < 1 := by simpa [o.cmp_eq, icmp] using h
    exact hQ _ _ (ReV.none rfl ⟨by rw [ofS, if_pos h1], rfl⟩)
  · rename_i h
    have h1 : ¬ l < 1 := by simpa [o.cmp_eq, icmp] using h
    have hb := ofS_lt (key := key) (show 1 ≤ l by omega)
    rw [ofS, if_neg h1] at hb
    simp only [o.wr_eq, o.ar_eq, o.need_eq, arith, needs, u64w]
    have e1 : (l % 18446744073709551616).tmod 4294967296 = l := by rw [tmod_pos (by omega)]; omega
    have e2 : (key % 18446744073709551616).tmod 4294967296 = key % 4294967296 := by rw [tmod_pos (by omega)]; omega
    rw [e1, e2]
    have e3 : (key % 4294967296 * 2654435769 % 18446744073709551616).tmod 4294967296 = key % 4294967296 * 2654435769 % 4294967296 := by rw [tmod_pos (by omega)]; omega
    rw [e3, tmod_pos (a := key % 4294967296 * 2654435769 % 4294967296) (by omega), w64_id (by omega) (by omega)]
    refine ⟨rfl, rfl, rfl, by simp; omega, ?_⟩
    exact hQ _ _ (ReV.none rfl ⟨by rw [ofS, if_neg h1], rfl⟩)
set_option maxHeartbeats 8000000 in
theorem ShelfApart_ev {W0 : World} (lists key : Int) : Ev Tryz.prog W0 13 [.int .i64 lists, .int .i64 key] [] (fun v V' => v = .bool true ∧ V' = []) := by
  refine Ev.out fun Q' hQ => ev13 rfl fun o => ?_
  obtain ⟨s3, hs3, hs4⟩ : ∃ n : Nat, arith .and .i64 lists 3 = n ∧ n < 4 := by
    have := andIo (n := lists) (m := 3) (by omega)
    refine ⟨u64i lists &&& 3, this, ?_⟩
    have := Nat.and_le_right (n := u64i lists) (m := 3)
    omega
  obtain ⟨ky, hky, hky2⟩ : ∃ n : Nat, arith .and .i64 key 65535 = n ∧ n < 65536 := by
    have := andIo (n := key) (m := 65535) (by omega)
    refine ⟨u64i key &&& 65535, this, ?_⟩
    have := Nat.and_le_right (n := u64i key) (m := 65535)
    omega
  have hs9 : arith .add .i64 2 (s3 : Int) = ((s3 + 2 : Nat) : Int) := by
    have : arith .add .i64 2 (s3 : Int) = 2 + (s3 : Int) := w64_id (by omega) (by omega)
    rw [this]; omega
  obtain ⟨nn, hnn⟩ : ∃ nn, nn = s3 + 2 := ⟨_, rfl⟩
  rw [← hnn] at hs9
  have hnn1 : 2 ≤ nn ∧ nn ≤ 5 := by omega
  obtain ⟨m0, hfr, -, A0, hw, hc⟩ := shelf_ok 1 30 8 nn (by omega) (by omega) (by omega) (by omega) (by omega) (by omega) (by omega) (by omega)
  have hArena := Arena_ev (W0 := W0) 1 30 8 40 hc
  have hfr : freshShelf (arena (1 : Nat) (30 : Nat) (8 : Nat) 40) nn (freshM (arena (1 : Nat) (30 : Nat) (8 : Nat) 40).c) = some (0, headsL nn, m0) := hfr
  have hE : ∀ i, (arena (1 : Nat) (30 : Nat) (8 : Nat) 40).v i = .agg [.int .i64 1, .int .i64 30, .int .i64 8, .int .i64 40, .int .i64 100, .int .i64 600, .int .i64 3, .ptr i 0, .int .i64 0] := fun _ => rfl
  have hFr := shelfFresh_ev (W0 := W0) (arena (1 : Nat) (30 : Nat) (8 : Nat) 40) nn _ hfr
  have hne : headsL nn ≠ [] := by simp [headsL]; omega
  have hln := headsL_len nn
  have hNew := fun kind key => shelfNew_ev (W0 := W0) (headsL nn) hne (by omega) kind key
  have hHeads := shelfHeads_ev (W0 := W0) (headsL nn) hne (by omega)
  have hhd : ∀ key : Int, (headsL nn)[(ofS key nn).toNat]?.getD 0 = 65536 + (ofS key nn).toNat := fun key => by
    have := ofS_lt (key := key) (l := nn) (by omega)
    rw [headsL_get _ _ (by omega)]; rfl
  simp only [hln] at hNew hHeads
  obtain ⟨pp, hpp, hOf, hNw⟩ : ∃ p : Nat, p < nn ∧ Ev Tryz.prog W0 42 [.int .i64 ky, .int .i64 nn] [] (fun v V' => v = .int .i64 (p : Int) ∧ V' = []) ∧
      Ev Tryz.prog W0 39 [.ptr 0 0, .int .i64 2, .int .i64 ky] [bx W0 (shelfU (headsL nn))] (fun v V' => v = .tup [.ptr 1 0, .int .i64 0] ∧ V' = [bx W0 (shelfU (headsL nn)), bx W0 (listU W0 (newList 2 ky (65536 + p)))]) := by
    have hb := ofS_lt (key := ky) (l := nn) (by omega)
    refine ⟨(ofS ky nn).toNat, by omega, ?_, ?_⟩
    · have := lawOf_ev (W0 := W0) ky nn (by omega)
      rwa [show (((ofS ky nn).toNat : Nat) : Int) = ofS ky nn by omega]
    · have := hNew 2 ky
      rw [hhd ky, show checkList 2 ky = true by simp only [checkList, Bool.and_eq_true, decide_eq_true_eq]; omega] at this
      simpa only [if_true] using this
  obtain ⟨n, s', mf2, hn5, hRn, A1⟩ := apart_add hc hw rfl A0 hpp hky2 (by simp only [arena]; omega) (by simp only [arena]; omega) (by simp only [arena]; omega)
  have hAskP : ∀ (m : MemS) (i : Nat), SX (arena (1 : Nat) (30 : Nat) (8 : Nat) 40).c 6 m (headsL nn) (fun p' k' => p' = pp ∧ k' = (ky : Int)) (i + 1) → i < nn → ∃ h s m', FL.ask (arena (1 : Nat) (30 : Nat) (8 : Nat) 40) (65536 + i) 1 ky m = some (⟨0, h, if i = pp then 1 else 0, s⟩, m') ∧ SX (arena (1 : Nat) (30 : Nat) (8 : Nat) 40).c 6 m' (headsL nn) (fun p' k' => p' = pp ∧ k' = (ky : Int)) (i + 1 + 1) := fun m i A hi =>
    apart_has hc hw rfl A hi hky2 (by simp only [arena]; omega) (by simp only [arena]; omega) (by simp only [arena]; omega) (by omega)
  have hAsk := fun head m (d : DoneS) m' h => Ask_ev (W0 := W0) (arena (1 : Nat) (30 : Nat) (8 : Nat) 40) head 1 ky m (d := d) (m' := m') h
  have hStepOne : ∀ (n : Nat) (s : ListS) (m : MemS) (s' : ListS) (m' : MemS), LRn (arena (1 : Nat) (30 : Nat) (8 : Nat) 40) 6 n s m s' m' → ListS.wfb (arena (1 : Nat) (30 : Nat) (8 : Nat) 40).c s = true ∧
      (((s.step (arena (1 : Nat) (30 : Nat) (8 : Nat) 40) m).1 = true ∧ (s.step (arena (1 : Nat) (30 : Nat) (8 : Nat) 40) m).2.1 = s' ∧ (s.step (arena (1 : Nat) (30 : Nat) (8 : Nat) 40) m).2.2 = m') ∨ ((s.step (arena (1 : Nat) (30 : Nat) (8 : Nat) 40) m).1 = false ∧ ∃ k, n = k + 1 ∧ LRn (arena (1 : Nat) (30 : Nat) (8 : Nat) 40) 6 k (s.step (arena (1 : Nat) (30 : Nat) (8 : Nat) 40) m).2.1 (s.step (arena (1 : Nat) (30 : Nat) (8 : Nat) 40) m).2.2 s' m')) := fun n s m s' m' h => by
    obtain ⟨h1, h2, h3⟩ := h.step1
    exact ⟨h1, h3⟩
  have hStp := fun m s hwf => ListStep_ev (W0 := W0) m (arena (1 : Nat) (30 : Nat) (8 : Nat) 40) s (lwf_of hwf)
  have hArena : Ev Tryz.prog W0 36 [.int .i64 1, .int .i64 30, .int .i64 8, .int .i64 40] [] (fun v V' => v = .tup [(arena (1 : Nat) (30 : Nat) (8 : Nat) 40).v 0, .bool true] ∧ V' = [bx W0 (memU (freshM (arena (1 : Nat) (30 : Nat) (8 : Nat) 40).c))]) := hArena
  simp only [hE] at hArena hFr hStp hAsk
  have hhg : ∀ i, i < nn → ((headsL nn).map fun h : Nat => [VV.int .u64 (h : Int)])[i]? = some [VV.int .u64 ((65536 + i : Nat) : Int)] := fun i hi => by rw [List.getElem?_map, headsL_get _ _ hi]; rfl
  clear hfr hw hc hs4
  generalize (arena (1 : Nat) (30 : Nat) (8 : Nat) 40) = E at *
  generalize hmf : freshM E.c = mf at *
  generalize hHL : headsL nn = HL at *
  have hHp : Plain ((HL.map fun h : Nat => [VV.int .u64 (h : Int)])) := Plain.of (fun _ _ => rfl) HL
  generalize hHLx : (HL.map fun h : Nat => [VV.int .u64 (h : Int)]) = HLx at *
  have hHr : ∀ ρ c, rnB ρ (.arr 1 HLx c) = .arr 1 HLx (c.rn ρ) := fun ρ c => by simp only [rnB, hHp _]
  generalize hsl : newList 2 ky (65536 + pp) = s at *
  (cbv; repeat' (first | (refine ⟨by simp only [Ops.need_eq, needs]; first | rfl | decide, ?_⟩; try cbv) | (refine mt (fun h => ?_) (fun h => ?_) <;> first | (exfalso; simp [Ops.cmp_eq, Ops.not_eq, icmp] at h; done) | (exfalso; simp [Ops.cmp_eq, icmp] at h; omega) | (try cbv))))
  simp only [o.ar_eq]
  rw [hs3, hs9, hky]
  refine Ops.call _ [] hArena rfl rfl rfl trivial ?_
  rintro v V' ⟨rfl, rfl⟩
  simp only [layB, lapp, List.map_cons, List.map_nil, rnB_bx, rn, rnL]
  generalize hM : bx W0 (memU mf) = M at *
  (cbv; repeat' (first | (refine ⟨by simp only [Ops.need_eq, needs]; first | rfl | decide, ?_⟩; try cbv) | (refine mt (fun h => ?_) (fun h => ?_) <;> first | (exfalso; simp [Ops.cmp_eq, Ops.not_eq, icmp] at h; done) | (exfalso; simp [Ops.cmp_eq, icmp] at h; omega) | (try cbv))))
  refine Ops.call0 _ (awake17_ev) rfl ?_; rintro v V' ⟨rfl, rfl⟩; simp only [lapp, List.map_nil, rn, rnL]
  (cbv; repeat' (first | (refine ⟨by simp only [Ops.need_eq, needs]; first | rfl | decide, ?_⟩; try cbv) | (refine mt (fun h => ?_) (fun h => ?_) <;> first | (exfalso; simp [Ops.cmp_eq, Ops.not_eq, icmp] at h; done) | (exfalso; simp [Ops.cmp_eq, icmp] at h; omega) | (try cbv))))
  refine Ops.call _ [0] hFr rfl rfl rfl ⟨.inr (by rw [← hM]; rfl), trivial⟩ ?_
  intro v V' hr
  simp only [if_true] at hr
  obtain ⟨rfl, rfl⟩ := hr
  simp only [layB, lset, lapp, List.map_nil, List.map_cons, rnB_bx, rn, rnL]
  clear hM
  generalize hS : bx W0 (shelfU HL) = S at *
  have hSr : ∀ ρ, rnB ρ S = S := fun ρ => by rw [← hS]; rfl
  generalize hM : bx W0 (memU m0) = M0
  (cbv; repeat' (first | (refine ⟨by simp only [Ops.need_eq, needs]; first | rfl | decide, ?_⟩; try cbv) | (refine mt (fun h => ?_) (fun h => ?_) <;> first | (exfalso; simp [Ops.cmp_eq, Ops.not_eq, Ops.beq_eq, icmp] at h; done) | (exfalso; simp [Ops.cmp_eq, Ops.not_eq, Ops.beq_eq, icmp] at h; omega) | (try cbv))))
  refine Ops.call _ [2] hNw rfl rfl rfl ⟨.inr (by rw [hSr]; rfl), trivial⟩ ?_
  rintro v V' ⟨rfl, rfl⟩
  simp only [layB, lset, lapp, List.map_nil, List.map_cons, rnB_bx, rn, rnL, hSr]
  (cbv; repeat' (first | (refine ⟨by simp only [Ops.need_eq, needs]; first | rfl | decide, ?_⟩; try cbv) | (refine mt (fun h => ?_) (fun h => ?_) <;> first | (exfalso; simp [Ops.cmp_eq, Ops.not_eq, Ops.beq_eq, icmp] at h; done) | (exfalso; simp [Ops.cmp_eq, Ops.not_eq, Ops.beq_eq, icmp] at h; omega) | (try cbv))))
  subst hM
  refine ⟨fun mm env V => ∃ (k : Nat) (s1 : ListS) (m1 : MemS) (n1 : Nat) (r : Nat → Value), n1 + k ≤ n ∧ LRn E 6 n1 s1 m1 s' mf2 ∧ mm = n1 ∧
    env = mix [(5, .int .i64 nn), (6, .int .i64 ky), (7, .ptr 1 0), (9, .ptr 2 0), (11, .ptr 3 0), (13, .int .i64 k)] r ∧
    V = [bx W0 (memU m1), .cells [.int .i64 1, .int .i64 30, .int .i64 8, .int .i64 40, .int .i64 100, .int .i64 600, .int .i64 3, .ptr 0 0, .int .i64 0], S, bx W0 (listU W0 s1)],
    ⟨n, o.reI (Re.ren [0, 1, 2, 3] _ _ rfl rfl ?_ ?_ fun r => ⟨0, s, m0, n, r, Nat.le_refl _, hRn, rfl, rfl, rfl⟩)⟩, ?_⟩
  · exact ⟨rfl, rfl, rfl, rfl, rfl, rfl, trivial⟩
  · exact ⟨.inr rfl, .inr rfl, .inr (by rw [hSr]; rfl), .inr rfl, trivial⟩
  rintro mm env V ⟨k, s1, m1, n1, r, hk5, hR1, rfl, rfl, rfl⟩
  obtain ⟨hwf, hend⟩ := hStepOne _ _ _ _ _ hR1
  have hSt := hStp m1 s1 hwf
  generalize hst : s1.step E m1 = st at *
  obtain ⟨rb, s2, m2⟩ := st
  simp only at hend hSt
  generalize hM : bx W0 (memU m1) = M at *
  generalize hL : bx W0 (listU W0 s1) = L1 at *
  have hk20 : k < 500 := by
    rcases hend with _ | ⟨_, k2, h2, _⟩
    · obtain ⟨k3, _, _, h3, _⟩ := hR1.ex; omega
    · omega
  (cbv; repeat' (first | (refine ⟨by simp only [Ops.need_eq, needs]; first | rfl | decide, ?_⟩; try cbv) | (refine mt (fun h => ?_) (fun h => ?_) <;> first | (exfalso; simp [Ops.cmp_eq, Ops.not_eq, Ops.beq_eq, icmp] at h; done) | (exfalso; simp [Ops.cmp_eq, Ops.not_eq, Ops.beq_eq, icmp] at h; omega) | (try cbv))))
  refine Ops.call _ [0, 3] hSt rfl rfl rfl ⟨.inr (by rw [← hM]; rfl), .inr (by rw [← hL]; rfl), trivial⟩ ?_
  rintro v V' ⟨rfl, rfl⟩
  simp only [layB, lset, lapp, List.map_nil, List.map_cons, rn, rnL, rnB_bx]
  clear hM hL hSt
  generalize hM : bx W0 (memU m2) = M2 at *
  cases rb with
  | false =>
    obtain ⟨k', hk', hR'⟩ : ∃ k', mm = k' + 1 ∧ LRn E 6 k' s2 m2 s' mf2 := by
      rcases hend with ⟨h9, _⟩ | h9
      · cases h9
      · exact h9.2
    generalize hL : bx W0 (listU W0 s2) = L2 at *
    (cbv; repeat' (first | (refine ⟨by simp only [Ops.need_eq, needs]; first | rfl | decide, ?_⟩; try cbv) | (refine mt (fun h => ?_) (fun h => ?_) <;> first | (exfalso; simp [Ops.cmp_eq, Ops.not_eq, Ops.beq_eq, icmp] at h; done) | (exfalso; simp [Ops.cmp_eq, Ops.not_eq, Ops.beq_eq, icmp] at h; omega) | (try cbv))))
    refine ⟨k', by omega, o.reI (Re.ren [0, 1, 2, 3] _ _ rfl rfl ?_ ?_ fun r => ⟨k + 1, s2, m2, k', r, by omega, hR', rfl, rfl, rfl⟩)⟩
    · refine ⟨rfl, rfl, rfl, rfl, rfl, ?_, trivial⟩
      exact congrArg (VV.int .i64) (by simp only [Ops.ar_eq]; exact add1 (i := k) (by omega))
    · exact ⟨.inr (by rw [← hM]; rfl), .inr rfl, .inr (by rw [hSr]; rfl), .inr (by rw [← hL]; rfl), trivial⟩
  | true =>
    obtain ⟨rfl, rfl⟩ : s2 = s' ∧ m2 = mf2 := by
      rcases hend with h9 | ⟨h9, _⟩
      · exact h9.2
      · cases h9
    generalize hL : bx W0 (listU W0 s2) = L2 at *
    (cbv; repeat' (first | (refine ⟨by simp only [Ops.need_eq, needs]; first | rfl | decide, ?_⟩; try cbv) | (refine mt (fun h => ?_) (fun h => ?_) <;> first | (exfalso; simp [Ops.cmp_eq, Ops.not_eq, Ops.beq_eq, icmp] at h; done) | (exfalso; simp [Ops.cmp_eq, Ops.not_eq, Ops.beq_eq, icmp] at h; omega) | (try cbv))))
    refine Ops.call _ [2] hHeads rfl rfl rfl ⟨.inr (by rw [hSr]; rfl), trivial⟩ ?_
    rintro v V' ⟨rfl, rfl⟩
    simp only [layB, lset, lapp, List.map_nil, List.map_cons, rn, rnL, hSr, hHr, Cap.rn]
    (cbv; repeat' (first | (refine ⟨by simp only [Ops.need_eq, needs]; first | rfl | decide, ?_⟩; try cbv) | (refine mt (fun h => ?_) (fun h => ?_) <;> first | (exfalso; simp [Ops.cmp_eq, Ops.not_eq, Ops.beq_eq, icmp] at h; done) | (exfalso; simp [Ops.cmp_eq, Ops.not_eq, Ops.beq_eq, icmp] at h; omega) | (try cbv))))
    subst hM
    refine ⟨fun mm env V => ∃ (i : Nat) (m : MemS) (r : Nat → Value), i ≤ nn ∧ SX E.c 6 m HL (fun p' k' => p' = pp ∧ k' = (ky : Int)) (i + 1) ∧ mm = nn - i ∧
      env = mix [(5, .int .i64 nn), (6, .int .i64 ky), (7, .ptr 1 0), (14, .sl 2 1 0 nn (.v 3)), (15, .int .i64 (if pp < i then 1 else 0)), (16, .int .i64 i)] r ∧
      V = [bx W0 (memU m), .cells [.int .i64 1, .int .i64 30, .int .i64 8, .int .i64 40, .int .i64 100, .int .i64 600, .int .i64 3, .ptr 0 0, .int .i64 0], .arr 1 HLx (.v 3), .num],
      ⟨nn, o.reI (Re.ren [0, 1, 4, 5] _ _ rfl rfl ?_ ?_ fun r => ⟨0, m2, r, Nat.zero_le _, A1, rfl, rfl, rfl⟩)⟩, ?_⟩
    · exact ⟨rfl, rfl, rfl, rfl, by rw [if_neg (Nat.not_lt_zero _)]; rfl, rfl, trivial⟩
    · exact ⟨.inr rfl, .inr rfl, .inr (by rw [hHr]; rfl), .inr rfl, trivial⟩
    rintro mm env V ⟨i, m, r, hi, A, rfl, rfl, rfl⟩
    generalize hM : bx W0 (memU m) = M at *
    by_cases hlt : i < nn
    · obtain ⟨h5, st5, m5, hask, A5⟩ := hAskP m i A hlt
      have hAk := hAsk _ _ _ _ hask
      have hgi := hhg i hlt
      rw [hM] at hAk
      generalize h65536 : 65536 + i = hdi at *
      generalize hi0 : (if pp < i then (1 : Int) else 0) = inv at *
      have fin : (i = pp ∧ inv = 0) ∨ (i ≠ pp ∧ inv = (if pp < i + 1 then (1 : Int) else 0)) := by
        by_cases h : i = pp
        · left; refine ⟨h, ?_⟩; rw [← hi0, if_neg (by omega)]
        · right; refine ⟨h, ?_⟩
          rw [← hi0]
          by_cases h2 : pp < i
          · rw [if_pos h2, if_pos (by omega)]
          · rw [if_neg h2, if_neg (by omega)]
      rcases fin with ⟨rfl, rfl⟩ | ⟨hne, hiv⟩
      · rw [if_pos rfl] at hAk
        (cbv; repeat' (first | (refine ⟨by simp only [Ops.need_eq, needs]; first | rfl | decide, ?_⟩; try cbv) | (refine mt (fun h => ?_) (fun h => ?_) <;> first | (exfalso; simp [Ops.cmp_eq, Ops.not_eq, Ops.beq_eq, icmp] at h; done) | (exfalso; simp [Ops.cmp_eq, Ops.not_eq, Ops.beq_eq, icmp] at h; omega) | (try cbv))))
        refine ⟨by simp only [Ops.inb_eq]; exact decide_eq_true ⟨by first | exact (Int.natCast_nonneg i) | (simp only [Int.ofNat_eq_natCast]; exact (Int.natCast_nonneg i)), by first | exact (show (i : Int) < nn by omega) | (simp only [Int.ofNat_eq_natCast]; exact (show (i : Int) < nn by omega))⟩, ?_⟩
        simp only [Int.toNat_natCast, Int.ofNat_eq_natCast, Ops.get_eq, Ops.nadd_eq, Ops.nat_eq, Nat.zero_add, (hgi)]
        (cbv; repeat' (first | (refine ⟨by simp only [Ops.need_eq, needs]; first | rfl | decide, ?_⟩; try cbv) | (refine mt (fun h => ?_) (fun h => ?_) <;> first | (exfalso; simp [Ops.cmp_eq, Ops.not_eq, Ops.beq_eq, icmp] at h; done) | (exfalso; simp [Ops.cmp_eq, Ops.not_eq, Ops.beq_eq, icmp] at h; omega) | (try cbv))))
        refine Ops.call _ [0] hAk rfl rfl rfl ⟨.inr (by rw [← hM]; rfl), trivial⟩ ?_
        rintro v V' ⟨rfl, rfl⟩
        simp only [layB, lset, lapp, List.map_nil, List.map_cons, rnB_bx, doneV, rn, rnL]
        clear hM hAk hask
        generalize hM : bx W0 (memU m5) = M5
        refine ⟨by first | (cbv; done) | (cbv; simp only [Ops.get_eq, hgi]; done) | (cbv; simp only [Ops.get_eq, hgi]; exact ⟨rfl, trivial⟩), ?_⟩
        (cbv; repeat' (first | (refine ⟨by simp only [Ops.need_eq, needs]; first | rfl | decide, ?_⟩; try cbv) | (refine mt (fun h => ?_) (fun h => ?_) <;> first | (exfalso; simp [Ops.cmp_eq, Ops.not_eq, Ops.beq_eq, icmp] at h; done) | (exfalso; simp [Ops.cmp_eq, Ops.not_eq, Ops.beq_eq, icmp] at h; omega) | (try cbv))))
        refine Ops.call _ [] hOf rfl rfl rfl trivial ?_
        rintro v V' ⟨rfl, rfl⟩
        simp only [layB, lapp, List.map_nil]
        (cbv; repeat' (first | (refine ⟨by simp only [Ops.need_eq, needs]; first | rfl | decide, ?_⟩; try cbv) | (refine mt (fun h => ?_) (fun h => ?_) <;> first | (exfalso; simp [Ops.cmp_eq, Ops.not_eq, Ops.beq_eq, icmp] at h; done) | (exfalso; simp [Ops.cmp_eq, Ops.not_eq, Ops.beq_eq, icmp] at h; omega) | (try cbv))))
        refine ⟨nn - (i + 1), by omega, o.reI (Re.ren [0, 1, 2, 3] _ _ rfl rfl ?_ ?_ fun r => ⟨i + 1, m5, r, by omega, A5, rfl, rfl, rfl⟩)⟩
        · refine ⟨rfl, rfl, rfl, rfl, ?_, ?_, trivial⟩
          · rw [if_pos (by omega)]; exact congrArg (VV.int .i64) (by simp only [Ops.ar_eq]; decide)
          · exact congrArg (VV.int .i64) (by simp only [Ops.ar_eq]; exact add1 (i := i) (by omega))
        · exact ⟨.inr (by rw [← hM]; rfl), .inr rfl, .inr (by rw [hHr]; rfl), .inr rfl, trivial⟩
      · rw [if_neg hne] at hAk
        have hne2 : ¬ ((i : Int) = (pp : Int)) := by omega
        (cbv; repeat' (first | (refine ⟨by simp only [Ops.need_eq, needs]; first | rfl | decide, ?_⟩; try cbv) | (refine mt (fun h => ?_) (fun h => ?_) <;> first | (exfalso; simp [Ops.cmp_eq, Ops.not_eq, Ops.beq_eq, icmp] at h; done) | (exfalso; simp [Ops.cmp_eq, Ops.not_eq, Ops.beq_eq, icmp] at h; omega) | (try cbv))))
        refine ⟨by simp only [Ops.inb_eq]; exact decide_eq_true ⟨by first | exact (Int.natCast_nonneg i) | (simp only [Int.ofNat_eq_natCast]; exact (Int.natCast_nonneg i)), by first | exact (show (i : Int) < nn by omega) | (simp only [Int.ofNat_eq_natCast]; exact (show (i : Int) < nn by omega))⟩, ?_⟩
        simp only [Int.toNat_natCast, Int.ofNat_eq_natCast, Ops.get_eq, Ops.nadd_eq, Ops.nat_eq, Nat.zero_add, (hgi)]
        (cbv; repeat' (first | (refine ⟨by simp only [Ops.need_eq, needs]; first | rfl | decide, ?_⟩; try cbv) | (refine mt (fun h => ?_) (fun h => ?_) <;> first | (exfalso; simp [Ops.cmp_eq, Ops.not_eq, Ops.beq_eq, icmp] at h; done) | (exfalso; simp [Ops.cmp_eq, Ops.not_eq, Ops.beq_eq, icmp] at h; omega) | (try cbv))))
        refine Ops.call _ [0] hAk rfl rfl rfl ⟨.inr (by rw [← hM]; rfl), trivial⟩ ?_
        rintro v V' ⟨rfl, rfl⟩
        simp only [layB, lset, lapp, List.map_nil, List.map_cons, rnB_bx, doneV, rn, rnL]
        clear hM hAk hask
        generalize hM : bx W0 (memU m5) = M5
        refine ⟨by first | (cbv; done) | (cbv; simp only [Ops.get_eq, hgi]; done) | (cbv; simp only [Ops.get_eq, hgi]; exact ⟨rfl, trivial⟩), ?_⟩
        (cbv; repeat' (first | (refine ⟨by simp only [Ops.need_eq, needs]; first | rfl | decide, ?_⟩; try cbv) | (refine mt (fun h => ?_) (fun h => ?_) <;> first | (exfalso; simp [Ops.cmp_eq, Ops.not_eq, Ops.beq_eq, icmp] at h; done) | (exfalso; simp [Ops.cmp_eq, Ops.not_eq, Ops.beq_eq, icmp] at h; omega) | (try cbv))))
        refine Ops.call _ [] hOf rfl rfl rfl trivial ?_
        rintro v V' ⟨rfl, rfl⟩
        simp only [layB, lapp, List.map_nil]
        (cbv; repeat' (first | (refine ⟨by simp only [Ops.need_eq, needs]; first | rfl | decide, ?_⟩; try cbv) | (refine mt (fun h => ?_) (fun h => ?_) <;> first | (exfalso; simp [Ops.cmp_eq, Ops.not_eq, Ops.beq_eq, icmp, hne, hne2] at h; done) | (exfalso; simp [Ops.cmp_eq, Ops.not_eq, Ops.beq_eq, icmp, hne, hne2] at h; omega) | (try cbv))))
        refine ⟨nn - (i + 1), by omega, o.reI (Re.ren [0, 1, 2, 3] _ _ rfl rfl ?_ ?_ fun r => ⟨i + 1, m5, r, by omega, A5, rfl, rfl, rfl⟩)⟩
        · refine ⟨rfl, rfl, rfl, rfl, ?_, ?_, trivial⟩
          · exact congrArg (VV.int .i64) (by simp only [Ops.ar_eq]; rw [← hiv]; have : inv = 0 ∨ inv = 1 := by (rw [hiv]; split <;> simp)
                                             rcases this with h | h <;> rw [h] <;> decide)
          · exact congrArg (VV.int .i64) (by simp only [Ops.ar_eq]; exact add1 (i := i) (by omega))
        · exact ⟨.inr (by rw [← hM]; rfl), .inr rfl, .inr (by rw [hHr]; rfl), .inr rfl, trivial⟩
    · obtain rfl : i = nn := by omega
      have hin : (if pp < i then (1 : Int) else 0) = 1 := if_pos hpp
      rw [hin]
      (cbv; repeat' (first | (refine ⟨by simp only [Ops.need_eq, needs]; first | rfl | decide, ?_⟩; try cbv) | (refine mt (fun h => ?_) (fun h => ?_) <;> first | (exfalso; simp [Ops.cmp_eq, Ops.not_eq, Ops.beq_eq, icmp] at h; done) | (exfalso; simp [Ops.cmp_eq, Ops.not_eq, Ops.beq_eq, icmp] at h; omega) | (try cbv))))
      simp only [Ops.cmp_eq, icmp]
      exact hQ _ _ (ReV.none rfl ⟨rfl, rfl⟩)
end Go.Proofs.YtglghdjpkecngaaGreat
