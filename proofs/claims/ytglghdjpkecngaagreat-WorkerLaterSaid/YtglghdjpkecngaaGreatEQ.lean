/- worker: what a call refers to that is not done, or made nothing: the law. -/
import Derived.Test.YtglghdjpkecngaaGreatEL
import Derived.Test.YtglghdjpkecngaaGreatEP
import Derived.Test.YtglghdjpkecngaaGreatIRV
namespace Go.Proofs.YtglghdjpkecngaaGreat
set_option linter.unusedVariables false
set_option linter.unusedSimpArgs false
open Go Go.SL Go.FL
set_option maxRecDepth 100000
theorem later_ok {W0 : World} (hs : Option (List Nat)) : MadeOk W0 57 [.ptr 9 0] (.cells [.ptr 0 0]) hs laterF := by
  intro s M c hM
  have hcl8 := workU_cl W0 s hs
  have hcl : ∀ ρ : Nat → Nat, (∀ i, i < (workU W0 s hs ++ [M, .cells [.ptr 0 0]]).length → ρ i = i) → (workU W0 s hs ++ [M, .cells [.ptr 0 0]]).map (rnB ρ) = workU W0 s hs ++ [M, .cells [.ptr 0 0]] := by
    intro ρ h
    rw [List.map_append, workU_cl W0 s hs ρ fun i hi => h i (by simp [workU] at hi ⊢; omega)]
    have h0 := h 0 (by simp [workU])
    simp only [List.map_cons, List.map_nil, hM]
    show _ = workU W0 s hs ++ [M, VB.cells [.ptr 0 0]]
    rw [show rnB ρ (.cells [.ptr 0 0]) = .cells [.ptr (ρ 0) 0] from rfl, h0]
  have hMa := madeO_ev (W0 := W0) s hs c.at_
  refine Ev.out fun Q' hQ => ?_
  simp only [refV]
  rw [show laterF c s.told = madeAt c.at_ s.told from rfl] at hQ
  generalize madeAt c.at_ s.told = R at *
  generalize c.raw = r
  generalize c.at_ = at_ at *
  generalize c.who = who
  rw [show workU W0 s hs = [workC s (slV 9 s.l 1 2) (.ptr 3 0) (optP 7 hs) (wkV 6 s.work) (slV 18 s.told 4 5), slB 9 CallS.cs s.l 2, slN s.l, bx W0 (queueU s.q), slB 18 ToldS.cs s.told 5, slN s.told, wkB W0 s.work, optB W0 shelfU hs] from rfl] at hQ hcl hcl8 hMa ⊢
  generalize workC s (slV 9 s.l 1 2) (.ptr 3 0) (optP 7 hs) (wkV 6 s.work) (slV 18 s.told 4 5) = a1 at *
  generalize slB 9 CallS.cs s.l 2 = a2 at *
  generalize slN s.l = a3 at *
  generalize bx W0 (queueU s.q) = a4 at *
  generalize slB 18 ToldS.cs s.told 5 = a5 at *
  generalize slN s.told = a6 at *
  generalize wkB W0 s.work = a7 at *
  generalize optB W0 shelfU hs = a8 at *
  refine ev57 rfl fun o => ?_
  (cbv; repeat' (first | (refine ⟨by simp only [Ops.need_eq, needs]; first | rfl | decide, ?_⟩; try cbv) | (refine mt (fun h => ?_) (fun h => ?_) <;> first | (exfalso; simp [Ops.cmp_eq, Ops.not_eq, icmp] at h; done) | (exfalso; simp [Ops.cmp_eq, icmp] at h; omega) | (try cbv))))
  have hk : ∀ n, [a1, a2, a3, a4, a5, a6, a7, a8].map (rnB (rho [0, 1, 2, 3, 4, 5, 6, 7] n)) = [a1, a2, a3, a4, a5, a6, a7, a8] := fun n => hcl8 _ (fun i hi => by rcases i with _ | _ | _ | _ | _ | _ | _ | _ | i <;> first | rfl | (simp at hi; omega))
  have hk' := hk
  simp only [List.map_cons, List.map_nil, List.cons.injEq] at hk'
  refine Ops.call _ [0, 1, 2, 3, 4, 5, 6, 7] hMa rfl rfl rfl (fit_pre (U := [a1, a2, a3, a4, a5, a6, a7, a8]) (rest := [M, .cells [.ptr 0 0], _]) hcl8) ?_
  rintro v V' ⟨rfl, rfl⟩
  simp only [layB, lset, lapp, List.map_nil, (hk' _).1, (hk' _).2.1, (hk' _).2.2.1, (hk' _).2.2.2.1, (hk' _).2.2.2.2.1, (hk' _).2.2.2.2.2.1, (hk' _).2.2.2.2.2.2.1, (hk' _).2.2.2.2.2.2.2.1, rn]
  (cbv; repeat' (first | (refine ⟨by simp only [Ops.need_eq, needs]; first | rfl | decide, ?_⟩; try cbv) | (refine mt (fun h => ?_) (fun h => ?_) <;> first | (exfalso; simp [Ops.cmp_eq, Ops.not_eq, icmp] at h; done) | (exfalso; simp [Ops.cmp_eq, icmp] at h; omega) | (try cbv))))
  exact hQ _ _ (ReV.pre (U := [a1, a2, a3, a4, a5, a6, a7, a8, M, .cells [.ptr 0 0]]) (rest := [_]) hcl (fun _ => rfl) ⟨rfl, rfl⟩)
theorem kindL (kind : Int) : arith .add .i64 2 (arith .rem .i64 (arith .add .i64 (arith .rem .i64 kind 4) 4) 4) = 2 ∨ arith .add .i64 2 (arith .rem .i64 (arith .add .i64 (arith .rem .i64 kind 4) 4) 4) = 3 ∨ arith .add .i64 2 (arith .rem .i64 (arith .add .i64 (arith .rem .i64 kind 4) 4) 4) = 4 ∨ arith .add .i64 2 (arith .rem .i64 (arith .add .i64 (arith .rem .i64 kind 4) 4) 4) = 5 := by
  simp only [arith]
  have h1 : -4 < kind.tmod 4 := Int.lt_tmod_of_pos _ (by omega)
  have h2 : kind.tmod 4 < 4 := Int.tmod_lt_of_pos _ (by omega)
  have e1 : IntKind.i64.wrap (kind.tmod 4 + 4) = kind.tmod 4 + 4 := by rw [IntKind.wrap_i64] <;> omega
  rw [e1]
  generalize kind.tmod 4 = r at *
  have e2 : (r + 4).tmod 4 = (r + 4) % 4 := Int.tmod_eq_emod_of_nonneg (by omega)
  rw [e2]
  have h3 : 0 ≤ (r + 4) % 4 := Int.emod_nonneg _ (by omega)
  have h4 : (r + 4) % 4 < 4 := Int.emod_lt_of_pos _ (by omega)
  rw [IntKind.wrap_i64] <;> omega
theorem mayL (K at_ : Int) (hk : K = 2 ∨ K = 3 ∨ K = 4 ∨ K = 5) : mayWork 0 [callH, ⟨K, 0, 0, at_, 0, 0, 0, 0, 0⟩, callA] 3 = true := by
  rcases hk with rfl | rfl | rfl | rfl <;> rfl
set_option maxHeartbeats 2000000 in
theorem WorkerLater_ev {W0 : World} (kind at_ : Int) : Ev Tryz.prog W0 18 [.int .i64 kind, .int .i64 at_] [] (fun v V' => v = .bool true) := by
  have hok := awake18_ok
  unfold awake18 at hok
  cases hb : begun18 with
  | none => rw [hb] at hok; cases hok
  | some r =>
  clear hok
  obtain ⟨hs, m⟩ := r
  have hB := begun18_ev (W0 := W0) hb
  have hE : arena18.v 0 = .agg [.int .i64 1, .int .i64 30, .int .i64 16, .int .i64 40, .int .i64 100, .int .i64 600, .int .i64 3, .ptr 0 0, .int .i64 0] := rfl
  rw [hE] at hB
  have hAw := awake18_ev (W0 := W0)
  have hkl := kindL kind
  have hNew := fun K => New_ev2 (W0 := W0) (hs := hs) (N := hs.length) ⟨fun ρ h => by show VV.ptr (ρ 0) 0 = _; rw [h], fun ρ => rnB_bx W0 _ ρ, shelfLists_ev hs⟩ 0 [callH, ⟨K, 0, 0, at_, 0, 0, 0, 0, 0⟩, callA] (fun _ => .n 27) (fun _ => .n 3) (bx W0 (memU m)) (fun ρ => rnB_bx W0 _ ρ) (fun _ _ => rfl) (fun _ _ => rfl) (by show 3 ≤ 1000; decide)
  refine Ev.out fun Q' hQ => ?_
  refine ev18 rfl fun o => ?_
  (cbv; repeat' (first | (refine ⟨by simp only [Ops.need_eq, needs]; first | rfl | decide, ?_⟩; try cbv) | (refine mt (fun h => ?_) (fun h => ?_) <;> first | (exfalso; simp [Ops.cmp_eq, Ops.not_eq, icmp] at h; done) | (exfalso; simp [Ops.cmp_eq, icmp] at h; omega) | (try cbv))))
  refine Ops.call _ [] hB rfl rfl rfl trivial ?_
  rintro v V' ⟨rfl, rfl⟩
  simp only [layB, lset, lapp, List.map_cons, List.map_nil, rnB_bx, rn, rnL]
  generalize hM : bx W0 (memU m) = M
  generalize hS : bx W0 (shelfU hs) = S
  (cbv; repeat' (first | (refine ⟨by simp only [Ops.need_eq, needs]; first | rfl | decide, ?_⟩; try cbv) | (refine mt (fun h => ?_) (fun h => ?_) <;> first | (exfalso; simp [Ops.cmp_eq, Ops.not_eq, icmp] at h; done) | (exfalso; simp [Ops.cmp_eq, icmp] at h; omega) | (try cbv))))
  simp only [Ops.ar_eq]
  generalize arith .add .i64 2 (arith .rem .i64 (arith .add .i64 (arith .rem .i64 kind 4) 4) 4) = K at *
  obtain ⟨sf, mf, ta, tb, tc, hrun, htd, h3, qb, qe, qc, qm⟩ := later_all K at_ hkl hb
  subst hM hS
  have hNew := hNew K
  have hmw := mayL K at_ hkl
  rw [← h3] at hmw
  rw [hmw] at hNew
  simp only [if_true] at hNew
  rw [workE_eq (by simp)] at hNew
  refine Ops.call _ [1, 4, 0] hNew rfl rfl rfl ⟨.inr rfl, .inr rfl, .inr rfl, trivial⟩ ?_
  rintro v V' ⟨rfl, rfl⟩
  simp only [layB, lset, lapp, List.map_cons, List.map_nil, rnB_bx, rn, rnL, rnB_emp]
  have hok0 := WOk.new hmw
  generalize newWorker 0 [callH, ⟨K, 0, 0, at_, 0, 0, 0, 0, 0⟩, callA] = s0 at *
  generalize hM : bx W0 (memU m) = M
  generalize hK : bx W0 (workU W0 s0 (some hs)) = KK
  (cbv; repeat' (first | (refine ⟨by simp only [Ops.need_eq, needs]; first | rfl | decide, ?_⟩; try cbv) | (refine mt (fun h => ?_) (fun h => ?_) <;> first | (exfalso; simp [Ops.cmp_eq, Ops.not_eq, icmp] at h; done) | (exfalso; simp [Ops.cmp_eq, icmp] at h; omega) | (try cbv))))
  refine Ops.call0 _ (hAw) rfl ?_; rintro v V' ⟨rfl, rfl⟩; simp only [lapp, List.map_nil, rn, rnL]
  (cbv; repeat' (first | (refine ⟨by simp only [Ops.need_eq, needs]; first | rfl | decide, ?_⟩; try cbv) | (refine mt (fun h => ?_) (fun h => ?_) <;> first | (exfalso; simp [Ops.cmp_eq, Ops.not_eq, icmp] at h; done) | (exfalso; simp [Ops.cmp_eq, icmp] at h; omega) | (try cbv))))
  subst hM hK
  refine ⟨fun k env V => ∃ (i : Nat) (s : WorkerS) (mi : MemS) (r : Nat → Value), i + k = 3000 ∧ workRun arena18 hs laterF k s mi = some (sf, mf) ∧ WOk hs s ∧ env = mix [(1, .int .i64 at_), (5, .ptr 2 0), (9, .ptr 4 0), (11, .int .i64 i)] r ∧
      V = [bx W0 (memU mi), .emp, .cells [.int .i64 1, .int .i64 30, .int .i64 16, .int .i64 40, .int .i64 100, .int .i64 600, .int .i64 3, .ptr 0 0, .int .i64 0], bx W0 (workU W0 s (some hs)), .cells [.ptr 3 0]],
    ⟨3000, o.reI (Re.ren [0, 1, 2, 5, 6] _ _ rfl rfl ?_ ?_ fun r => ⟨0, s0, m, r, rfl, hrun, hok0, rfl, rfl⟩)⟩, ?_⟩
  · exact ⟨rfl, rfl, rfl, rfl, trivial⟩
  · exact ⟨.inr rfl, .inl rfl, .inr rfl, .inr rfl, .inr rfl, trivial⟩
  rintro k env V ⟨i, s, mi, r, hik, hrn, hwo, rfl, rfl⟩
  generalize hM : bx W0 (memU mi) = M
  generalize hK : bx W0 (workU W0 s (some hs)) = KK
  (cbv; repeat' (first | (refine ⟨by simp only [Ops.need_eq, needs]; first | rfl | decide, ?_⟩; try cbv) | (refine mt (fun _ => ?_) (fun _ => ?_) <;> (try cbv))))
  rotate_left
  focus
    have hsf : s = sf := by
      have h2 : ¬ (i : Int) < 3000 := by rename_i g1; (try simp only [cfix] at *); (try simp only [Int.ofNat_eq_natCast] at *); simpa [Ops.cmp_eq, icmp] using g1
      obtain rfl : k = 0 := by omega
      simp only [workRun, Option.some.injEq, Prod.mk.injEq] at hrn
      exact hrn.1
  rotate_left
  focus
    have h2 : (i : Int) < 3000 := by rename_i g1; (try simp only [cfix] at *); (try simp only [Int.ofNat_eq_natCast] at *); simpa [Ops.cmp_eq, icmp] using g1
    obtain ⟨k', rfl⟩ : ∃ k', k = k' + 1 := ⟨k - 1, by omega⟩
    have hEn := ended_ev (W0 := W0) s (some hs)
    rw [hK] at hEn
    refine Ops.call _ [3] hEn rfl rfl rfl ⟨.inr (by rw [← hK]; rfl), trivial⟩ ?_
    rintro v V' ⟨rfl, rfl⟩
    simp only [layB, lset, lapp, List.map_nil, List.map_cons, ← hK, rnB_bx, rn, rnL]
    rw [hK]
    simp only [workRun] at hrn
    obtain hen | hen : s.ended = false ∨ s.ended = true := by cases s.ended <;> simp
    · rw [hen] at hrn ⊢
      simp only [Bool.false_eq_true, if_false] at hrn
      have hwf : s.wfb arena18.c = true := by
        cases hw : s.wfb arena18.c with
        | true => rfl
        | false => rw [hw] at hrn; cases hrn
      rw [hwf] at hrn
      simp only [if_true] at hrn
      have hSt := Step_ev (W0 := W0) s hs arena18 mi 57 [.ptr 2 0] [.ptr 9 0] (.inr ⟨rfl, rfl⟩) (.cells [.ptr 0 0]) laterF (later_ok _) (by rw [h3]; decide) (fun ρ h0 => by show VB.cells [.ptr (ρ 0) 0] = _; rw [h0]) hwo hwf
      have hwo2 := hwo.step arena18 laterF mi
      generalize s.step arena18 hs laterF mi = R at *
      obtain ⟨b, s2, m2⟩ := R
      simp only at hrn hSt hwo2
      (cbv; repeat' (first | (refine ⟨by simp only [Ops.need_eq, needs]; first | rfl | decide, ?_⟩; try cbv) | (refine mt (fun h => ?_) (fun h => ?_) <;> first | (exfalso; simp [Ops.cmp_eq, Ops.not_eq, icmp] at h; done) | (exfalso; simp [Ops.cmp_eq, icmp] at h; omega) | (try cbv))))
      subst hM hK
      refine Ops.call _ [3, 0, 4] hSt rfl rfl rfl ⟨.inr rfl, .inr rfl, .inr rfl, trivial⟩ ?_
      rintro v V' ⟨rfl, rfl⟩
      have rC : ∀ n, rnB (rho [3, 0, 4] n) (.cells [.ptr 0 0]) = .cells [.ptr 3 0] := fun _ => rfl
      simp only [layB, lset, lapp, List.map_nil, List.map_cons, rnB_bx, rn, rnL, rC]
      generalize hM : bx W0 (memU m2) = M
      generalize hK : bx W0 (workU W0 s2 (some hs)) = KK
      (cbv; repeat' (first | (refine ⟨by simp only [Ops.need_eq, needs]; first | rfl | decide, ?_⟩; try cbv) | (refine mt (fun h => ?_) (fun h => ?_) <;> first | (exfalso; simp [Ops.cmp_eq, Ops.not_eq, icmp] at h; done) | (exfalso; simp [Ops.cmp_eq, icmp] at h; omega) | (try cbv))))
      subst hM hK
      refine ⟨k', by omega, o.reI (Re.ren [0, 1, 2, 3, 4] _ _ rfl rfl ?_ ?_ fun r => ⟨i + 1, s2, m2, r, by omega, hrn, hwo2, rfl, rfl⟩)⟩
      · exact ⟨rfl, rfl, rfl, congrArg (VV.int .i64) (by simp only [Ops.ar_eq]; exact add1 (i := i) (by omega)), trivial⟩
      · exact ⟨.inr rfl, .inl rfl, .inr rfl, .inr rfl, .inr rfl, trivial⟩
    rw [hen] at hrn ⊢
    simp only [if_true, Option.some.injEq, Prod.mk.injEq] at hrn
    have hsf := hrn.1
    (cbv; repeat' (first | (refine ⟨by simp only [Ops.need_eq, needs]; first | rfl | decide, ?_⟩; try cbv) | (refine mt (fun h => ?_) (fun h => ?_) <;> first | (exfalso; simp [Ops.cmp_eq, Ops.not_eq, icmp] at h; done) | (exfalso; simp [Ops.cmp_eq, icmp] at h; omega) | (try cbv))))
  all_goals
    obtain rfl : s = sf := hsf
    have hTd := told_ev (W0 := W0) s (some hs) (by have := hwo.n; omega)
    have hMa := made_ev (W0 := W0) s (some hs) at_
    rw [hK] at hTd hMa
    generalize madeAt at_ s.told = RM at *
    rw [htd] at hTd
    simp only [slV, slB, slN, List.map_cons, List.map_nil, List.length_cons, List.length_nil] at hTd
    obtain ⟨a1, a2, ⟨c1, c2, c3, c4, c5, c6, c7, c8, c9⟩, a3, ⟨d1, d2, d3, d4⟩, a4, a5⟩ := tb
    simp only at qb qe
    subst qb qe
    have hcs : ToldS.cs ⟨a1, a2, ⟨c1, c2, c3, c4, c5, c6, c7, c8, c9⟩, 0, ⟨3, d2, d3, d4⟩, a4, a5⟩ = [VV.int .i64 a1, VV.int .i64 a2, VV.int .i64 c1, VV.int .i64 c2, VV.int .i64 c3, VV.int .i64 c4, VV.int .u64 c5, VV.int .i64 c6, VV.int .i64 c7, VV.int .i64 c8, VV.int .i64 c9, VV.int .u64 0, VV.int .i64 3, VV.int .u64 d2, VV.int .i64 d3, VV.int .i64 d4, VV.int .i64 a4, VV.int .i64 a5] := rfl
    rw [hcs] at hTd
    obtain ⟨b1, b2, ⟨e1, e2, e3, e4, e5, e6, e7, e8, e9⟩, b3, ⟨f1, f2, f3, f4⟩, b4, b5⟩ := tc
    simp only at qc qm
    subst qc
    have hcs2 : ToldS.cs ⟨b1, b2, ⟨e1, e2, e3, e4, e5, e6, e7, e8, e9⟩, b3, ⟨0, f2, f3, f4⟩, b4, b5⟩ = [VV.int .i64 b1, VV.int .i64 b2, VV.int .i64 e1, VV.int .i64 e2, VV.int .i64 e3, VV.int .i64 e4, VV.int .u64 e5, VV.int .i64 e6, VV.int .i64 e7, VV.int .i64 e8, VV.int .i64 e9, VV.int .u64 b3, VV.int .i64 0, VV.int .u64 f2, VV.int .i64 f3, VV.int .i64 f4, VV.int .i64 b4, VV.int .i64 b5] := rfl
    rw [hcs2] at hTd
    have hx : ∃ xs : List (List VV), xs = [ToldS.cs ta, [VV.int .i64 a1, VV.int .i64 a2, VV.int .i64 c1, VV.int .i64 c2, VV.int .i64 c3, VV.int .i64 c4, VV.int .u64 c5, VV.int .i64 c6, VV.int .i64 c7, VV.int .i64 c8, VV.int .i64 c9, VV.int .u64 0, VV.int .i64 3, VV.int .u64 d2, VV.int .i64 d3, VV.int .i64 d4, VV.int .i64 a4, VV.int .i64 a5],
      [VV.int .i64 b1, VV.int .i64 b2, VV.int .i64 e1, VV.int .i64 e2, VV.int .i64 e3, VV.int .i64 e4, VV.int .u64 e5, VV.int .i64 e6, VV.int .i64 e7, VV.int .i64 e8, VV.int .i64 e9, VV.int .u64 b3, VV.int .i64 0, VV.int .u64 f2, VV.int .i64 f3, VV.int .i64 f4, VV.int .i64 b4, VV.int .i64 b5]] := ⟨_, rfl⟩
    obtain ⟨xs, hxs⟩ := hx
    rw [← hxs] at hTd
    have hX : ∀ ρ, xs.map (rnL ρ) = xs := fun ρ => by rw [hxs]; rfl
    have hr : ∀ (ρ : Nat → Nat) c, rnB ρ (.arr 18 xs c) = .arr 18 xs (c.rn ρ) := by intro ρ c; simp only [rnB, hX]
    have g1 : xs[1]? = some [VV.int .i64 a1, VV.int .i64 a2, VV.int .i64 c1, VV.int .i64 c2, VV.int .i64 c3, VV.int .i64 c4, VV.int .u64 c5, VV.int .i64 c6, VV.int .i64 c7, VV.int .i64 c8, VV.int .i64 c9, VV.int .u64 0, VV.int .i64 3, VV.int .u64 d2, VV.int .i64 d3, VV.int .i64 d4, VV.int .i64 a4, VV.int .i64 a5] := by rw [hxs]; rfl
    have g2 : xs[2]? = some [VV.int .i64 b1, VV.int .i64 b2, VV.int .i64 e1, VV.int .i64 e2, VV.int .i64 e3, VV.int .i64 e4, VV.int .u64 e5, VV.int .i64 e6, VV.int .i64 e7, VV.int .i64 e8, VV.int .i64 e9, VV.int .u64 b3, VV.int .i64 0, VV.int .u64 f2, VV.int .i64 f3, VV.int .i64 f4, VV.int .i64 b4, VV.int .i64 b5] := by rw [hxs]; rfl
    clear hxs hcs hcs2
    refine Ops.call _ [3] hTd rfl rfl rfl ⟨.inr (by rw [← hK]; rfl), trivial⟩ ?_
    rintro v V' ⟨rfl, rfl⟩
    simp only [layB, lset, lapp, List.map_nil, List.map_cons, ← hK, rnB_bx, rn, rnL, hr]
    rw [hK]
    (cbv; repeat' (first | (refine ⟨by simp only [Ops.need_eq, needs]; first | rfl | decide, ?_⟩; try cbv) | (refine mt (fun h => ?_) (fun h => ?_) <;> first | (exfalso; simp [Ops.cmp_eq, Ops.not_eq, icmp] at h; done) | (exfalso; simp [Ops.cmp_eq, icmp] at h; omega) | (try cbv))))
    refine ⟨by simp [o.inb_eq], ?_⟩
    simp only [Int.toNat_natCast, Int.ofNat_eq_natCast, Ops.get_eq, Ops.nadd_eq, Ops.nat_eq, Nat.zero_add, g1, Int.toNat_one]
    (cbv; repeat' (first | (refine ⟨by simp only [Ops.need_eq, needs]; first | rfl | decide, ?_⟩; try cbv) | (refine mt (fun h => ?_) (fun h => ?_) <;> first | (exfalso; simp [Ops.cmp_eq, Ops.not_eq, icmp] at h; done) | (exfalso; simp [Ops.cmp_eq, icmp] at h; omega) | (try cbv))))
    refine ⟨by simp [o.inb_eq], ?_⟩
    simp only [Int.toNat_natCast, Int.ofNat_eq_natCast, Ops.get_eq, Ops.nadd_eq, Ops.nat_eq, Nat.zero_add, g1, Int.toNat_one]
    (cbv; repeat' (first | (refine ⟨by simp only [Ops.need_eq, needs]; first | rfl | decide, ?_⟩; try cbv) | (refine mt (fun h => ?_) (fun h => ?_) <;> first | (exfalso; simp [Ops.cmp_eq, Ops.not_eq, icmp] at h; done) | (exfalso; simp [Ops.cmp_eq, icmp] at h; omega) | (try cbv))))
    refine ⟨by simp [o.inb_eq], ?_⟩
    have t2 : (2 : Int).toNat = 2 := rfl
    simp only [Int.toNat_natCast, Int.ofNat_eq_natCast, Ops.get_eq, Ops.nadd_eq, Ops.nat_eq, Nat.zero_add, g2, t2]
    (cbv; repeat' (first | (refine ⟨by simp only [Ops.need_eq, needs]; first | rfl | decide, ?_⟩; try cbv) | (refine mt (fun h => ?_) (fun h => ?_) <;> first | (exfalso; simp [Ops.cmp_eq, Ops.not_eq, icmp] at h; done) | (exfalso; simp [Ops.cmp_eq, icmp] at h; omega) | (try cbv))))
    refine ⟨by simp [o.inb_eq], ?_⟩
    simp only [Int.toNat_natCast, Int.ofNat_eq_natCast, Ops.get_eq, Ops.nadd_eq, Ops.nat_eq, Nat.zero_add, g2, t2]
    (cbv; repeat' (first | (refine ⟨by simp only [Ops.need_eq, needs]; first | rfl | decide, ?_⟩; try cbv) | (refine mt (fun h => ?_) (fun h => ?_) <;> first | (exfalso; simp [Ops.cmp_eq, Ops.not_eq, icmp] at h; done) | (exfalso; simp [Ops.cmp_eq, icmp] at h; omega) | (try cbv))))
    refine Ops.call _ [3] hMa rfl rfl rfl ⟨.inr (by rw [← hK]; rfl), trivial⟩ ?_
    rintro v V' ⟨rfl, rfl⟩
    simp only [layB, lset, lapp, List.map_nil, List.map_cons, ← hK, rnB_bx, rn, rnL, hr]
    rw [hK]
    (cbv; repeat' (first | (refine ⟨by simp only [Ops.need_eq, needs]; first | rfl | decide, ?_⟩; try cbv) | (refine mt (fun h => ?_) (fun h => ?_) <;> first | (exfalso; simp [Ops.cmp_eq, Ops.not_eq, icmp] at h; done) | (exfalso; simp [Ops.cmp_eq, icmp] at h; omega) | (try cbv))))
    refine ⟨by simp only [Ops.get_eq, g1, g2]; exact ⟨rfl, rfl, rfl, rfl, trivial⟩, ?_⟩
    (cbv; repeat' (first | (refine ⟨by simp only [Ops.need_eq, needs]; first | rfl | decide, ?_⟩; try cbv) | (refine mt (fun h => ?_) (fun h => ?_) <;> first | (exfalso; simp [Ops.cmp_eq, Ops.not_eq, icmp] at h; done) | (exfalso; simp [Ops.cmp_eq, icmp] at h; omega) | (try cbv))))
    refine hQ _ _ (ReV.none rfl (congrArg VV.bool ?_))
    simp only [Ops.beq_eq, Ops.cmp_eq, icmp]
    by_cases h2 : at_ = 2
    · have hRM := qm.2 h2
      simp [h2, hRM]
    · have hRM : ¬ RM = f2 := fun hh => h2 (qm.1 hh)
      have hRM2 : ¬ (Int.ofNat RM = Int.ofNat f2) := fun hh => hRM (Int.ofNat.inj hh)
      simp only [beq_eq_false_iff_ne.2 hRM2, beq_eq_false_iff_ne.2 h2, beq_self_eq_true]
end Go.Proofs.YtglghdjpkecngaaGreat
