/- worker: a fresh arena with a shelf; awake. -/
import Derived.Test.YtglghdjpkecngaaGreatEb
import Derived.Test.YtglghdjpkecngaaGreatEp
namespace Go.Proofs.YtglghdjpkecngaaGreat
set_option linter.unusedVariables false
set_option linter.unusedSimpArgs false
open Go Go.SL Go.FL
set_option maxRecDepth 100000
theorem begun18_ev {W0 : World} {hs : List Nat} {m : MemS} (h : begun18 = some (hs, m)) : Ev Tryz.prog W0 44 [.int .i64 1] [] (fun v V' => v = .tup [arena18.v 0, .ptr 1 0, .bool true] ∧ V' = [bx W0 (memU m), bx W0 (shelfU hs)]) := by
  refine Ev.out fun Q' hQ => ?_
  obtain ⟨x, hf⟩ : ∃ x, freshShelf arena18 3 (freshM arena18.c) = some (x, hs, m) ∧ x = 0 := by
    unfold begun18 at h
    cases hs' : freshShelf arena18 3 (freshM arena18.c) with
    | none => rw [hs'] at h; cases h
    | some r =>
      obtain ⟨x, l, m'⟩ := r
      rw [hs'] at h
      simp only at h
      by_cases hx : x = 0
      · rw [if_pos hx] at h; cases h; exact ⟨x, rfl, hx⟩
      · rw [if_neg hx] at h; cases h
  obtain ⟨hf, rfl⟩ := hf
  have hE : arena18.v 0 = .agg [.int .i64 1, .int .i64 30, .int .i64 16, .int .i64 40, .int .i64 100, .int .i64 600, .int .i64 3, .ptr 0 0, .int .i64 0] := rfl
  have hA := Arena_ev (W0 := W0) 1 30 16 40 (arenaOk (by decide) (by decide) (by decide) (by decide) (by decide) (by decide) (by decide) (by decide))
  rw [show arena 1 30 16 40 = arena18 from rfl, hE] at hA
  have hF := shelfFresh_ev (W0 := W0) arena18 3 (freshM arena18.c) hf
  simp only [if_true] at hF
  rw [hE] at hF hQ
  generalize freshM arena18.c = m0 at *
  refine ev44 rfl fun o => ?_
  cbv
  refine Ops.call _ [] hA rfl rfl rfl trivial ?_
  rintro v V' ⟨rfl, rfl⟩
  simp only [layB, lset, lapp, List.map_cons, List.map_nil, rnB_bx, rn, rnL]
  generalize hM : bx W0 (memU m0) = M
  cbv
  refine Ops.call _ [1] hF rfl rfl rfl ⟨.inr (by rw [← hM]; rfl), trivial⟩ ?_
  rintro v V' ⟨rfl, rfl⟩
  simp only [layB, lset, lapp, List.map_cons, List.map_nil, rnB_bx, rn, rnL]
  generalize hM1 : bx W0 (memU m) = M1
  generalize hS1 : bx W0 (shelfU hs) = S1
  cbv
  subst hM1 hS1
  refine hQ _ _ (ReV.ren [1, 3] (.tup [.agg [.int .i64 1, .int .i64 30, .int .i64 16, .int .i64 40, .int .i64 100, .int .i64 600, .int .i64 3, .ptr 0 0, .int .i64 0], .ptr 1 0, .bool true]) [bx W0 (memU m), bx W0 (shelfU hs)] rfl rfl ?_ ⟨.inr rfl, .inr rfl, trivial⟩ ⟨rfl, rfl⟩)
  simp [Ops.cmp_eq, icmp, rn, rnL, rho, lget, posn]
theorem nobody_ok {W0 : World} (hs : Option (List Nat)) : MadeOk W0 54 [] .emp hs nobodyF := by
  intro s M c hM
  have hcl : ∀ ρ : Nat → Nat, (∀ i, i < (workU W0 s hs ++ [M, .emp]).length → ρ i = i) → (workU W0 s hs ++ [M, .emp]).map (rnB ρ) = workU W0 s hs ++ [M, .emp] := by
    intro ρ h
    rw [List.map_append, workU_cl W0 s hs ρ fun i hi => h i (by simp [workU] at hi ⊢; omega)]
    simp only [List.map_cons, List.map_nil, hM, rnB_emp]
  refine Ev.out fun Q' hQ => ?_
  simp only [refV]
  generalize c.raw = r
  rw [show workU W0 s hs ++ [M, .emp] = [workC s (slV 9 s.l 1 2) (.ptr 3 0) (optP 7 hs) (wkV 6 s.work) (slV 18 s.told 4 5), slB 9 CallS.cs s.l 2, slN s.l, bx W0 (queueU s.q), slB 18 ToldS.cs s.told 5, slN s.told, wkB W0 s.work, optB W0 shelfU hs, M, .emp] from rfl] at hQ hcl ⊢
  generalize workC s (slV 9 s.l 1 2) (.ptr 3 0) (optP 7 hs) (wkV 6 s.work) (slV 18 s.told 4 5) = a1 at *
  generalize slB 9 CallS.cs s.l 2 = a2 at *
  generalize slN s.l = a3 at *
  generalize bx W0 (queueU s.q) = a4 at *
  generalize slB 18 ToldS.cs s.told 5 = a5 at *
  generalize slN s.told = a6 at *
  generalize wkB W0 s.work = a7 at *
  generalize optB W0 shelfU hs = a8 at *
  refine ev54 rfl fun o => ?_
  cbv
  exact hQ _ _ (ReV.pre (U := [a1, a2, a3, a4, a5, a6, a7, a8, M, .emp]) (rest := [_]) hcl (fun _ => rfl) ⟨rfl, rfl⟩)
theorem awake18_ev {W0 : World} : Ev Tryz.prog W0 47 [] [] (fun v V' => v = .bool true ∧ V' = []) := by
  have hok := awake18_ok
  unfold awake18 at hok
  cases hb : begun18 with
  | none => rw [hb] at hok; cases hok
  | some r =>
  obtain ⟨hs, m⟩ := r
  rw [hb] at hok
  simp only at hok
  have hB := begun18_ev (W0 := W0) hb
  have hE : arena18.v 0 = .agg [.int .i64 1, .int .i64 30, .int .i64 16, .int .i64 40, .int .i64 100, .int .i64 600, .int .i64 3, .ptr 0 0, .int .i64 0] := rfl
  rw [hE] at hB
  have hNew := New_ev2 (W0 := W0) (hs := hs) (N := hs.length) ⟨fun ρ h => by show VV.ptr (ρ 0) 0 = _; rw [h], fun ρ => rnB_bx W0 _ ρ, shelfLists_ev hs⟩ 0 [callA, callK] (fun _ => .n 18) (fun _ => .n 2) (bx W0 (memU m)) (fun ρ => rnB_bx W0 _ ρ) (fun _ _ => rfl) (fun _ _ => rfl) (by decide)
  refine Ev.out fun Q' hQ => ?_
  refine ev47 rfl fun o => ?_
  cbv
  refine Ops.call _ [] hB rfl rfl rfl trivial ?_
  rintro v V' ⟨rfl, rfl⟩
  simp only [layB, lset, lapp, List.map_cons, List.map_nil, rnB_bx, rn, rnL]
  generalize hM : bx W0 (memU m) = M
  generalize hS : bx W0 (shelfU hs) = S
  cbv
  subst hM hS
  have h3 : hs.length = 3 := by
    cases hrun : workRun arena18 hs nobodyF 500 (newWorker 0 [callA, callK]) m with
    | none => rw [hrun] at hok; cases hok
    | some r => 
      obtain ⟨s, m2⟩ := r
      rw [hrun] at hok
      simp only at hok
      rcases htd : s.told with _ | ⟨a, _ | ⟨b, _ | _⟩⟩ <;> rw [htd] at hok <;> simp at hok
      exact hok.1.1.1.1
  have hmw : mayWork 0 [callA, callK] hs.length = true := by rw [h3]; rfl
  rw [hmw] at hNew
  simp only [if_true] at hNew
  rw [workE_eq (by simp)] at hNew
  refine Ops.call _ [1, 3, 0] hNew rfl rfl rfl ⟨.inr rfl, .inr rfl, .inr rfl, trivial⟩ ?_
  rintro v V' ⟨rfl, rfl⟩
  simp only [layB, lset, lapp, List.map_cons, List.map_nil, rnB_bx, rn, rnL, rnB_emp]
  have hok0 := WOk.new hmw
  cases hrun : workRun arena18 hs nobodyF 500 (newWorker 0 [callA, callK]) m with
  | none => rw [hrun] at hok; cases hok
  | some rr =>
  obtain ⟨sf, mf⟩ := rr
  rw [hrun] at hok
  simp only at hok
  generalize newWorker 0 [callA, callK] = s0 at *
  generalize hM : bx W0 (memU m) = M
  generalize hK : bx W0 (workU W0 s0 (some hs)) = K
  (cbv; repeat' (first | (refine mt (fun h => ?_) (fun h => ?_) <;> first | (exfalso; simp [Ops.cmp_eq, Ops.not_eq, icmp] at h; done) | (try cbv)) | fail))
  subst hM hK
  refine ⟨fun k env V => ∃ (i : Nat) (s : WorkerS) (mi : MemS) (r : Nat → Value), i + k = 500 ∧ workRun arena18 hs nobodyF k s mi = some (sf, mf) ∧ WOk hs s ∧ env = mix [(1, .ptr 2 0), (4, .ptr 4 0), (6, .int .i64 i)] r ∧
      V = [bx W0 (memU mi), .emp, .cells [.int .i64 1, .int .i64 30, .int .i64 16, .int .i64 40, .int .i64 100, .int .i64 600, .int .i64 3, .ptr 0 0, .int .i64 0], .emp, bx W0 (workU W0 s (some hs))],
    ⟨500, o.reI (Re.ren [0, 1, 2, 3, 4] _ _ rfl rfl ?_ ?_ fun r => ⟨0, s0, m, r, rfl, hrun, hok0, rfl, rfl⟩)⟩, ?_⟩
  · exact ⟨rfl, rfl, rfl, trivial⟩
  · exact ⟨.inr rfl, .inl rfl, .inr rfl, .inl rfl, .inr rfl, trivial⟩
  rintro k env V ⟨i, s, mi, r, hik, hrn, hwo, rfl, rfl⟩
  generalize hM : bx W0 (memU mi) = M
  generalize hK : bx W0 (workU W0 s (some hs)) = K
  (cbv; repeat' (first | (refine mt (fun _ => ?_) (fun _ => ?_) <;> (try cbv)) | fail))
  rotate_left
  focus
    have hsf : s = sf := by
      have h2 : ¬ (i : Int) < 500 := by rename_i g1; (try simp only [cfix] at *); (try simp only [Int.ofNat_eq_natCast] at *); simpa [Ops.cmp_eq, icmp] using g1
      obtain rfl : k = 0 := by omega
      simp only [workRun, Option.some.injEq, Prod.mk.injEq] at hrn
      exact hrn.1
  rotate_left
  focus
    have h2 : (i : Int) < 500 := by rename_i g1; (try simp only [cfix] at *); (try simp only [Int.ofNat_eq_natCast] at *); simpa [Ops.cmp_eq, icmp] using g1
    obtain ⟨k', rfl⟩ : ∃ k', k = k' + 1 := ⟨k - 1, by omega⟩
    have hEn := ended_ev (W0 := W0) s (some hs)
    rw [hK] at hEn
    refine Ops.call _ [4] hEn rfl rfl rfl ⟨.inr (by rw [← hK]; rfl), trivial⟩ ?_
    rintro v V' ⟨rfl, rfl⟩
    simp only [layB, lset, lapp, List.map_nil, List.map_cons, ← hK, rnB_bx, rn, rnL]
    rw [hK]
    simp only [workRun] at hrn
    obtain hen | hen : s.ended = false ∨ s.ended = true := by cases s.ended <;> simp
    · rw [hen] at hrn ⊢
      simp only [Bool.false_eq_true, if_false] at hrn
      have hwf : s.wfb arena18.c = true := by
        cases hw : s.wfb arena18.c with
        | true => rfl
        | false => rw [hw] at hrn; cases hrn
      rw [hwf] at hrn
      simp only [if_true] at hrn
      have hSt := Step_ev (W0 := W0) s hs arena18 mi 54 [] [] (.inl ⟨rfl, rfl⟩) .emp nobodyF (nobody_ok _) (by rw [h3]; decide) (fun _ _ => rfl) hwo hwf
      have hwo2 := hwo.step arena18 nobodyF mi
      generalize s.step arena18 hs nobodyF mi = R at *
      obtain ⟨b, s2, m2⟩ := R
      simp only at hrn hSt hwo2
      (cbv; repeat' (first | (refine mt (fun h => ?_) (fun h => ?_) <;> first | (exfalso; simp [Ops.cmp_eq, Ops.not_eq, icmp] at h; done) | (try cbv)) | fail))
      subst hM hK
      refine Ops.call _ [4, 0, 1] hSt rfl rfl rfl ⟨.inr rfl, .inr rfl, .inl rfl, trivial⟩ ?_
      rintro v V' ⟨rfl, rfl⟩
      simp only [layB, lset, lapp, List.map_nil, List.map_cons, rnB_bx, rn, rnL, rnB_emp]
      generalize hM : bx W0 (memU m2) = M
      generalize hK : bx W0 (workU W0 s2 (some hs)) = K
      cbv
      subst hM hK
      refine ⟨k', by omega, o.reI (Re.ren [0, 1, 2, 3, 4] _ _ rfl rfl ?_ ?_ fun r => ⟨i + 1, s2, m2, r, by omega, hrn, hwo2, rfl, rfl⟩)⟩
      · exact ⟨rfl, rfl, congrArg (VV.int .i64) (by simp only [Ops.ar_eq]; exact add1 (i := i) (by omega)), trivial⟩
      · exact ⟨.inr rfl, .inl rfl, .inr rfl, .inl rfl, .inr rfl, trivial⟩
    rw [hen] at hrn ⊢
    simp only [if_true, Option.some.injEq, Prod.mk.injEq] at hrn
    have hsf := hrn.1
    (cbv; repeat' (first | (refine mt (fun h => ?_) (fun h => ?_) <;> first | (exfalso; simp [Ops.cmp_eq, Ops.not_eq, icmp] at h; done) | (try cbv)) | fail))
  all_goals
    obtain rfl : s = sf := hsf
    have hTd := told_ev (W0 := W0) s (some hs) (by have := hwo.n; omega)
    have hMa := made_ev (W0 := W0) s (some hs) 0
    have hId := idle_ev (W0 := W0) s (some hs)
    rw [hK] at hTd hMa hId
    obtain ⟨a, b, htd⟩ : ∃ a b, s.told = [a, b] := by
      rcases htd : s.told with _ | ⟨a, _ | ⟨b, _ | _⟩⟩
      · rw [htd] at hok; cases hok
      · rw [htd] at hok; cases hok
      · exact ⟨a, b, rfl⟩
      · rw [htd] at hok; cases hok
    rw [htd] at hok hTd hMa
    simp only [Bool.and_eq_true, decide_eq_true_eq] at hok
    obtain ⟨⟨⟨⟨_, q1⟩, q2⟩, q3⟩, q4⟩ := hok
    rw [q2] at hMa
    rw [q4] at hId
    simp only [slV, slB, slN, List.map_cons, List.map_nil, List.length_cons, List.length_nil] at hTd
    obtain ⟨a1, a2, ⟨c1, c2, c3, c4, c5, c6, c7, c8, c9⟩, a3, ⟨d1, d2, d3, d4⟩, a4, a5⟩ := a
    obtain ⟨b1, b2, ⟨e1, e2, e3, e4, e5, e6, e7, e8, e9⟩, b3, ⟨f1, f2, f3, f4⟩, b4, b5⟩ := b
    simp only [ToldS.cs] at hTd
    simp only at q1 q3 hMa
    subst q1 q3
    have hx : ∃ xs : List (List VV), xs = [[VV.int .i64 a1, VV.int .i64 a2, VV.int .i64 c1, VV.int .i64 c2, VV.int .i64 c3, VV.int .i64 c4, VV.int .u64 c5, VV.int .i64 c6, VV.int .i64 c7, VV.int .i64 c8, VV.int .i64 c9, VV.int .u64 a3, VV.int .i64 0, VV.int .u64 d2, VV.int .i64 d3, VV.int .i64 d4, VV.int .i64 a4, VV.int .i64 a5],
      [VV.int .i64 b1, VV.int .i64 b2, VV.int .i64 e1, VV.int .i64 e2, VV.int .i64 e3, VV.int .i64 e4, VV.int .u64 e5, VV.int .i64 e6, VV.int .i64 e7, VV.int .i64 e8, VV.int .i64 e9, VV.int .u64 b3, VV.int .i64 f1, VV.int .u64 f2, VV.int .i64 1, VV.int .i64 f4, VV.int .i64 b4, VV.int .i64 b5]] := ⟨_, rfl⟩
    obtain ⟨xs, hxs⟩ := hx
    rw [← hxs] at hTd
    have hX : ∀ ρ, xs.map (rnL ρ) = xs := fun ρ => by rw [hxs]; rfl
    have hr : ∀ (ρ : Nat → Nat) c, rnB ρ (.arr 18 xs c) = .arr 18 xs (c.rn ρ) := by intro ρ c; simp only [rnB, hX]
    have g0 : xs[0]? = some [VV.int .i64 a1, VV.int .i64 a2, VV.int .i64 c1, VV.int .i64 c2, VV.int .i64 c3, VV.int .i64 c4, VV.int .u64 c5, VV.int .i64 c6, VV.int .i64 c7, VV.int .i64 c8, VV.int .i64 c9, VV.int .u64 a3, VV.int .i64 0, VV.int .u64 d2, VV.int .i64 d3, VV.int .i64 d4, VV.int .i64 a4, VV.int .i64 a5] := by rw [hxs]; rfl
    have g1 : xs[1]? = some [VV.int .i64 b1, VV.int .i64 b2, VV.int .i64 e1, VV.int .i64 e2, VV.int .i64 e3, VV.int .i64 e4, VV.int .u64 e5, VV.int .i64 e6, VV.int .i64 e7, VV.int .i64 e8, VV.int .i64 e9, VV.int .u64 b3, VV.int .i64 f1, VV.int .u64 f2, VV.int .i64 1, VV.int .i64 f4, VV.int .i64 b4, VV.int .i64 b5] := by rw [hxs]; rfl
    clear hxs
    refine Ops.call _ [4] hTd rfl rfl rfl ⟨.inr (by rw [← hK]; rfl), trivial⟩ ?_
    rintro v V' ⟨rfl, rfl⟩
    simp only [layB, lset, lapp, List.map_nil, List.map_cons, ← hK, rnB_bx, rn, rnL, hr]
    rw [hK]
    (cbv; repeat' (first | (refine mt (fun h => ?_) (fun h => ?_) <;> first | (exfalso; simp [Ops.cmp_eq, Ops.not_eq, icmp] at h; done) | (try cbv)) | fail))
    refine ⟨by simp [o.inb_eq], ?_⟩
    simp only [Int.toNat_natCast, Int.ofNat_eq_natCast, Ops.get_eq, Ops.nadd_eq, Ops.nat_eq, Nat.zero_add, g0, Int.toNat_zero]
    (cbv; repeat' (first | (refine mt (fun h => ?_) (fun h => ?_) <;> first | (exfalso; simp [Ops.cmp_eq, Ops.not_eq, icmp] at h; done) | (try cbv)) | fail))
    refine ⟨by simp [o.inb_eq], ?_⟩
    simp only [Int.toNat_natCast, Int.ofNat_eq_natCast, Ops.get_eq, Ops.nadd_eq, Ops.nat_eq, Nat.zero_add, g0, Int.toNat_zero]
    cbv
    refine Ops.call _ [4] hMa rfl rfl rfl ⟨.inr (by rw [← hK]; rfl), trivial⟩ ?_
    rintro v V' ⟨rfl, rfl⟩
    simp only [layB, lset, lapp, List.map_nil, List.map_cons, ← hK, rnB_bx, rn, rnL]
    rw [hK]
    cbv
    refine ⟨by simp only [Ops.get_eq, g0]; exact ⟨rfl, rfl, trivial⟩, ?_⟩
    simp only [Ops.cmp_eq, icmp, beq_self_eq_true]
    cbv
    refine ⟨by simp [o.inb_eq], ?_⟩
    simp only [Int.toNat_natCast, Int.ofNat_eq_natCast, Ops.get_eq, Ops.nadd_eq, Ops.nat_eq, Nat.zero_add, g1, Int.toNat_one]
    (cbv; repeat' (first | (refine mt (fun h => ?_) (fun h => ?_) <;> first | (exfalso; simp [Ops.cmp_eq, Ops.not_eq, icmp] at h; done) | (try cbv)) | fail))
    refine Ops.call _ [4] hId rfl rfl rfl ⟨.inr (by rw [← hK]; rfl), trivial⟩ ?_
    rintro v V' ⟨rfl, rfl⟩
    simp only [layB, lset, lapp, List.map_nil, List.map_cons, ← hK, rnB_bx, rn, rnL]
    rw [hK]
    cbv
    refine ⟨by simp only [Ops.get_eq, g0, g1]; exact ⟨rfl, rfl, rfl, trivial⟩, ?_⟩
    exact hQ _ _ (ReV.none rfl ⟨rfl, rfl⟩)
end Go.Proofs.YtglghdjpkecngaaGreat
