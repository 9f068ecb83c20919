/- shelf: contracts. -/
import Derived.Test.YtglghdjpkecngaaGreatBC
import Derived.Test.YtglghdjpkecngaaGreatIRC
import Derived.Test.YtglghdjpkecngaaGreatBI
namespace Go.Proofs.YtglghdjpkecngaaGreat
set_option linter.unusedVariables false
set_option linter.unusedSimpArgs false
open Go Go.SL Go.FL
set_option maxRecDepth 100000
theorem headB_rn (ρ : Nat → Nat) (l : List Nat) (j : Nat) : rnB ρ (headB l j) = headB l (ρ j) := by
  cases l with
  | nil => rfl
  | cons x t => simp [headB, rnB, Cap.rn, rnL, rn, Function.comp_def]
theorem headB_fit {ρ : Nat → Nat} {V : List VB} {p j : Nat} {l : List Nat} {b : VB} (hb : headB l j = b) (hV : lget V p = some b) (hj : ρ j = j) : headB l j = .emp ∨ lget V p = some (rnB ρ (headB l j)) := by
  rw [headB_rn, hj, hb]; exact .inr hV
theorem numB_fit {ρ : Nat → Nat} {V : List VB} {p : Nat} {l : List Nat} {b : VB} (hb : numB l = b) (hV : lget V p = some b) : numB l = .emp ∨ lget V p = some (rnB ρ (numB l)) := by
  cases l with
  | nil => exact .inl rfl
  | cons => exact .inr (by rw [hV, ← hb]; rfl)
theorem headV_rn (ρ : Nat → Nat) (l : List Nat) (i j : Nat) : rn ρ (headV l i j) = headV l (ρ i) (ρ j) := by
  cases l <;> rfl
theorem cells_fit {ρ : Nat → Nat} {V : List VB} {p i j : Nat} {l : List Nat} {b : VV} (hb : headV l i j = b) (hV : lget V p = some (.cells [b])) (hi : ρ i = i) (hj : ρ j = j) : VB.cells [headV l i j] = .emp ∨ lget V p = some (rnB ρ (.cells [headV l i j])) := by
  refine .inr ?_
  rw [hV]
  show _ = some (VB.cells [rn ρ (headV l i j)])
  rw [headV_rn, hi, hj, hb]
theorem shelfFresh_ev {W0 : World} (e : EnvS) (lists : Int) (m : MemS) {x : Int} {hs : List Nat} {m' : MemS} (h : freshShelf e lists m = some (x, hs, m')) : Ev Tryz.prog W0 38 [e.v 0, .int .i64 lists] [bx W0 (memU m)]
    (fun v V' => if x = 0 then v = .tup [.ptr 1 0, .int .i64 0] ∧ V' = [bx W0 (memU m'), bx W0 (shelfU hs)] else v = .tup [.nilPtr, .int .i64 x] ∧ V' = [bx W0 (memU m')]) := by
  refine Ev.out fun Q' hQ => ?_
  generalize hM : bx W0 (memU m) = M at *
  refine ev38 rfl fun o => ?_
  unfold freshShelf at h
  by_cases hb : lists < 0 ∨ 8 < lists
  · rw [if_pos hb] at h
    simp only [Option.some.injEq, Prod.mk.injEq] at h
    obtain ⟨rfl, rfl, rfl⟩ := h
    rcases hb with hb | hb
    · (cbv; repeat' (first | (refine mt (fun h => ?_) (fun h => ?_) <;> first | (exfalso; simp [Ops.cmp_eq, icmp] at h; omega) | (try cbv)) | fail))
      exact hQ _ _ (ReV.m0 hM (fun _ => rfl) ⟨rfl, by rw [hM]⟩)
    · (cbv; repeat' (first | (refine mt (fun h => ?_) (fun h => ?_) <;> first | (exfalso; simp [Ops.cmp_eq, icmp] at h; omega) | (try cbv)) | fail))
      all_goals exact hQ _ _ (ReV.m0 hM (fun _ => rfl) ⟨rfl, by rw [hM]⟩)
  · rw [if_neg hb] at h
    have hrun0 := h
    clear h
    obtain ⟨n0, rfl⟩ : ∃ n0 : Nat, lists = n0 := ⟨lists.toNat, by omega⟩
    have hn0 : n0 ≤ 8 := by omega
    rw [Int.toNat_natCast] at hrun0
    have hE : e.v 0 = .agg [.int .i64 e.c.threads, .int .i64 e.c.slots, .int .i64 e.c.chunks, .int .i64 e.c.words, .int .i64 e.c.gens, .int .i64 e.c.sparse, .int .i64 e.c.tries, .ptr 0 0, .int .i64 e.who] := rfl
    (cbv; repeat' (first | (refine mt (fun h => ?_) (fun h => ?_) <;> first | (exfalso; simp [Ops.cmp_eq, icmp] at h; omega) | (try cbv)) | fail))
    subst hM
    refine ⟨fun k env V => ∃ (i : Nat) (l : List Nat) (mi : MemS) (r : Nat → Value), i + k = n0 ∧ l.length = i ∧ shelfRun e k l mi = some (x, hs, m') ∧
      env = mix [(2, .ptr 1 0), (6, .ptr 2 0), (18, .int .i64 n0), (19, .int .i64 i)] r ∧ V = [bx W0 (memU mi), envC e 0, .cells [headV l 3 4], headB l 4, numB l],
      ⟨n0, o.reI (Re.ren [0, 1, 2, 3, 4] _ _ rfl rfl ?_ ?_ fun r => ⟨0, [], m, r, by omega, rfl, hrun0, rfl, rfl⟩)⟩, ?_⟩
    · exact ⟨rfl, rfl, rfl, rfl, trivial⟩
    · exact ⟨.inr rfl, .inr rfl, .inr rfl, .inl rfl, .inl rfl, trivial⟩
    rintro k env V ⟨i, l, mi, r, hik, hli, hrun, rfl, rfl⟩
    generalize hM : bx W0 (memU mi) = M
    generalize hs1 : headV l 3 4 = sv
    generalize hs2 : headB l 4 = sb
    generalize hs3 : numB l = sn
    (cbv; repeat' (first | (refine mt (fun _ => ?_) (fun _ => ?_) <;> (try cbv)) | fail))
    · rename_i h1
      (try simp only [cfix] at *); (try simp only [Int.ofNat_eq_natCast] at *)
      have h2 : (i : Int) < n0 := by simpa [Ops.cmp_eq, icmp] using h1
      have h2 : i < n0 := by omega
      obtain ⟨k', rfl⟩ : ∃ k', k = k' + 1 := ⟨k - 1, by omega⟩
      refine Ops.call _ [] (actNew_ev nodeX) rfl rfl rfl trivial ?_
      intro v V' hr
      rw [show checkAct nodeX = true from rfl] at hr
      simp only [if_true] at hr
      obtain ⟨rfl, rfl⟩ := hr
      simp only [shelfRun] at hrun
      generalize newAct nodeX = a0 at *
      have htill : ∃ a m2, actTill e nodeFuel a0 mi = some (a, m2) ∧ (if a.out.e = 0 then shelfRun e k' (l ++ [a.out.h]) m2 else some (a.out.e, l, m2)) = some (x, hs, m') := by
        cases ha : actTill e nodeFuel a0 mi with
        | none => rw [ha] at hrun; cases hrun
        | some q => obtain ⟨a, m2⟩ := q; rw [ha] at hrun; exact ⟨a, m2, rfl, hrun⟩
      obtain ⟨af, mf, hta, hrest⟩ := htill
      clear hrun
      simp only [layB, lapp, List.map_cons, List.map_nil, rnB_bx, rn, rnL]
      generalize hA : bx W0 (actU W0 a0) = A
      cbv
      subst hM hA
      refine ⟨fun k env V => ∃ (a : ActS) (mj : MemS) (r : Nat → Value), actTill e k a mj = some (af, mf) ∧
        env = mix [(2, .ptr 1 0), (6, .ptr 2 0), (7, .ptr 5 0), (18, .int .i64 n0), (19, .int .i64 i)] r ∧ V = [bx W0 (memU mj), envC e 0, .cells [sv], sb, sn, bx W0 (actU W0 a)],
        ⟨nodeFuel, o.reI (Re.ren [0, 1, 2, 3, 4, 5] _ _ rfl rfl ?_ ?_ fun r => ⟨a0, mi, r, hta, rfl, rfl⟩)⟩, ?_⟩
      · exact ⟨rfl, rfl, rfl, rfl, rfl, trivial⟩
      · rw [← hs1, ← hs2, ← hs3]
        exact ⟨.inr rfl, .inr rfl, cells_fit rfl rfl rfl rfl, headB_fit rfl rfl rfl, numB_fit rfl rfl, .inr rfl, trivial⟩
      rintro k2 env V ⟨a, mj, r2, hrun, rfl, rfl⟩
      generalize hM : bx W0 (memU mj) = M
      generalize hA : bx W0 (actU W0 a) = A
      cbv
      cases k2 with
      | zero => cases hrun
      | succ k2 =>
      have hwf : a.wfb e.c = true := by
        cases hw : a.wfb e.c with
        | true => rfl
        | false => simp [actTill, hw] at hrun
      simp only [actTill, hwf, if_true] at hrun
      refine Ops.call _ [0, 5] (Act_ev mj e a (awf_of hwf)) rfl rfl rfl ⟨.inr (by rw [← hM]; rfl), .inr (by rw [← hA]; rfl), trivial⟩ ?_
      rintro v V' ⟨rfl, rfl⟩
      generalize hr : a.step e mj = q at *
      obtain ⟨rb, a', m2⟩ := q
      simp only [layB, lset, lapp, List.map_nil, List.map_cons, rnB_bx, rn]
      clear hM hA
      generalize hM : bx W0 (memU m2) = M
      generalize hA : bx W0 (actU W0 a') = A
      cases rb with
      | false =>
        (cbv; repeat' (first | (refine mt (fun h => ?_) (fun h => ?_) <;> first | (exfalso; simp [Ops.cmp_eq, Ops.not_eq, icmp] at h; done) | (try cbv)) | fail))
        simp only [Bool.false_eq_true, if_false] at hrun
        refine ⟨k2, by omega, o.reI (Re.ren [0, 1, 2, 3, 4, 5] _ _ rfl rfl ?_ ?_ fun r => ⟨a', m2, r, hrun, rfl, rfl⟩)⟩
        · exact ⟨rfl, rfl, rfl, rfl, rfl, trivial⟩
        · rw [← hs1, ← hs2, ← hs3]
          exact ⟨.inr (by rw [← hM]; rfl), .inr rfl, cells_fit rfl rfl rfl rfl, headB_fit rfl rfl rfl, numB_fit rfl rfl, .inr (by rw [← hA]; rfl), trivial⟩
      | true =>
        (cbv; repeat' (first | (refine mt (fun h => ?_) (fun h => ?_) <;> first | (exfalso; simp [Ops.cmp_eq, Ops.not_eq, icmp] at h; done) | (try cbv)) | fail))
        simp only [if_true, Option.some.injEq, Prod.mk.injEq] at hrun
        obtain ⟨rfl, rfl⟩ := hrun
        refine Ops.call _ [5] (actDone_ev a') rfl rfl rfl ⟨.inr (by rw [← hA]; rfl), trivial⟩ ?_
        rintro v V' ⟨rfl, rfl⟩
        generalize a'.out = d at *
        obtain ⟨d1, d2, d3, d4⟩ := d
        simp only [layB, lset, lapp, List.map_nil, List.map_cons, rnB_bx, doneV, rn, rnL]
        rw [hA]
        simp only [] at hrest
        (cbv; repeat' (first | (refine mt (fun _ => ?_) (fun _ => ?_) <;> (try cbv)) | fail))
        · rename_i h3
          have h3 : d1 ≠ 0 := by simpa [Ops.cmp_eq, icmp] using h3
          rw [if_neg h3] at hrest
          simp only [Option.some.injEq, Prod.mk.injEq] at hrest
          obtain ⟨rfl, rfl, rfl⟩ := hrest
          refine hQ _ _ (ReV.m0 hM (fun _ => rfl) ?_)
          rw [if_neg h3, hM]
          exact ⟨rfl, rfl⟩
        · rename_i h3
          have h3 : d1 = 0 := by simpa [Ops.cmp_eq, icmp] using h3
          rw [if_pos h3] at hrest
          subst h3
          cases l with
          | nil =>
            obtain rfl : VV.nilSl = sv := hs1
            obtain rfl : VB.emp = sb := hs2
            obtain rfl : VB.emp = sn := hs3
            cbv
            refine ⟨by simp [o.ll_eq, o.sub_eq], by simp [o.all1_eq, o.sub_eq, allOne, VV.one], ⟨by simp [o.nle_eq], by simp [o.nle_eq, o.nmul_eq]⟩, .inr fun _ => ?_⟩
            simp only [o.cat_eq, o.sub_eq, o.nadd_eq, o.nmul_eq, List.drop_zero, List.take_succ_cons, List.take_zero]
            cbv
            refine ⟨k', by omega, o.reI (Re.ren [0, 1, 2, 9, 8] _ _ rfl rfl ?_ ?_ fun r => ⟨i + 1, [d2], m2, r, by omega, by simp at hli ⊢; omega, hrest, rfl, rfl⟩)⟩
            · refine ⟨rfl, rfl, rfl, ?_, trivial⟩
              exact congrArg (VV.int .i64) (by simp only [Ops.ar_eq]; exact add1 (i := i) (by omega))
            · exact ⟨.inr (by rw [← hM]; rfl), .inr rfl, .inr rfl, .inr rfl, .inr rfl, trivial⟩
          | cons y t =>
            rw [show headV (y :: t) 3 4 = .sl 3 1 0 (y :: t).length (.v 4) from rfl] at hs1
            rw [show headB (y :: t) 4 = .arr 1 ((y :: t).map fun h : Nat => [.int .u64 (h : Int)]) (.v 4) from rfl] at hs2
            obtain rfl : VB.num = sn := hs3
            generalize hn : (y :: t).length = n at *
            generalize hxs : ((y :: t).map fun h : Nat => [VV.int .u64 (h : Int)]) = xs at *
            subst hs1 hs2
            cbv
            refine ⟨by simp [o.ll_eq, o.sub_eq], by simp [o.all1_eq, o.sub_eq, allOne, VV.one], ⟨by simp [o.ll_eq, ← hxs, ← hn], by simp [o.nle_eq, o.nmul_eq, o.nadd_eq]; omega⟩, ?_⟩
            simp only [o.cat_eq, o.sub_eq, o.nadd_eq, o.nmul_eq, List.drop_zero, List.take_succ_cons, List.take_zero]
            cbv
            refine ⟨k', by omega, o.reI (Re.ren [0, 1, 2, 9, 8] _ _ rfl rfl ?_ ?_ fun r => ⟨i + 1, (y :: t) ++ [d2], m2, r, by omega, by simp at hn ⊢; omega, hrest, rfl, rfl⟩)⟩
            · refine ⟨rfl, rfl, rfl, ?_, trivial⟩
              exact congrArg (VV.int .i64) (by simp only [Ops.ar_eq]; exact add1 (i := i) (by omega))
            · have e1 : headV ((y :: t) ++ [d2]) 3 4 = .sl 3 1 0 (n + 1) (.v 4) := by rw [← hn]; simp [headV]
              have e2 : headB ((y :: t) ++ [d2]) 4 = .arr 1 (xs ++ [[.int .u64 (d2 : Int)]]) (.v 4) := by rw [← hxs]; simp [headB]
              have e3 : xs.map (rnL (rho [0, 1, 2, 9, 8] 10)) = xs := by rw [← hxs]; simp [rnL, rn]
              rw [e1, e2]
              refine ⟨.inr (by rw [← hM]; rfl), .inr rfl, .inr rfl, .inr ?_, .inr rfl, trivial⟩
              show some (VB.arr 1 (xs ++ [[.int .u64 (d2 : Int)]]) (.v 8)) = some (VB.arr 1 ((xs ++ [[VV.int .u64 (d2 : Int)]]).map (rnL (rho [0, 1, 2, 9, 8] 10))) (.v 8))
              rw [List.map_append, e3]; rfl
    · rename_i h1
      (try simp only [cfix] at *); (try simp only [Int.ofNat_eq_natCast] at *)
      have h2 : ¬ (i : Int) < n0 := by simpa [Ops.cmp_eq, icmp] using h1
      obtain rfl : k = 0 := by omega
      simp only [shelfRun, Option.some.injEq, Prod.mk.injEq] at hrun
      obtain ⟨rfl, rfl, rfl⟩ := hrun
      refine hQ _ _ (ReV.shut 2 [3, 4] (shelfU l) rfl rfl ?_ ?_)
      · rw [← hs1, ← hs2, ← hs3]
        refine ⟨.inr ?_, ?_, ?_, trivial⟩
        · show some (VB.cells [headV l 3 4]) = some (VB.cells [rn (rho [2, 3, 4] 5) (headV l 1 2)])
          rw [headV_rn]; rfl
        · show _ ∨ some (headB l 4) = some (rnB (rho [2, 3, 4] 5) (headB l 2))
          rw [headB_rn]; exact .inr rfl
        · exact numB_fit rfl rfl
      · refine ReV.ren [0, 2] (.tup [.ptr 1 0, .int .i64 0]) [M, bx W0 (shelfU l)] rfl rfl rfl ⟨.inr (by rw [← hM]; rfl), .inr rfl, trivial⟩ ?_
        rw [if_pos rfl, ← hM]
        exact ⟨rfl, rfl⟩
end Go.Proofs.YtglghdjpkecngaaGreat
