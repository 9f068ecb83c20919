/- hist: the plain store: a word is read, or laid. -/
import Derived.Test.YthoodnlihbaimaaHV
namespace Go.Proofs.Ythoodnlihbaimaa
set_option linter.unusedVariables false
set_option linter.unusedSimpArgs false
open Go Go.SL Go.FL
set_option maxRecDepth 100000
set_option maxHeartbeats 1000000 in
theorem word_ev {W0 : World} (s : StoreP) (t : Told) (h : Nat) (ht : t.handle = (h : Int)) :
    Ev Try.prog W0 38 [.ptr 0 0, .agg t.cs] [modelB W0 s] (fun v V' => v = .bool (wordP s t h).2 ∧ V' = [modelB W0 (wordP s t h).1]) := by
  refine Ev.out fun Q' hQ => openM (by kernel_rfl) fun l hl hn => ?_
  have hop : opos s h = hpos ObjX.h l h := by unfold opos; rw [← hl]; exact hpos_p l h
  obtain ⟨a1, a2, kd, a4, a5, a6, a7, ix, vl, old, a11, hd, te, a14, dv, a16, a17, a18⟩ := t
  have hh : hd = (h : Int) := ht
  simp only [Told.cs]
  cases hj : hpos ObjX.h l h with
  | none =>
    have hP : wordP s ⟨a1, a2, kd, a4, a5, a6, a7, ix, vl, old, a11, hd, te, a14, dv, a16, a17, a18⟩ h = (s, te == 3) := by
      unfold wordP; rw [hop, hj]
    rw [hP] at hQ
    clear hP hop
    have hm : mvalF (hks l) (hvs l) (.int .u64 hd) = none := by rw [hh, mval_hks, hj]; rfl
    have hka := kall_hks l
    have fin : ∀ (E V : List VB) (r : Bool), V = modelU W0 l s.keys ++ E → r = (te == 3) → Q' (.bool r) V := fun E V r hV hr => shutM hV hl hn rfl (by rw [hr]; exact hQ)
    refine ev38 rfl fun o => ?_
    unfold modelU at *
    generalize hK : hks l = K at *
    generalize hVs : hvs l = VS at *
    generalize kks s.keys = KK at *
    generalize kvs s.keys = KV at *
    generalize rest W0 (objsI l) = R at *
    (cbv; repeat' (first | (refine ⟨by simp only [Ops.need_eq, needs]; first | rfl | decide, ?_⟩; try cbv) | (refine mt (fun h => ?_) (fun h => ?_) <;> first | (exfalso; simp [Ops.cmp_eq, Ops.not_eq, icmp] at h; done) | (exfalso; simp [Ops.cmp_eq, icmp] at h; omega) | (try cbv))))
    refine ⟨by simp only [o.kall_eq]; exact hka, ?_⟩
    simp only [o.mval_eq, hm]
    (refine ⟨by first | (cbv; done) | exact trivial | (cbv; trivial), ?_⟩); (cbv; repeat' (first | (refine ⟨by simp only [Ops.need_eq, needs]; first | rfl | decide, ?_⟩; try cbv) | (refine mt (fun h => ?_) (fun h => ?_) <;> first | (exfalso; simp [Ops.cmp_eq, Ops.not_eq, icmp] at h; done) | (exfalso; simp [Ops.cmp_eq, icmp] at h; omega) | (try cbv))))
    refine fin _ _ _ rfl ?_
    simp [Ops.cmp_eq, icmp]
  | some j =>
    obtain ⟨ob, hg, hgh⟩ := hpos_lt hj
    have hsg : s.objs[j]? = some (h, ob.ws) := by rw [← hl, List.getElem?_map, hg]; simp [ObjX.p, hgh]
    have hi : objsI l h = some (objItem ob) := by unfold objsI; rw [hj]; simp [hg]
    have hvj : (hvs l)[j]? = some (.raw ob.x) := by unfold hvs; rw [List.getElem?_map, hg]; rfl
    have hm : ∀ u, mvalF (hks l) ((hvs l).set j u) (.int .u64 hd) = some u := fun u => by
      rw [hh, mval_hks, hj]
      simp only [Option.bind_some]
      rw [List.getElem?_set_self (List.getElem?_eq_some_iff.1 hvj).1]
    have hka := kall_hks l
    refine Ev.take 3 1 h (I := objsI l) (it := objItem ob) (C := .map (hks l) (hvs l)) (.map (hks l) ((hvs l).set j (.sl 4 1 0 ob.ws.length (.n ob.ws.length)))) rfl hi rfl rfl (fun φ f hd hc => map_tell hvj hd hc) ?_
    have hP : wordP s ⟨a1, a2, kd, a4, a5, a6, a7, ix, vl, old, a11, hd, te, a14, dv, a16, a17, a18⟩ h =
        if ix < 0 ∨ (ob.ws.length : Int) ≤ ix then (s, te == 4) else
        if kd = 5 ∧ ob.ws.getD ix.toNat 0 ≠ old then (s, te == 8 && dv == ob.ws.getD ix.toNat 0)
        else if kd ≠ 3 then (⟨s.objs.set j (h, ob.ws.set ix.toNat vl), s.keys⟩, te == 0 && dv == ob.ws.getD ix.toNat 0)
        else (s, te == 0 && dv == ob.ws.getD ix.toNat 0) := by
      unfold wordP; rw [hop, hj]; simp only [hsg]
    rw [hP] at hQ
    clear hP hop
    -- the end, in three ways
    have fin : ∀ (ws : List Int) (E V : List VB) (r : Bool), ws.length = ob.ws.length → V = [.cells [.map 1, .map 2], .map (hks l) ((hvs l).set j (.sl 4 1 0 ob.ws.length (.n ob.ws.length))), .map (kks s.keys) (kvs s.keys), rest W0 (upI (objsI l) h none), .arr 1 (wcs ws) (.n ob.ws.length)] ++ E →
        (∀ v V', ReV W0 1 (fun v V' => v = .bool r ∧ V' = [modelB W0 ⟨s.objs.set j (h, ws), s.keys⟩]) v V' → Q' v V') → Q' (.bool r) V := by
      intro ws E V r hwl hV hq
      subst hV
      refine hq _ _ (ReV.put 3 1 h [4] [.sl 0 1 0 ws.length (.n ws.length)] [.arr 1 (wcs ws) (.n ws.length)] (fun l0 => .map (hks l) (((hvs l).set j (.sl 4 1 0 ws.length (.n ws.length))).set j (.raw (l0.headD (.int .i64 0))))) rfl rfl rfl ⟨.inr ?_, trivial⟩ (fun φ f hc => ?_) fun l0 hl0 => ?_)
      · rw [hwl]
        show some (VB.arr 1 (wcs ws) _) = some (VB.arr 1 ((wcs ws).map (rnL _)) _)
        rw [rnL_wcs]; rfl
      · rw [← hwl] at hc
        exact map_hide (List.getElem?_set_self (List.getElem?_eq_some_iff.1 hvj).1) hc
      · obtain ⟨x, rfl⟩ : ∃ x, l0 = [x] := by
          match l0, hl0 with
          | [x], _ => exact ⟨x, rfl⟩
        obtain ⟨q1, q2, q3, q4⟩ := set_same (ws := ws) (x := x) hj
        refine shutR (s := ⟨s.objs.set j (h, ws), s.keys⟩) (l := l.set j ⟨h, ws, x⟩) (ks := s.keys) (E := .emp :: E) ?_ ?_ (q4 hn) rfl rfl ⟨rfl, rfl⟩
        · unfold modelU
          rw [q1, q2, q3]
          simp only [List.headD_cons, List.set_set]
          rfl
        · rw [List.map_set, hl]; rfl
    have fin0 : ∀ (E V : List VB) (r : Bool), V = [.cells [.map 1, .map 2], .map (hks l) ((hvs l).set j (.sl 4 1 0 ob.ws.length (.n ob.ws.length))), .map (kks s.keys) (kvs s.keys), rest W0 (upI (objsI l) h none), .arr 1 (wcs ob.ws) (.n ob.ws.length)] ++ E →
        (∀ v V', ReV W0 1 (fun v V' => v = .bool r ∧ V' = [modelB W0 s]) v V' → Q' v V') → Q' (.bool r) V := by
      intro E V r hV hq
      refine fin ob.ws E V r rfl hV ?_
      have : s.objs.set j (h, ob.ws) = s.objs := by
        apply List.ext_getElem?
        intro i
        by_cases e : i = j
        · subst e; rw [List.getElem?_set_self (List.getElem?_eq_some_iff.1 hsg).1, hsg]
        · rw [List.getElem?_set_ne (Ne.symm e)]
      rw [this]; exact hq
    show Ev Try.prog W0 _ _ [.cells [.map 1, .map 2], .map (hks l) ((hvs l).set j (.sl 4 1 0 ob.ws.length (.n ob.ws.length))), .map (kks s.keys) (kvs s.keys), rest W0 (upI (objsI l) h none), .arr 1 ((wcs ob.ws).map (rnL (sh 4))) (.n ob.ws.length)] _
    rw [rnL_wcs]
    have hwg := fun hi => wcs_get (ws := ob.ws) (i := ix.toNat) hi
    have hws := wcs_set ob.ws ix.toNat vl
    have hm := hm (.sl 4 1 0 ob.ws.length (.n ob.ws.length))
    have fin1 := fun E V r => fin (ob.ws.set ix.toNat vl) E V r List.length_set
    clear fin hi hvj hj hg hsg
    generalize ob.ws.getD ix.toNat 0 = was at *
    generalize wcs (ob.ws.set ix.toNat vl) = xs' at *
    generalize ob.ws.length = n at *
    generalize wcs ob.ws = xs at *
    generalize (hvs l).set j (.sl 4 1 0 n (.n n)) = VS at *
    generalize hks l = K at *
    generalize kks s.keys = KK at *
    generalize kvs s.keys = KV at *
    generalize rest W0 (upI (objsI l) h none) = R at *
    refine ev38 rfl fun o => ?_
    by_cases hix : ix < 0 ∨ (n : Int) ≤ ix
    · rw [if_pos hix] at hQ
      clear hwg hws fin1
      have hix2 : ix < 0 ∨ ∃ i : Nat, ix = i ∧ n ≤ i := by
        rcases hix with h | h
        · exact .inl h
        · exact .inr ⟨ix.toNat, by omega, by omega⟩
      clear hix
      rcases hix2 with hix | ⟨i, rfl, hix⟩
      all_goals
        (cbv; repeat' (first | (refine ⟨by simp only [Ops.need_eq, needs]; first | rfl | decide, ?_⟩; try cbv) | (refine mt (fun h => ?_) (fun h => ?_) <;> first | (exfalso; simp [Ops.cmp_eq, Ops.not_eq, icmp] at h; done) | (exfalso; simp [Ops.cmp_eq, icmp] at h; omega) | (try cbv))))
        refine ⟨by simp only [o.kall_eq]; exact hka, ?_⟩
        simp only [o.mval_eq, hm]
        (refine ⟨by first | (cbv; done) | exact trivial | (cbv; trivial), ?_⟩); (cbv; repeat' (first | (refine ⟨by simp only [Ops.need_eq, needs]; first | rfl | decide, ?_⟩; try cbv) | (refine mt (fun h => ?_) (fun h => ?_) <;> first | (exfalso; simp [Ops.cmp_eq, Ops.not_eq, icmp] at h; done) | (exfalso; simp [Ops.cmp_eq, icmp] at h; omega) | (try cbv))))
        all_goals
          refine fin0 _ _ _ rfl ?_
          simpa [Ops.cmp_eq, icmp] using hQ
    · rw [if_neg hix] at hQ
      obtain ⟨i, rfl⟩ : ∃ i : Nat, ix = i := ⟨ix.toNat, by omega⟩
      have hin : i < n := by omega
      have hg := hwg (by simpa using hin)
      simp only [Int.toNat_natCast] at hg hws fin1
      clear hwg hix
      by_cases h5 : kd = 5
      · subst h5
        by_cases ho : was = old
        · subst ho
          rw [if_neg (by simp), if_pos (by decide)] at hQ
          clear fin0
          (cbv; repeat' (first | (refine ⟨by simp only [Ops.need_eq, needs]; first | rfl | decide, ?_⟩; try cbv) | (refine mt (fun h => ?_) (fun h => ?_) <;> first | (exfalso; simp [Ops.cmp_eq, Ops.not_eq, icmp] at h; done) | (exfalso; simp [Ops.cmp_eq, icmp] at h; omega) | (try cbv))))
          refine ⟨by simp only [o.kall_eq]; exact hka, ?_⟩
          simp only [o.mval_eq, hm]
          (refine ⟨by first | (cbv; done) | exact trivial | (cbv; trivial), ?_⟩); (cbv; repeat' (first | (refine ⟨by simp only [Ops.need_eq, needs]; first | rfl | decide, ?_⟩; try cbv) | (refine mt (fun h => ?_) (fun h => ?_) <;> first | (exfalso; simp [Ops.cmp_eq, Ops.not_eq, icmp] at h; done) | (exfalso; simp [Ops.cmp_eq, icmp] at h; omega) | (try cbv))))
          refine ⟨by simp only [Ops.inb_eq]; exact decide_eq_true ⟨by first | exact (Int.natCast_nonneg i) | (simp only [Int.ofNat_eq_natCast]; exact (Int.natCast_nonneg i)), by first | exact (show (i : Int) < n by omega) | (simp only [Int.ofNat_eq_natCast]; exact (show (i : Int) < n by omega))⟩, ?_⟩
          simp only [Int.toNat_natCast, Int.ofNat_eq_natCast, Ops.get_eq, Ops.nadd_eq, Ops.nat_eq, Nat.zero_add, hg]
          (cbv; repeat' (first | (refine ⟨by simp only [Ops.need_eq, needs]; first | rfl | decide, ?_⟩; try cbv) | (refine mt (fun h => ?_) (fun h => ?_) <;> first | (exfalso; simp [Ops.cmp_eq, Ops.not_eq, icmp] at h; done) | (exfalso; simp [Ops.cmp_eq, icmp] at h; omega) | (try cbv))))
          refine ⟨by simp only [Ops.inb_eq]; exact decide_eq_true ⟨by first | exact (Int.natCast_nonneg i) | (simp only [Int.ofNat_eq_natCast]; exact (Int.natCast_nonneg i)), by first | exact (show (i : Int) < n by omega) | (simp only [Int.ofNat_eq_natCast]; exact (show (i : Int) < n by omega))⟩, ?_⟩
          simp only [Int.toNat_natCast, Int.ofNat_eq_natCast, Ops.get_eq, Ops.nadd_eq, Ops.nat_eq, Nat.zero_add, hg]
          (cbv; repeat' (first | (refine ⟨by simp only [Ops.need_eq, needs]; first | rfl | decide, ?_⟩; try cbv) | (refine mt (fun h => ?_) (fun h => ?_) <;> first | (exfalso; simp [Ops.cmp_eq, Ops.not_eq, icmp] at h; done) | (exfalso; simp [Ops.cmp_eq, icmp] at h; omega) | (try cbv))))
          all_goals
            simp only [Ops.cmp_eq, icmp] at h
            simp only [h, Bool.true_and, Bool.false_and] at hQ
            refine fin1 ?_ _ _ ?_ ?_
            rotate_left
            · simp only [Ops.set_eq, hws]; rfl
            · simpa [Ops.cmp_eq, icmp] using hQ
        · rw [if_pos ⟨rfl, ho⟩] at hQ
          clear fin1
          (cbv; repeat' (first | (refine ⟨by simp only [Ops.need_eq, needs]; first | rfl | decide, ?_⟩; try cbv) | (refine mt (fun h => ?_) (fun h => ?_) <;> first | (exfalso; simp [Ops.cmp_eq, Ops.not_eq, icmp] at h; done) | (exfalso; simp [Ops.cmp_eq, icmp] at h; omega) | (try cbv))))
          refine ⟨by simp only [o.kall_eq]; exact hka, ?_⟩
          simp only [o.mval_eq, hm]
          (refine ⟨by first | (cbv; done) | exact trivial | (cbv; trivial), ?_⟩); (cbv; repeat' (first | (refine ⟨by simp only [Ops.need_eq, needs]; first | rfl | decide, ?_⟩; try cbv) | (refine mt (fun h => ?_) (fun h => ?_) <;> first | (exfalso; simp [Ops.cmp_eq, Ops.not_eq, icmp] at h; done) | (exfalso; simp [Ops.cmp_eq, icmp] at h; omega) | (try cbv))))
          refine ⟨by simp only [Ops.inb_eq]; exact decide_eq_true ⟨by first | exact (Int.natCast_nonneg i) | (simp only [Int.ofNat_eq_natCast]; exact (Int.natCast_nonneg i)), by first | exact (show (i : Int) < n by omega) | (simp only [Int.ofNat_eq_natCast]; exact (show (i : Int) < n by omega))⟩, ?_⟩
          simp only [Int.toNat_natCast, Int.ofNat_eq_natCast, Ops.get_eq, Ops.nadd_eq, Ops.nat_eq, Nat.zero_add, hg]
          (cbv; repeat' (first | (refine ⟨by simp only [Ops.need_eq, needs]; first | rfl | decide, ?_⟩; try cbv) | (refine mt (fun h => ?_) (fun h => ?_) <;> first | (exfalso; simp [Ops.cmp_eq, Ops.not_eq, icmp] at h; done) | (exfalso; simp [Ops.cmp_eq, icmp] at h; omega) | (try cbv))))
          all_goals
            simp only [Ops.cmp_eq, icmp] at h
            simp only [h, Bool.true_and, Bool.false_and] at hQ
            refine fin0 _ _ _ rfl ?_
            simpa [Ops.cmp_eq, icmp] using hQ
      · rw [if_neg (fun h => h5 h.1)] at hQ
        by_cases h3 : kd = 3
        · subst h3
          rw [if_neg (by simp)] at hQ
          clear fin1
          (cbv; repeat' (first | (refine ⟨by simp only [Ops.need_eq, needs]; first | rfl | decide, ?_⟩; try cbv) | (refine mt (fun h => ?_) (fun h => ?_) <;> first | (exfalso; simp [Ops.cmp_eq, Ops.not_eq, icmp] at h; done) | (exfalso; simp [Ops.cmp_eq, icmp] at h; omega) | (try cbv))))
          refine ⟨by simp only [o.kall_eq]; exact hka, ?_⟩
          simp only [o.mval_eq, hm]
          (refine ⟨by first | (cbv; done) | exact trivial | (cbv; trivial), ?_⟩); (cbv; repeat' (first | (refine ⟨by simp only [Ops.need_eq, needs]; first | rfl | decide, ?_⟩; try cbv) | (refine mt (fun h => ?_) (fun h => ?_) <;> first | (exfalso; simp [Ops.cmp_eq, Ops.not_eq, icmp] at h; done) | (exfalso; simp [Ops.cmp_eq, icmp] at h; omega) | (try cbv))))
          refine ⟨by simp only [Ops.inb_eq]; exact decide_eq_true ⟨by first | exact (Int.natCast_nonneg i) | (simp only [Int.ofNat_eq_natCast]; exact (Int.natCast_nonneg i)), by first | exact (show (i : Int) < n by omega) | (simp only [Int.ofNat_eq_natCast]; exact (show (i : Int) < n by omega))⟩, ?_⟩
          simp only [Int.toNat_natCast, Int.ofNat_eq_natCast, Ops.get_eq, Ops.nadd_eq, Ops.nat_eq, Nat.zero_add, hg]
          (cbv; repeat' (first | (refine ⟨by simp only [Ops.need_eq, needs]; first | rfl | decide, ?_⟩; try cbv) | (refine mt (fun h => ?_) (fun h => ?_) <;> first | (exfalso; simp [Ops.cmp_eq, Ops.not_eq, icmp] at h; done) | (exfalso; simp [Ops.cmp_eq, icmp] at h; omega) | (try cbv))))
          all_goals
            simp only [Ops.cmp_eq, icmp] at h
            simp only [h, Bool.true_and, Bool.false_and] at hQ
            refine fin0 _ _ _ rfl ?_
            simpa [Ops.cmp_eq, icmp] using hQ
        · rw [if_pos h3] at hQ
          clear fin0
          (cbv; repeat' (first | (refine ⟨by simp only [Ops.need_eq, needs]; first | rfl | decide, ?_⟩; try cbv) | (refine mt (fun h => ?_) (fun h => ?_) <;> first | (exfalso; simp [Ops.cmp_eq, Ops.not_eq, icmp] at h; done) | (exfalso; simp [Ops.cmp_eq, icmp] at h; omega) | (try cbv))))
          refine ⟨by simp only [o.kall_eq]; exact hka, ?_⟩
          simp only [o.mval_eq, hm]
          (refine ⟨by first | (cbv; done) | exact trivial | (cbv; trivial), ?_⟩); (cbv; repeat' (first | (refine ⟨by simp only [Ops.need_eq, needs]; first | rfl | decide, ?_⟩; try cbv) | (refine mt (fun h => ?_) (fun h => ?_) <;> first | (exfalso; simp [Ops.cmp_eq, Ops.not_eq, icmp] at h; done) | (exfalso; simp [Ops.cmp_eq, icmp] at h; omega) | (try cbv))))
          refine ⟨by simp only [Ops.inb_eq]; exact decide_eq_true ⟨by first | exact (Int.natCast_nonneg i) | (simp only [Int.ofNat_eq_natCast]; exact (Int.natCast_nonneg i)), by first | exact (show (i : Int) < n by omega) | (simp only [Int.ofNat_eq_natCast]; exact (show (i : Int) < n by omega))⟩, ?_⟩
          simp only [Int.toNat_natCast, Int.ofNat_eq_natCast, Ops.get_eq, Ops.nadd_eq, Ops.nat_eq, Nat.zero_add, hg]
          (cbv; repeat' (first | (refine ⟨by simp only [Ops.need_eq, needs]; first | rfl | decide, ?_⟩; try cbv) | (refine mt (fun h => ?_) (fun h => ?_) <;> first | (exfalso; simp [Ops.cmp_eq, Ops.not_eq, icmp] at h; done) | (exfalso; simp [Ops.cmp_eq, icmp] at h; omega) | (try cbv))))
          refine ⟨by simp only [Ops.inb_eq]; exact decide_eq_true ⟨by first | exact (Int.natCast_nonneg i) | (simp only [Int.ofNat_eq_natCast]; exact (Int.natCast_nonneg i)), by first | exact (show (i : Int) < n by omega) | (simp only [Int.ofNat_eq_natCast]; exact (show (i : Int) < n by omega))⟩, ?_⟩
          simp only [Int.toNat_natCast, Int.ofNat_eq_natCast, Ops.get_eq, Ops.nadd_eq, Ops.nat_eq, Nat.zero_add, hg]
          (cbv; repeat' (first | (refine ⟨by simp only [Ops.need_eq, needs]; first | rfl | decide, ?_⟩; try cbv) | (refine mt (fun h => ?_) (fun h => ?_) <;> first | (exfalso; simp [Ops.cmp_eq, Ops.not_eq, icmp] at h; done) | (exfalso; simp [Ops.cmp_eq, icmp] at h; omega) | (try cbv))))
          all_goals
            simp only [Ops.cmp_eq, icmp] at h
            simp only [h, Bool.true_and, Bool.false_and] at hQ
            refine fin1 ?_ _ _ ?_ ?_
            rotate_left
            · simp only [Ops.set_eq, hws]; rfl
            · simpa [Ops.cmp_eq, icmp] using hQ
end Go.Proofs.Ythoodnlihbaimaa
