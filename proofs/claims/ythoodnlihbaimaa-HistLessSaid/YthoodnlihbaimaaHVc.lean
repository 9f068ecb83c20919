/- hist: the plain store: an object is made. -/
import Derived.Test.YthoodnlihbaimaaHVb
namespace Go.Proofs.Ythoodnlihbaimaa
set_option linter.unusedVariables false
set_option linter.unusedSimpArgs false
open Go Go.SL Go.FL
set_option maxRecDepth 100000
theorem wcs_rep (n : Nat) : wcs (List.replicate n 0) = List.replicate n [.int .i64 0] := by unfold wcs; rw [List.map_replicate]
theorem setP_some {l : List ObjX} {objs : List ObjP} {h j : Nat} {ws : List Int} {x : Value} (hl : l.map ObjX.p = objs) (hj : hpos ObjX.h l h = some j) : (l.set j ⟨h, ws, x⟩).map ObjX.p = setP objs h ws := by
  unfold setP
  rw [← hl, hpos_p, hj, List.map_set]; rfl
theorem setP_none {l : List ObjX} {objs : List ObjP} {h : Nat} {ws : List Int} {x : Value} (hl : l.map ObjX.p = objs) (hj : hpos ObjX.h l h = none) : (l ++ [(⟨h, ws, x⟩ : ObjX)]).map ObjX.p = setP objs h ws := by
  unfold setP
  rw [← hl, hpos_p, hj, List.map_append]; rfl
set_option maxHeartbeats 1000000 in
theorem alloc_ev {W0 : World} (s : StoreP) (t : Told) (h : Nat) (ht : t.dhandle = (h : Int)) (hz : 1 ≤ t.size ∧ t.size ≤ 4) :
    Ev Try.prog W0 36 [.ptr 0 0, .agg t.cs] [modelB W0 s] (fun v V' => v = .bool (allocP s t h).2 ∧ V' = [modelB W0 (allocP s t h).1]) := by
  refine Ev.out fun Q' hQ => openM (by kernel_rfl) fun l hl hn => ?_
  have hop : opos s h = hpos ObjX.h l h := by unfold opos; rw [← hl]; exact hpos_p l h
  obtain ⟨a1, a2, kd, sz, a5, a6, a7, ix, vl, old, a11, a12, te, hd, dv, a16, a17, a18⟩ := t
  have hh : hd = (h : Int) := ht
  have hz1 : 1 ≤ sz := hz.1
  have hz4 : sz ≤ 4 := hz.2
  have hcl := sClass_ev (W0 := W0) sz hz1 hz4
  have hr0 : ¬ (if sz ≤ 2 then (0 : Int) else 1) < 0 := by split <;> omega
  generalize (if sz ≤ 2 then (0 : Int) else 1) = cl at *
  have hrm := room_ev (W0 := W0) te
  have hka := kall_hks l
  simp only [Told.cs]
  by_cases h0 : te = 0
  · have hP : allocP s ⟨a1, a2, kd, sz, a5, a6, a7, ix, vl, old, a11, a12, te, hd, dv, a16, a17, a18⟩ h = (⟨setP s.objs h (List.replicate sz.toNat 0), s.keys⟩, (hpos ObjX.h l h).isNone && h != 0) := by
      unfold allocP; rw [hop]; simp [h0]
    rw [hP] at hQ
    clear hP hop hrm
    subst h0
    have hlen : (List.replicate sz.toNat (0 : Int)).length = sz.toNat := List.length_replicate
    have hwr := wcs_rep sz.toNat
    have hd0 : (hd != 0) = (h != 0) := by rw [hh, Bool.eq_iff_iff]; simp
    rw [← hd0] at hQ
    cases hj : hpos ObjX.h l h with
    | none =>
      rw [hj] at hQ
      have hm : mvalF (hks l) (hvs l) (.int .u64 hd) = none := by rw [hh, mval_hks, hj]; rfl
      have hk : kfind (hks l) (.int .u64 hd) = none := by rw [hh, kfind_hks, hj]
      have hk1 : mksF (hks l) (.int .u64 hd) = hks l ++ [.int .u64 hd] := by unfold mksF; rw [hk]
      have hk2 : ∀ v, mvsF (hks l) (hvs l) (.int .u64 hd) v = hvs l ++ [v] := fun v => by unfold mvsF; rw [hk]
      have fin : ∀ (X : VB) (V : List VB), V = [.cells [.map 1, .map 2], .map (hks l ++ [.int .u64 hd]) (hvs l ++ [.sl 5 1 0 sz.toNat (.n sz.toNat)]), .map (kks s.keys) (kvs s.keys), rest W0 (objsI l), X, .arr 1 (wcs (List.replicate sz.toNat 0)) (.n sz.toNat)] → Q' (.bool (hd != 0)) V := by
        intro X V hV
        subst hV
        refine hQ _ _ (ReV.put 3 1 h [5] [.sl 0 1 0 sz.toNat (.n sz.toNat)] [.arr 1 (wcs (List.replicate sz.toNat 0)) (.n sz.toNat)] (fun l0 => .map (hks l ++ [.int .u64 hd]) ((hvs l ++ [VV.sl 5 1 0 sz.toNat (.n sz.toNat)]).set l.length (.raw (l0.headD (.int .i64 0))))) rfl rfl rfl ⟨.inr ?_, trivial⟩ (fun φ f hc => ?_) fun l0 hl0 => ?_)
        · show some (VB.arr 1 (wcs _) _) = some (VB.arr 1 ((wcs _).map (rnL _)) _)
          rw [rnL_wcs]; rfl
        · exact map_hide (by rw [List.getElem?_append_right (by simp [hvs])]; simp [hvs]; rfl) hc
        · obtain ⟨x, rfl⟩ : ∃ x, l0 = [x] := by
            match l0, hl0 with
            | [x], _ => exact ⟨x, rfl⟩
          have q3 := objsI_app (List.replicate sz.toNat 0) x hj
          rw [hlen] at q3
          refine shutR (s := ⟨setP s.objs h (List.replicate sz.toNat 0), s.keys⟩) (l := l ++ [⟨h, List.replicate sz.toNat 0, x⟩]) (ks := s.keys) (E := [X, .emp]) ?_ (setP_none hl hj) (ndup_app hn hj) rfl rfl ⟨rfl, rfl⟩
          unfold modelU
          rw [q3, show hks (l ++ [⟨h, List.replicate sz.toNat 0, x⟩]) = hks l ++ [.int .u64 hd] by rw [hh]; unfold hks; rw [List.map_append]; rfl, show hvs (l ++ [⟨h, List.replicate sz.toNat 0, x⟩]) = (hvs l ++ [VV.sl 5 1 0 sz.toNat (.n sz.toNat)]).set l.length (.raw x) by unfold hvs; rw [List.map_append, List.set_append_right _ _ (by simp)]; simp]
          rfl
      clear hlen hj hk hQ
      unfold modelU
      generalize hvs l = VS at *
      generalize hks l = K at *
      generalize kks s.keys = KK at *
      generalize kvs s.keys = KV at *
      generalize rest W0 (objsI l) = R at *
      generalize wcs (List.replicate sz.toNat 0) = zs at *
      refine ev36 rfl fun o => ?_
      (cbv; repeat' (first | (refine ⟨by simp only [Ops.need_eq, needs]; first | rfl | decide, ?_⟩; try cbv) | (refine mt (fun h => ?_) (fun h => ?_) <;> first | (exfalso; simp [Ops.cmp_eq, Ops.not_eq, icmp] at h; done) | (exfalso; simp [Ops.cmp_eq, icmp] at h; omega) | (try cbv))))
      refine Ops.call0 _ (hcl) rfl ?_; rintro v V' ⟨rfl, rfl⟩; simp only [lapp, List.map_nil, rn, rnL]
      (cbv; repeat' (first | (refine ⟨by simp only [Ops.need_eq, needs]; first | rfl | decide, ?_⟩; try cbv) | (refine mt (fun h => ?_) (fun h => ?_) <;> first | (exfalso; simp [Ops.cmp_eq, Ops.not_eq, icmp] at h; done) | (exfalso; simp [Ops.cmp_eq, icmp] at h; omega) | (try cbv))))
      refine ⟨by simp only [o.kall_eq]; exact hka, ?_⟩
      simp only [o.mval_eq, hm]
      (refine ⟨by first | (cbv; done) | exact trivial | (cbv; trivial), ?_⟩); (cbv; repeat' (first | (refine ⟨by simp only [Ops.need_eq, needs]; first | rfl | decide, ?_⟩; try cbv) | (refine mt (fun h => ?_) (fun h => ?_) <;> first | (exfalso; simp [Ops.cmp_eq, Ops.not_eq, icmp] at h; done) | (exfalso; simp [Ops.cmp_eq, icmp] at h; omega) | (try cbv))))
      refine ⟨by simp only [o.inb_eq, decide_eq_true_eq]; omega, ?_⟩
      refine ⟨by simp only [o.kall_eq]; exact hka, ?_⟩
      simp only [o.mks_eq, o.mvs_eq, o.nat_eq, o.rep_eq, o.nmul_eq, Nat.mul_one, hk1, hk2, ← hwr]
      clear hwr hk1 hk2 hm
      generalize sz.toNat = nz at *
      generalize K ++ [.int .u64 hd] = K2 at *
      generalize VS ++ [.sl 5 1 0 nz (.n nz)] = VS2 at *
      (cbv; repeat' (first | (refine ⟨by simp only [Ops.need_eq, needs]; first | rfl | decide, ?_⟩; try cbv) | (refine mt (fun h => ?_) (fun h => ?_) <;> first | (exfalso; simp [Ops.cmp_eq, Ops.not_eq, icmp] at h; done) | (exfalso; simp [Ops.cmp_eq, icmp] at h; omega) | (try cbv))))
      simp only [Ops.cmp_eq, icmp]
      exact fin _ _ rfl
    | some j =>
      rw [hj] at hQ
      obtain ⟨ob, hg, hgh⟩ := hpos_lt hj
      have hvj : (hvs l)[j]? = some (.raw ob.x) := by unfold hvs; rw [List.getElem?_map, hg]; rfl
      have hm : mvalF (hks l) (hvs l) (.int .u64 hd) = some (.raw ob.x) := by rw [hh, mval_hks, hj]; exact hvj
      have hk : kfind (hks l) (.int .u64 hd) = some j := by rw [hh, kfind_hks, hj]
      have hk1 : mksF (hks l) (.int .u64 hd) = hks l := by unfold mksF; rw [hk]
      have hk2 : ∀ v, mvsF (hks l) (hvs l) (.int .u64 hd) v = (hvs l).set j v := fun v => by unfold mvsF; rw [hk]
      have fin : ∀ (X : VB) (V : List VB), V = [.cells [.map 1, .map 2], .map (hks l) ((hvs l).set j (.sl 5 1 0 sz.toNat (.n sz.toNat))), .map (kks s.keys) (kvs s.keys), rest W0 (objsI l), X, .arr 1 (wcs (List.replicate sz.toNat 0)) (.n sz.toNat)] → Q' (.bool false) V := by
        intro X V hV
        subst hV
        refine hQ _ _ (ReV.put 3 1 h [5] [.sl 0 1 0 sz.toNat (.n sz.toNat)] [.arr 1 (wcs (List.replicate sz.toNat 0)) (.n sz.toNat)] (fun l0 => .map (hks l) (((hvs l).set j (VV.sl 5 1 0 sz.toNat (.n sz.toNat))).set j (.raw (l0.headD (.int .i64 0))))) rfl rfl rfl ⟨.inr ?_, trivial⟩ (fun φ f hc => ?_) fun l0 hl0 => ?_)
        · show some (VB.arr 1 (wcs _) _) = some (VB.arr 1 ((wcs _).map (rnL _)) _)
          rw [rnL_wcs]; rfl
        · exact map_hide (List.getElem?_set_self (List.getElem?_eq_some_iff.1 hvj).1) hc
        · obtain ⟨x, rfl⟩ : ∃ x, l0 = [x] := by
            match l0, hl0 with
            | [x], _ => exact ⟨x, rfl⟩
          obtain ⟨q1, q2, q3, q4⟩ := set_same (ws := List.replicate sz.toNat 0) (x := x) hj
          rw [hlen, upI_upI] at q3
          refine shutR (s := ⟨setP s.objs h (List.replicate sz.toNat 0), s.keys⟩) (l := l.set j ⟨h, List.replicate sz.toNat 0, x⟩) (ks := s.keys) (E := [X, .emp]) ?_ (setP_some hl hj) (q4 hn) rfl rfl ⟨rfl, rfl⟩
          unfold modelU
          rw [q1, q2, q3]
          simp only [List.headD_cons, List.set_set]
          rfl
      clear hlen hj hk hQ hvj
      unfold modelU
      generalize hvs l = VS at *
      generalize hks l = K at *
      generalize kks s.keys = KK at *
      generalize kvs s.keys = KV at *
      generalize rest W0 (objsI l) = R at *
      generalize wcs (List.replicate sz.toNat 0) = zs at *
      refine ev36 rfl fun o => ?_
      (cbv; repeat' (first | (refine ⟨by simp only [Ops.need_eq, needs]; first | rfl | decide, ?_⟩; try cbv) | (refine mt (fun h => ?_) (fun h => ?_) <;> first | (exfalso; simp [Ops.cmp_eq, Ops.not_eq, icmp] at h; done) | (exfalso; simp [Ops.cmp_eq, icmp] at h; omega) | (try cbv))))
      refine Ops.call0 _ (hcl) rfl ?_; rintro v V' ⟨rfl, rfl⟩; simp only [lapp, List.map_nil, rn, rnL]
      (cbv; repeat' (first | (refine ⟨by simp only [Ops.need_eq, needs]; first | rfl | decide, ?_⟩; try cbv) | (refine mt (fun h => ?_) (fun h => ?_) <;> first | (exfalso; simp [Ops.cmp_eq, Ops.not_eq, icmp] at h; done) | (exfalso; simp [Ops.cmp_eq, icmp] at h; omega) | (try cbv))))
      refine ⟨by simp only [o.kall_eq]; exact hka, ?_⟩
      simp only [o.mval_eq, hm]
      (refine ⟨by first | (cbv; done) | exact trivial | (cbv; trivial), ?_⟩); (cbv; repeat' (first | (refine ⟨by simp only [Ops.need_eq, needs]; first | rfl | decide, ?_⟩; try cbv) | (refine mt (fun h => ?_) (fun h => ?_) <;> first | (exfalso; simp [Ops.cmp_eq, Ops.not_eq, icmp] at h; done) | (exfalso; simp [Ops.cmp_eq, icmp] at h; omega) | (try cbv))))
      refine ⟨by simp only [o.inb_eq, decide_eq_true_eq]; omega, ?_⟩
      refine ⟨by simp only [o.kall_eq]; exact hka, ?_⟩
      simp only [o.mks_eq, o.mvs_eq, o.nat_eq, o.rep_eq, o.nmul_eq, Nat.mul_one, hk1, hk2, ← hwr]
      clear hwr hk1 hk2 hm
      generalize sz.toNat = nz at *
      generalize VS.set j (.sl 5 1 0 nz (.n nz)) = VS2 at *
      (cbv; repeat' (first | (refine ⟨by simp only [Ops.need_eq, needs]; first | rfl | decide, ?_⟩; try cbv) | (refine mt (fun h => ?_) (fun h => ?_) <;> first | (exfalso; simp [Ops.cmp_eq, Ops.not_eq, icmp] at h; done) | (exfalso; simp [Ops.cmp_eq, icmp] at h; omega) | (try cbv))))
      exact fin _ _ rfl
  · have hP : allocP s ⟨a1, a2, kd, sz, a5, a6, a7, ix, vl, old, a11, a12, te, hd, dv, a16, a17, a18⟩ h = (s, roomE te) := by
      unfold allocP; simp [h0]
    rw [hP] at hQ
    have fin : ∀ (E V : List VB), V = modelU W0 l s.keys ++ E → Q' (.bool (roomE te)) V := fun E V hV => shutM hV hl hn rfl hQ
    clear hQ hP
    generalize roomE te = rm at *
    unfold modelU at *
    generalize hvs l = VS at *
    generalize hks l = K at *
    generalize kks s.keys = KK at *
    generalize kvs s.keys = KV at *
    generalize rest W0 (objsI l) = R at *
    refine ev36 rfl fun o => ?_
    (cbv; repeat' (first | (refine ⟨by simp only [Ops.need_eq, needs]; first | rfl | decide, ?_⟩; try cbv) | (refine mt (fun h => ?_) (fun h => ?_) <;> first | (exfalso; simp [Ops.cmp_eq, Ops.not_eq, icmp] at h; done) | (exfalso; simp [Ops.cmp_eq, icmp] at h; omega) | (try cbv))))
    refine Ops.call0 _ (hcl) rfl ?_; rintro v V' ⟨rfl, rfl⟩; simp only [lapp, List.map_nil, rn, rnL]
    (cbv; repeat' (first | (refine ⟨by simp only [Ops.need_eq, needs]; first | rfl | decide, ?_⟩; try cbv) | (refine mt (fun h => ?_) (fun h => ?_) <;> first | (exfalso; simp [Ops.cmp_eq, Ops.not_eq, icmp] at h; done) | (exfalso; simp [Ops.cmp_eq, icmp] at h; omega) | (try cbv))))
    refine Ops.call0 _ (hrm) rfl ?_; rintro v V' ⟨rfl, rfl⟩; simp only [lapp, List.map_nil, rn, rnL]
    (cbv; repeat' (first | (refine ⟨by simp only [Ops.need_eq, needs]; first | rfl | decide, ?_⟩; try cbv) | (refine mt (fun h => ?_) (fun h => ?_) <;> first | (exfalso; simp [Ops.cmp_eq, Ops.not_eq, icmp] at h; done) | (exfalso; simp [Ops.cmp_eq, icmp] at h; omega) | (try cbv))))
    exact fin _ _ rfl
end Go.Proofs.Ythoodnlihbaimaa
