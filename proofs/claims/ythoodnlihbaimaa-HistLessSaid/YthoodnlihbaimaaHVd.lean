/- hist: the plain store: keys; any call. -/
import Derived.Test.YthoodnlihbaimaaHVc
namespace Go.Proofs.Ythoodnlihbaimaa
set_option linter.unusedVariables false
set_option linter.unusedSimpArgs false
open Go Go.SL Go.FL
set_option maxRecDepth 100000
theorem kvs_get {l : List Int} {j : Nat} {k : Int} (h : l[j]? = some k) : (kvs l)[j]? = some (.bool true) := by unfold kvs; rw [List.getElem?_map, h]; rfl
theorem kvs_set {l : List Int} {j : Nat} (h : (kvs l)[j]? = some (.bool true)) : (kvs l).set j (.bool true) = kvs l := by
  apply List.ext_getElem?
  intro i
  by_cases e : i = j
  · subst e; rw [List.getElem?_set_self (List.getElem?_eq_some_iff.1 h).1, h]
  · rw [List.getElem?_set_ne (Ne.symm e)]
theorem shutK {W0 : World} {Q' : VV → List VB → Prop} {l : List ObjX} {s : StoreP} {ks : List Int} {r : Bool} {E V : List VB} (hV : V = modelU W0 l ks ++ E) (h1 : l.map ObjX.p = s.objs) (h2 : ndupH l)
    (hQ : ∀ (v : VV) (V' : List VB), ReV W0 1 (fun v V' => v = .bool r ∧ V' = [modelB W0 ⟨s.objs, ks⟩]) v V' → Q' v V') : Q' (.bool r) V :=
  shutM (s := ⟨s.objs, ks⟩) hV h1 h2 rfl hQ
theorem key_facts (s : StoreP) (ky : Int) : ∃ (was : Bool) (A D : List Int), (kpos s.keys ky).isSome = was ∧ addK s.keys ky = A ∧ delK s.keys ky = D ∧
    mvalF (kks s.keys) (kvs s.keys) (.int .i64 ky) = (if was then some (.bool true) else none) ∧ mksF (kks s.keys) (.int .i64 ky) = kks A ∧ mvsF (kks s.keys) (kvs s.keys) (.int .i64 ky) (.bool true) = kvs A ∧
    dksF (kks s.keys) (.int .i64 ky) = kks D ∧ dvsF (kks s.keys) (kvs s.keys) (.int .i64 ky) = kvs D := by
  unfold addK delK
  cases hj : kpos s.keys ky with
  | none =>
    refine ⟨false, _, _, rfl, rfl, rfl, ?_, ?_, ?_, ?_, ?_⟩
    · unfold mvalF; rw [kfind_kks, hj]; rfl
    · unfold mksF; rw [kfind_kks, hj]; unfold kks; rw [List.map_append]; rfl
    · unfold mvsF; rw [kfind_kks, hj]; unfold kvs; rw [List.map_append]; rfl
    · unfold dksF; rw [kfind_kks, hj]
    · unfold dvsF; rw [kfind_kks, hj]
  | some j =>
    have hg := kvs_get (kpos_lt hj)
    refine ⟨true, _, _, rfl, rfl, rfl, ?_, ?_, ?_, ?_, ?_⟩
    · unfold mvalF; rw [kfind_kks, hj]; exact hg
    · unfold mksF; rw [kfind_kks, hj]
    · unfold mvsF; rw [kfind_kks, hj]; exact kvs_set hg
    · unfold dksF; rw [kfind_kks, hj]; exact (map_erase _ _ _).symm
    · unfold dvsF; rw [kfind_kks, hj]; exact (map_erase _ _ _).symm
set_option maxHeartbeats 1000000 in
theorem key_ev {W0 : World} (s : StoreP) (t : Told) (hk : t.kind = 6 ∨ t.kind = 7 ∨ t.kind = 8) :
    Ev Try.prog W0 39 [.ptr 0 0, .agg t.cs] [modelB W0 s] (fun v V' => v = .bool (keyP s t).2 ∧ V' = [modelB W0 (keyP s t).1]) := by
  refine Ev.out fun Q' hQ => openM (by kernel_rfl) fun l hl hn => ?_
  obtain ⟨a1, a2, kd, sz, a5, a6, a7, ix, vl, old, ky, a12, te, hd, dv, a16, a17, a18⟩ := t
  simp only at hk
  obtain ⟨was, A, D, w1, w2, w3, hm, hk1, hk2, hd1, hd2⟩ := key_facts s ky
  have hka := kall_kks s.keys
  have hrm := room_ev (W0 := W0) te
  have fin : ∀ (ks : List Int) (KK KV : List VV) (X : VB) (V : List VB) (r : Bool), kks ks = KK → kvs ks = KV → V = [.cells [.map 1, .map 2], .map (hks l) (hvs l), .map KK KV, rest W0 (objsI l), X] →
      (∀ v V', ReV W0 1 (fun v V' => v = .bool r ∧ V' = [modelB W0 ⟨s.objs, ks⟩]) v V' → Q' v V') → Q' (.bool r) V := fun ks KK KV X V r h1 h2 hV hq => shutK (E := [X]) (l := l) (by rw [hV, ← h1, ← h2]; rfl) hl hn hq
  have fin0 := fun X V r => fin s.keys _ _ X V r rfl rfl
  have fin1 := fun X V r => fin A _ _ X V r rfl rfl
  have fin2 := fun X V r => fin D _ _ X V r rfl rfl
  clear fin
  simp only [Told.cs]
  unfold keyP at hQ
  simp only [w1, w2, w3] at hQ
  clear w1 w2 w3 hl hn
  unfold modelU
  generalize kks A = KA at *
  generalize kvs A = VA at *
  generalize kks D = KD at *
  generalize kvs D = VD at *
  generalize kks s.keys = KK at *
  generalize kvs s.keys = KV at *
  generalize hks l = K at *
  generalize hvs l = VS at *
  generalize rest W0 (objsI l) = R at *
  have hor1 := or_ev (W0 := W0) was 1 0
  have hor2 := or_ev (W0 := W0) was 0 1
  refine ev39 rfl fun o => ?_
  rcases hk with rfl | rfl | rfl
  · rw [if_pos rfl] at hQ
    generalize (if was then (1 : Int) else 0) = b1 at *
    cases was
    all_goals
      (cbv; repeat' (first | (refine ⟨by simp only [Ops.need_eq, needs]; first | rfl | decide, ?_⟩; try cbv) | (refine mt (fun h => ?_) (fun h => ?_) <;> first | (exfalso; simp [Ops.cmp_eq, Ops.not_eq, icmp] at h; done) | (exfalso; simp [Ops.cmp_eq, icmp] at h; omega) | (try cbv))))
      refine ⟨by simp only [o.kall_eq]; exact hka, ?_⟩
      simp only [o.mval_eq, hm, if_true, if_false, Bool.false_eq_true]
      (refine ⟨by first | (cbv; done) | exact trivial | (cbv; trivial), ?_⟩); (cbv; repeat' (first | (refine ⟨by simp only [Ops.need_eq, needs]; first | rfl | decide, ?_⟩; try cbv) | (refine mt (fun h => ?_) (fun h => ?_) <;> first | (exfalso; simp [Ops.cmp_eq, Ops.not_eq, icmp] at h; done) | (exfalso; simp [Ops.cmp_eq, icmp] at h; omega) | (try cbv))))
      refine Ops.call0 _ (hor1) rfl ?_; rintro v V' ⟨rfl, rfl⟩; simp only [lapp, List.map_nil, rn, rnL]
      (refine ⟨by first | (cbv; done) | exact trivial | (cbv; trivial), ?_⟩); (cbv; repeat' (first | (refine ⟨by simp only [Ops.need_eq, needs]; first | rfl | decide, ?_⟩; try cbv) | (refine mt (fun h => ?_) (fun h => ?_) <;> first | (exfalso; simp [Ops.cmp_eq, Ops.not_eq, icmp] at h; done) | (exfalso; simp [Ops.cmp_eq, icmp] at h; omega) | (try cbv))))
      all_goals
        refine fin0 _ _ _ rfl ?_
        simp only [Ops.cmp_eq, icmp] at h
        simp only [h, Bool.true_and, Bool.false_and] at hQ
        simpa [Ops.cmp_eq, icmp] using hQ
  · rw [if_neg (by decide), if_neg (by decide)] at hQ
    by_cases h0 : te = 0
    · subst h0
      rw [if_neg (by simp)] at hQ
      generalize (if was then (0 : Int) else 1) = b1 at *
      cases was
      all_goals
        (cbv; repeat' (first | (refine ⟨by simp only [Ops.need_eq, needs]; first | rfl | decide, ?_⟩; try cbv) | (refine mt (fun h => ?_) (fun h => ?_) <;> first | (exfalso; simp [Ops.cmp_eq, Ops.not_eq, icmp] at h; done) | (exfalso; simp [Ops.cmp_eq, icmp] at h; omega) | (try cbv))))
        refine ⟨by simp only [o.kall_eq]; exact hka, ?_⟩
        simp only [o.mval_eq, hm, if_true, if_false, Bool.false_eq_true]
        (refine ⟨by first | (cbv; done) | exact trivial | (cbv; trivial), ?_⟩); (cbv; repeat' (first | (refine ⟨by simp only [Ops.need_eq, needs]; first | rfl | decide, ?_⟩; try cbv) | (refine mt (fun h => ?_) (fun h => ?_) <;> first | (exfalso; simp [Ops.cmp_eq, Ops.not_eq, icmp] at h; done) | (exfalso; simp [Ops.cmp_eq, icmp] at h; omega) | (try cbv))))
        refine ⟨by simp only [o.kall_eq]; exact hka, ?_⟩
        simp only [o.mks_eq, o.mvs_eq, hk1, hk2]
        (cbv; repeat' (first | (refine ⟨by simp only [Ops.need_eq, needs]; first | rfl | decide, ?_⟩; try cbv) | (refine mt (fun h => ?_) (fun h => ?_) <;> first | (exfalso; simp [Ops.cmp_eq, Ops.not_eq, icmp] at h; done) | (exfalso; simp [Ops.cmp_eq, icmp] at h; omega) | (try cbv))))
        refine Ops.call0 _ (hor2) rfl ?_; rintro v V' ⟨rfl, rfl⟩; simp only [lapp, List.map_nil, rn, rnL]
        (refine ⟨by first | (cbv; done) | exact trivial | (cbv; trivial), ?_⟩); (cbv; repeat' (first | (refine ⟨by simp only [Ops.need_eq, needs]; first | rfl | decide, ?_⟩; try cbv) | (refine mt (fun h => ?_) (fun h => ?_) <;> first | (exfalso; simp [Ops.cmp_eq, Ops.not_eq, icmp] at h; done) | (exfalso; simp [Ops.cmp_eq, icmp] at h; omega) | (try cbv))))
        refine fin1 _ _ _ rfl ?_
        simpa [Ops.cmp_eq, icmp] using hQ
    · rw [if_pos (by simpa using h0)] at hQ
      generalize roomE te = rm at *
      cases was
      all_goals
        (cbv; repeat' (first | (refine ⟨by simp only [Ops.need_eq, needs]; first | rfl | decide, ?_⟩; try cbv) | (refine mt (fun h => ?_) (fun h => ?_) <;> first | (exfalso; simp [Ops.cmp_eq, Ops.not_eq, icmp] at h; done) | (exfalso; simp [Ops.cmp_eq, icmp] at h; omega) | (try cbv))))
        refine ⟨by simp only [o.kall_eq]; exact hka, ?_⟩
        simp only [o.mval_eq, hm, if_true, if_false, Bool.false_eq_true]
        (refine ⟨by first | (cbv; done) | exact trivial | (cbv; trivial), ?_⟩); (cbv; repeat' (first | (refine ⟨by simp only [Ops.need_eq, needs]; first | rfl | decide, ?_⟩; try cbv) | (refine mt (fun h => ?_) (fun h => ?_) <;> first | (exfalso; simp [Ops.cmp_eq, Ops.not_eq, icmp] at h; done) | (exfalso; simp [Ops.cmp_eq, icmp] at h; omega) | (try cbv))))
        refine Ops.call0 _ (hrm) rfl ?_; rintro v V' ⟨rfl, rfl⟩; simp only [lapp, List.map_nil, rn, rnL]
        (cbv; repeat' (first | (refine ⟨by simp only [Ops.need_eq, needs]; first | rfl | decide, ?_⟩; try cbv) | (refine mt (fun h => ?_) (fun h => ?_) <;> first | (exfalso; simp [Ops.cmp_eq, Ops.not_eq, icmp] at h; done) | (exfalso; simp [Ops.cmp_eq, icmp] at h; omega) | (try cbv))))
        refine fin0 _ _ _ rfl ?_
        exact hQ
  · rw [if_neg (by decide), if_pos rfl] at hQ
    generalize (if was then (1 : Int) else 0) = b1 at *
    cases was
    all_goals
      (cbv; repeat' (first | (refine ⟨by simp only [Ops.need_eq, needs]; first | rfl | decide, ?_⟩; try cbv) | (refine mt (fun h => ?_) (fun h => ?_) <;> first | (exfalso; simp [Ops.cmp_eq, Ops.not_eq, icmp] at h; done) | (exfalso; simp [Ops.cmp_eq, icmp] at h; omega) | (try cbv))))
      refine ⟨by simp only [o.kall_eq]; exact hka, ?_⟩
      simp only [o.mval_eq, hm, if_true, if_false, Bool.false_eq_true]
      (refine ⟨by first | (cbv; done) | exact trivial | (cbv; trivial), ?_⟩); (cbv; repeat' (first | (refine ⟨by simp only [Ops.need_eq, needs]; first | rfl | decide, ?_⟩; try cbv) | (refine mt (fun h => ?_) (fun h => ?_) <;> first | (exfalso; simp [Ops.cmp_eq, Ops.not_eq, icmp] at h; done) | (exfalso; simp [Ops.cmp_eq, icmp] at h; omega) | (try cbv))))
      refine ⟨by simp only [o.kall_eq]; exact hka, ?_⟩
      simp only [o.dks_eq, o.dvs_eq, hd1, hd2]
      (cbv; repeat' (first | (refine ⟨by simp only [Ops.need_eq, needs]; first | rfl | decide, ?_⟩; try cbv) | (refine mt (fun h => ?_) (fun h => ?_) <;> first | (exfalso; simp [Ops.cmp_eq, Ops.not_eq, icmp] at h; done) | (exfalso; simp [Ops.cmp_eq, icmp] at h; omega) | (try cbv))))
      refine Ops.call0 _ (hor1) rfl ?_; rintro v V' ⟨rfl, rfl⟩; simp only [lapp, List.map_nil, rn, rnL]
      (refine ⟨by first | (cbv; done) | exact trivial | (cbv; trivial), ?_⟩); (cbv; repeat' (first | (refine ⟨by simp only [Ops.need_eq, needs]; first | rfl | decide, ?_⟩; try cbv) | (refine mt (fun h => ?_) (fun h => ?_) <;> first | (exfalso; simp [Ops.cmp_eq, Ops.not_eq, icmp] at h; done) | (exfalso; simp [Ops.cmp_eq, icmp] at h; omega) | (try cbv))))
      all_goals
        refine fin2 _ _ _ rfl ?_
        simp only [Ops.cmp_eq, icmp] at h
        simp only [h, Bool.true_and, Bool.false_and] at hQ
        simpa [Ops.cmp_eq, icmp] using hQ
end Go.Proofs.Ythoodnlihbaimaa
