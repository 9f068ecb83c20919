/- hist: the plain store: any call. -/
import Derived.Test.YthoodnlihbaimaaHVd
namespace Go.Proofs.Ythoodnlihbaimaa
set_option linter.unusedVariables false
set_option linter.unusedSimpArgs false
open Go Go.SL Go.FL
set_option maxRecDepth 100000
/-- A call, cut. -/
structure TOk (t : Told) : Prop where
  kind : 1 ≤ t.kind ∧ t.kind ≤ 8
  handle : t.handle = (t.handle.toNat : Int)
  dhandle : t.dhandle = (t.dhandle.toNat : Int)
  size : 1 ≤ t.size ∧ t.size ≤ 4
def doP (s : StoreP) (t : Told) : StoreP × Bool :=
  if t.kind = 1 then allocP s t t.dhandle.toNat else if t.kind = 2 then freeP s t t.handle.toNat else if t.kind ≤ 5 then wordP s t t.handle.toNat else keyP s t
theorem free_facts {W0 : World} {l : List ObjX} {s : StoreP} (h : Nat) (hl : l.map ObjX.p = s.objs) (hn : ndupH l) : ∃ (was : Bool) (l' : List ObjX), (opos s h).isSome = was ∧ l'.map ObjX.p = delP s.objs h ∧ ndupH l' ∧ (∀ a (φ : Phi) (f : Frag), (rest W0 (objsI l)).ok W0 φ f a → (rest W0 (objsI l')).ok W0 φ f a) ∧
    (if was then ∃ x, mvalF (hks l) (hvs l) (.int .u64 h) = some (.raw x) else mvalF (hks l) (hvs l) (.int .u64 h) = none) ∧ dksF (hks l) (.int .u64 h) = hks l' ∧ dvsF (hks l) (hvs l) (.int .u64 h) = hvs l' := by
  have hop : opos s h = hpos ObjX.h l h := by unfold opos; rw [← hl]; exact hpos_p l h
  rw [hop]
  unfold delP
  rw [show hpos Prod.fst s.objs h = hpos ObjX.h l h from hop]
  cases hj : hpos ObjX.h l h with
  | none =>
    refine ⟨false, l, rfl, hl, hn, fun a φ f h => h, ?_, ?_, ?_⟩
    · show mvalF _ _ _ = none
      rw [mval_hks, hj]; rfl
    · unfold dksF; rw [kfind_hks, hj]
    · unfold dvsF; rw [kfind_hks, hj]
  | some j =>
    obtain ⟨ob, hg, hgh⟩ := hpos_lt hj
    have hvj : (hvs l)[j]? = some (.raw ob.x) := by unfold hvs; rw [List.getElem?_map, hg]; rfl
    obtain ⟨e1, e2⟩ := hks_erase l j
    refine ⟨true, l.eraseIdx j, rfl, ?_, ndup_erase hn, ?_, ?_, ?_, ?_⟩
    · rw [map_erase, hl]
    · rintro a φ f ⟨b, h1, h2⟩
      exact ⟨b, h1, h2.mono (objsI_erase hn hj)⟩
    · show ∃ x, mvalF _ _ _ = some (.raw x)
      exact ⟨ob.x, by rw [mval_hks, hj]; exact hvj⟩
    · unfold dksF; rw [kfind_hks, hj, e1]
    · unfold dvsF; rw [kfind_hks, hj, e2]
theorem rnB_model {W0 : World} (s : StoreP) (ρ : Nat → Nat) : rnB ρ (modelB W0 s) = modelB W0 s := rfl
set_option maxHeartbeats 1000000 in
theorem doFree_ev {W0 : World} (s : StoreP) (t : Told) (h : Nat) (hk : t.kind = 2) (ht : t.handle = (h : Int)) :
    Ev Try.prog W0 22 [.ptr 0 0, .agg t.cs] [modelB W0 s] (fun v V' => v = .bool (freeP s t h).2 ∧ V' = [modelB W0 (freeP s t h).1]) := by
  refine Ev.out fun Q' hQ => openM (by kernel_rfl) fun l hl hn => ?_
  obtain ⟨was, l', f1, f2, f3, f4, f5, f6, f7⟩ := free_facts (W0 := W0) h hl hn
  obtain ⟨a1, a2, kd, sz, a5, a6, a7, ix, vl, old, ky, hd, te, a14, dv, a16, a17, a18⟩ := t
  simp only at hk ht
  subst hk
  rw [← ht] at f5 f6 f7
  have hka := kall_hks l
  have hor := orE_ev (W0 := W0) was 0 3
  unfold freeP at hQ
  simp only [f1] at hQ
  have fin : ∀ (X : VB) (V : List VB), V = [.cells [.map 1, .map 2], .map (hks l') (hvs l'), .map (kks s.keys) (kvs s.keys), rest W0 (objsI l), X] → Q' (.bool (te == if was then 0 else 3)) V := by
    intro X V hV
    subst hV
    refine hQ _ _ (ReV.weak 3 (rest W0 (objsI l')) rfl (f4 3) ?_)
    exact shutR (s := ⟨delP s.objs h, s.keys⟩) (l := l') (ks := s.keys) (E := [X]) rfl f2 f3 rfl rfl ⟨rfl, rfl⟩
  simp only [Told.cs]
  unfold modelU
  clear hQ f1 f2 f3 f4
  generalize hks l' = K2 at *
  generalize hvs l' = VS2 at *
  generalize hks l = K at *
  generalize hvs l = VS at *
  generalize kks s.keys = KK at *
  generalize kvs s.keys = KV at *
  generalize rest W0 (objsI l) = R at *
  generalize hb : (if was then (0 : Int) else 3) = b1 at *
  refine ev22 rfl fun o => ?_
  cases was
  · have f5 : mvalF K VS (.int .u64 hd) = none := f5
    (cbv; repeat' (first | (refine ⟨by simp only [Ops.need_eq, needs]; first | rfl | decide, ?_⟩; try cbv) | (refine mt (fun h => ?_) (fun h => ?_) <;> first | (exfalso; simp [Ops.cmp_eq, Ops.not_eq, icmp] at h; done) | (exfalso; simp [Ops.cmp_eq, icmp] at h; omega) | (try cbv))))
    refine ⟨by simp only [o.kall_eq]; exact hka, ?_⟩
    simp only [o.mval_eq, f5]
    (refine ⟨by first | (cbv; done) | exact trivial | (cbv; trivial), ?_⟩); (cbv; repeat' (first | (refine ⟨by simp only [Ops.need_eq, needs]; first | rfl | decide, ?_⟩; try cbv) | (refine mt (fun h => ?_) (fun h => ?_) <;> first | (exfalso; simp [Ops.cmp_eq, Ops.not_eq, icmp] at h; done) | (exfalso; simp [Ops.cmp_eq, icmp] at h; omega) | (try cbv))))
    refine ⟨by simp only [o.kall_eq]; exact hka, ?_⟩
    simp only [o.dks_eq, o.dvs_eq, f6, f7]
    (cbv; repeat' (first | (refine ⟨by simp only [Ops.need_eq, needs]; first | rfl | decide, ?_⟩; try cbv) | (refine mt (fun h => ?_) (fun h => ?_) <;> first | (exfalso; simp [Ops.cmp_eq, Ops.not_eq, icmp] at h; done) | (exfalso; simp [Ops.cmp_eq, icmp] at h; omega) | (try cbv))))
    refine Ops.call0 _ (hor) rfl ?_; rintro v V' ⟨rfl, rfl⟩; simp only [lapp, List.map_nil, rn, rnL]
    (refine ⟨by first | (cbv; done) | exact trivial | (cbv; trivial), ?_⟩); (cbv; repeat' (first | (refine ⟨by simp only [Ops.need_eq, needs]; first | rfl | decide, ?_⟩; try cbv) | (refine mt (fun h => ?_) (fun h => ?_) <;> first | (exfalso; simp [Ops.cmp_eq, Ops.not_eq, icmp] at h; done) | (exfalso; simp [Ops.cmp_eq, icmp] at h; omega) | (try cbv))))
    simp only [Ops.cmp_eq, icmp]
    exact fin _ _ rfl
  · obtain ⟨x, f5⟩ : ∃ x, mvalF K VS (.int .u64 hd) = some (.raw x) := f5
    (cbv; repeat' (first | (refine ⟨by simp only [Ops.need_eq, needs]; first | rfl | decide, ?_⟩; try cbv) | (refine mt (fun h => ?_) (fun h => ?_) <;> first | (exfalso; simp [Ops.cmp_eq, Ops.not_eq, icmp] at h; done) | (exfalso; simp [Ops.cmp_eq, icmp] at h; omega) | (try cbv))))
    refine ⟨by simp only [o.kall_eq]; exact hka, ?_⟩
    simp only [o.mval_eq, f5]
    (refine ⟨by first | (cbv; done) | exact trivial | (cbv; trivial), ?_⟩); (cbv; repeat' (first | (refine ⟨by simp only [Ops.need_eq, needs]; first | rfl | decide, ?_⟩; try cbv) | (refine mt (fun h => ?_) (fun h => ?_) <;> first | (exfalso; simp [Ops.cmp_eq, Ops.not_eq, icmp] at h; done) | (exfalso; simp [Ops.cmp_eq, icmp] at h; omega) | (try cbv))))
    refine ⟨by simp only [o.kall_eq]; exact hka, ?_⟩
    simp only [o.dks_eq, o.dvs_eq, f6, f7]
    (cbv; repeat' (first | (refine ⟨by simp only [Ops.need_eq, needs]; first | rfl | decide, ?_⟩; try cbv) | (refine mt (fun h => ?_) (fun h => ?_) <;> first | (exfalso; simp [Ops.cmp_eq, Ops.not_eq, icmp] at h; done) | (exfalso; simp [Ops.cmp_eq, icmp] at h; omega) | (try cbv))))
    refine Ops.call0 _ (hor) rfl ?_; rintro v V' ⟨rfl, rfl⟩; simp only [lapp, List.map_nil, rn, rnL]
    (refine ⟨by first | (cbv; done) | exact trivial | (cbv; trivial), ?_⟩); (cbv; repeat' (first | (refine ⟨by simp only [Ops.need_eq, needs]; first | rfl | decide, ?_⟩; try cbv) | (refine mt (fun h => ?_) (fun h => ?_) <;> first | (exfalso; simp [Ops.cmp_eq, Ops.not_eq, icmp] at h; done) | (exfalso; simp [Ops.cmp_eq, icmp] at h; omega) | (try cbv))))
    simp only [Ops.cmp_eq, icmp]
    exact fin _ _ rfl
set_option maxHeartbeats 1000000 in
theorem Do_ev2 {W0 : World} (s : StoreP) (t : Told) (ok : TOk t) : Ev Try.prog W0 22 [.ptr 0 0, .agg t.cs] [modelB W0 s] (fun v V' => v = .bool (doP s t).2 ∧ V' = [modelB W0 (doP s t).1]) := by
  have hk := ok.kind
  by_cases k2 : t.kind = 2
  · unfold doP
    rw [if_neg (by omega), if_pos k2]
    exact doFree_ev s t _ k2 ok.handle
  have hE : ∃ (g : FuncId) (c : StoreP × Bool), doP s t = c ∧ Ev Try.prog W0 g [.ptr 0 0, .agg t.cs] [modelB W0 s] (fun v V' => v = .bool c.2 ∧ V' = [modelB W0 c.1]) ∧ g = (if t.kind = 1 then 36 else if t.kind ≤ 5 then 38 else 39) := by
    unfold doP
    by_cases k1 : t.kind = 1
    · rw [if_pos k1, if_pos k1]; exact ⟨_, _, rfl, alloc_ev s t _ ok.dhandle ok.size, rfl⟩
    · rw [if_neg k1, if_neg k1, if_neg k2]
      by_cases k5 : t.kind ≤ 5
      · rw [if_pos k5, if_pos k5]; exact ⟨_, _, rfl, word_ev s t _ ok.handle, rfl⟩
      · rw [if_neg k5, if_neg k5]; exact ⟨_, _, rfl, key_ev s t (by omega), rfl⟩
  obtain ⟨g, c, hc, hE, hg⟩ := hE
  rw [hc]
  have hr1 := rnB_model (W0 := W0) s
  have hr2 := rnB_model (W0 := W0) c.1
  clear hc ok
  obtain ⟨a1, a2, kd, sz, a5, a6, a7, ix, vl, old, ky, hd, te, a14, dv, a16, a17, a18⟩ := t
  simp only at hk k2 hg
  simp only [Told.cs] at hE ⊢
  refine Ev.out fun Q' hQ => ?_
  generalize modelB W0 s = M at *
  generalize modelB W0 c.1 = M2 at *
  generalize c.2 = r at *
  refine ev22 rfl fun o => ?_
  rcases (by omega : kd = 1 ∨ kd = 3 ∨ kd = 4 ∨ kd = 5 ∨ kd = 6 ∨ kd = 7 ∨ kd = 8) with rfl | rfl | rfl | rfl | rfl | rfl | rfl
  all_goals
    simp only [Int.reduceEq, Int.reduceLE, if_true, if_false] at hg
    subst hg
    (cbv; repeat' (first | (refine ⟨by simp only [Ops.need_eq, needs]; first | rfl | decide, ?_⟩; try cbv) | (refine mt (fun h => ?_) (fun h => ?_) <;> first | (exfalso; simp [Ops.cmp_eq, Ops.not_eq, icmp] at h; done) | (exfalso; simp [Ops.cmp_eq, icmp] at h; omega) | (try cbv))))
    refine Ops.call _ [0] hE rfl rfl rfl ⟨.inr (by rw [hr1]; rfl), trivial⟩ ?_
    rintro v V' ⟨rfl, rfl⟩
    simp only [layB, lset, lapp, List.map_nil, List.map_cons, hr2, rn, rnL]
    (cbv; repeat' (first | (refine ⟨by simp only [Ops.need_eq, needs]; first | rfl | decide, ?_⟩; try cbv) | (refine mt (fun h => ?_) (fun h => ?_) <;> first | (exfalso; simp [Ops.cmp_eq, Ops.not_eq, icmp] at h; done) | (exfalso; simp [Ops.cmp_eq, icmp] at h; omega) | (try cbv))))
    exact hQ _ _ (ReV.ren [0] (.bool r) [M2] rfl rfl rfl ⟨.inr (by rw [hr2]; rfl), trivial⟩ ⟨rfl, rfl⟩)
end Go.Proofs.Ythoodnlihbaimaa
