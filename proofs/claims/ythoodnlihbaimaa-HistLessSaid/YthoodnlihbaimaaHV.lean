/- hist: the plain store's box: opened, shut; reads and writes of a word. -/
import Derived.Test.YthoodnlihbaimaaHU
namespace Go.Proofs.Ythoodnlihbaimaa
set_option linter.unusedVariables false
set_option linter.unusedSimpArgs false
open Go Go.SL Go.FL
set_option maxRecDepth 100000
theorem rnL_hks (l : List ObjX) (ρ : Nat → Nat) : rnL ρ (hks l) = hks l := by unfold hks; rw [rnL_map, List.map_map]; exact List.map_congr_left fun _ _ => rfl
theorem rnL_hvs (l : List ObjX) (ρ : Nat → Nat) : rnL ρ (hvs l) = hvs l := by unfold hvs; rw [rnL_map, List.map_map]; exact List.map_congr_left fun _ _ => rfl
theorem rnL_kks (l : List Int) (ρ : Nat → Nat) : rnL ρ (kks l) = kks l := by unfold kks; rw [rnL_map, List.map_map]; exact List.map_congr_left fun _ _ => rfl
theorem rnL_kvs (l : List Int) (ρ : Nat → Nat) : rnL ρ (kvs l) = kvs l := by unfold kvs; rw [rnL_map, List.map_map]; exact List.map_congr_left fun _ _ => rfl
theorem rnL_wcs (l : List Int) (ρ : Nat → Nat) : (wcs l).map (rnL ρ) = wcs l := by unfold wcs; rw [List.map_map]; exact List.map_congr_left fun _ _ => rfl
theorem openM {W0 : World} {f : FuncId} {args : List VV} {s : StoreP} {Q : VV → List VB → Prop} (hf : okFn Try.prog f = true) (h : ∀ l : List ObjX, l.map ObjX.p = s.objs → ndupH l → Ev Try.prog W0 f args (modelU W0 l s.keys) Q) : Ev Try.prog W0 f args [modelB W0 s] Q := by
  refine Ev.openE 0 rfl hf ?_
  rintro U ⟨l, h1, h2, rfl⟩
  refine Ev.openB 0 (U := modelU W0 l s.keys) rfl ?_
  rw [show lset [modelB W0 s] 0 (bx W0 (modelU W0 l s.keys)) = [bx W0 (modelU W0 l s.keys)] from rfl, layB_box0 _ (by simp [modelU])]
  exact h l h1 h2
theorem shutR {W0 : World} {l : List ObjX} {ks : List Int} {s : StoreP} {v v1 : VV} {E V : List VB} {Q : VV → List VB → Prop} (hV : V = modelU W0 l ks ++ E) (h1 : l.map ObjX.p = s.objs) (h2 : ndupH l) (h3 : ks = s.keys) (hv : v = rn (rho [0] (emps (lset V 0 (modelB W0 s)) [1, 2, 3]).length) v1) (hq : Q v1 [modelB W0 s]) : ReV W0 1 Q v V := by
  subst hV
  refine ReV.shutE 0 [1, 2, 3] (modelU W0 l ks) (modelS W0 s) ⟨l, h1, h2, by rw [h3]⟩ rfl rfl ?_ ?_
  · refine ⟨.inr rfl, .inr ?_, .inr ?_, .inr rfl, trivial⟩
    · show some (VB.map (hks l) (hvs l)) = some (VB.map _ _)
      rw [rnL_hks, rnL_hvs]
    · show some (VB.map (kks ks) (kvs ks)) = some (VB.map _ _)
      rw [rnL_kks, rnL_kvs]
  · exact ReV.ren [0] v1 [modelB W0 s] rfl rfl hv ⟨.inr rfl, trivial⟩ hq
theorem shutM {W0 : World} {Q' : VV → List VB → Prop} {l : List ObjX} {ks : List Int} {s : StoreP} {r : Bool} {E V : List VB} (hV : V = modelU W0 l ks ++ E) (h1 : l.map ObjX.p = s.objs) (h2 : ndupH l) (h3 : ks = s.keys)
    (hQ : ∀ (v : VV) (V' : List VB), ReV W0 1 (fun v V' => v = .bool r ∧ V' = [modelB W0 s]) v V' → Q' v V') : Q' (.bool r) V :=
  hQ _ _ (shutR hV h1 h2 h3 rfl ⟨rfl, rfl⟩)
theorem mNewB_ev {W0 : World} : Ev Try.prog W0 17 [] [] (fun v V' => v = .ptr 0 0 ∧ V' = [modelB W0 ⟨[], []⟩]) := by
  refine Ev.out fun Q' hQ => ev17 rfl fun o => ?_
  (cbv; repeat' (first | (refine ⟨by simp only [Ops.need_eq, needs]; first | rfl | decide, ?_⟩; try cbv) | (refine mt (fun h => ?_) (fun h => ?_) <;> first | (exfalso; simp [Ops.cmp_eq, Ops.not_eq, icmp] at h; done) | (exfalso; simp [Ops.cmp_eq, icmp] at h; omega) | (try cbv))))
  exact hQ _ _ (ReV.noneI 2 rfl rfl (ReV.shutE 2 [0, 1, 3] (modelU W0 [] []) (modelS W0 ⟨[], []⟩) ⟨[], rfl, trivial, rfl⟩ rfl rfl ⟨.inr rfl, .inr rfl, .inr rfl, .inr rfl, trivial⟩ (ReV.ren [2] (.ptr 0 0) [modelB W0 ⟨[], []⟩] rfl rfl rfl ⟨.inr rfl, trivial⟩ ⟨rfl, rfl⟩)))
theorem mval_hks {l : List ObjX} {h : Nat} {vs : List VV} : mvalF (hks l) vs (.int .u64 h) = (hpos ObjX.h l h).bind fun i => vs[i]? := by unfold mvalF; rw [kfind_hks]
theorem hpos_p (l : List ObjX) (h : Nat) : hpos Prod.fst (l.map ObjX.p) h = hpos ObjX.h l h := hpos_map l h
/-- The objects with a word laid. -/
theorem set_same {l : List ObjX} {j h : Nat} {ws : List Int} {x : Value} (hj : hpos ObjX.h l h = some j) :
    hks (l.set j ⟨h, ws, x⟩) = hks l ∧ hvs (l.set j ⟨h, ws, x⟩) = (hvs l).set j (.raw x) ∧ objsI (l.set j ⟨h, ws, x⟩) = upI (upI (objsI l) h none) h (some ⟨[x], [.sl 0 1 0 ws.length (.n ws.length)], [.arr 1 (wcs ws) (.n ws.length)]⟩) ∧ (ndupH l → ndupH (l.set j ⟨h, ws, x⟩)) := by
  obtain ⟨ob, h1, h2⟩ := hpos_lt hj
  have e1 : hks (l.set j ⟨h, ws, x⟩) = hks l := by
    unfold hks
    rw [List.map_set]
    apply List.ext_getElem?
    intro i
    by_cases e : i = j
    · subst e
      have hl := (List.getElem?_eq_some_iff.1 h1).1
      rw [List.getElem?_set_self (by simpa using hl), List.getElem?_map, h1]
      simp [h2]
    · rw [List.getElem?_set_ne (Ne.symm e)]
  have hp : ∀ h', hpos ObjX.h (l.set j ⟨h, ws, x⟩) h' = hpos ObjX.h l h' := by
    intro h'
    rw [← kfind_hks, ← kfind_hks, e1]
  refine ⟨e1, by unfold hvs; rw [List.map_set], ?_, ?_⟩
  · funext h'
    have hl := (List.getElem?_eq_some_iff.1 h1).1
    by_cases e : h' = h
    · subst e
      rw [upI_self]
      unfold objsI
      rw [hp, hj]
      simp only [Option.bind_some, List.getElem?_set_self hl, Option.map_some]
      rfl
    · rw [upI_ne _ _ e, upI_ne _ _ e]
      unfold objsI
      rw [hp]
      cases hq : hpos ObjX.h l h' with
      | none => rfl
      | some i =>
        simp only [Option.bind_some]
        have : i ≠ j := by
          rintro rfl
          obtain ⟨ob', g1, g2⟩ := hpos_lt hq
          rw [h1] at g1; cases g1
          exact e (g2.symm.trans h2)
        rw [List.getElem?_set_ne (Ne.symm this)]
  · intro hn
    clear e1 hp h1 h2
    induction l generalizing j with
    | nil => simp [hpos] at hj
    | cons a l ih =>
      simp only [hpos] at hj
      split at hj
      · rename_i e
        cases hj
        rw [List.set_cons_zero]
        exact ⟨fun b hb => by show b.h ≠ h; rw [← e]; exact hn.1 b hb, hn.2⟩
      · rename_i e
        simp only [Option.map_eq_some_iff] at hj
        obtain ⟨i, hi, rfl⟩ := hj
        rw [List.set_cons_succ]
        refine ⟨fun b hb => ?_, ih hi hn.2⟩
        rcases List.mem_or_eq_of_mem_set hb with hb | hb
        · exact hn.1 b hb
        · rw [hb]; exact fun e' => e e'.symm
theorem wcs_get {ws : List Int} {i : Nat} (h : i < ws.length) : (wcs ws)[i]? = some [.int .i64 (ws.getD i 0)] := by
  simp [wcs, List.getElem?_eq_getElem h, List.getD_eq_getElem?_getD]
theorem wcs_set (ws : List Int) (i : Nat) (v : Int) : (wcs ws).set i [.int .i64 v] = wcs (ws.set i v) := by unfold wcs; rw [List.map_set]
end Go.Proofs.Ythoodnlihbaimaa
