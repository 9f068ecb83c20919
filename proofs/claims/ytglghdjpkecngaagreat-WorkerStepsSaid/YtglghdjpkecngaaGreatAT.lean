/- act: a thread that does something in an arena, while it pins the epoch. -/
import Derived.Test.YtglghdjpkecngaaGreatAS
import Derived.Test.YtglghdjpkecngaaGreatSLy
namespace Go.Proofs.YtglghdjpkecngaaGreat
set_option linter.unusedVariables false
set_option linter.unusedSimpArgs false
open Go Go.SL Go.FL
set_option maxRecDepth 100000
def doerU (W0 : World) : DoerS → VB
  | .alloc s => bx W0 (allocU W0 s)
  | .drop s => bx W0 (dropU W0 s)
  | .access s => bx W0 (accessU W0 s)
def doerV (i : Nat) : DoerS → VV
  | .alloc _ => .iface 183 (.ptr i 0)
  | .drop _ => .iface 185 (.ptr i 0)
  | .access _ => .iface 187 (.ptr i 0)
def actC (s : ActS) (v : VV) : VB := .cells [.int .i64 s.i.pc, .int .u64 s.i.epoch, .int .i64 s.pc, v, .int .i64 s.out.e, .int .u64 s.out.h, .int .i64 s.out.v, .int .i64 s.out.s]
def actU (W0 : World) (s : ActS) : List VB := [actC s (doerV 1 s.work), doerU W0 s.work]
theorem rn_doerV (ρ : Nat → Nat) (i : Nat) (d : DoerS) : rn ρ (doerV i d) = doerV (ρ i) d := by cases d <;> rfl
theorem rnB_doerU (W0 : World) (ρ : Nat → Nat) (d : DoerS) : rnB ρ (doerU W0 d) = doerU W0 d := by cases d <;> rfl
theorem actCheck_ev {W0 : World} (x : ActX) : Ev Tryz.prog W0 91 [.agg [.int .i64 x.kind, .int .i64 x.size, .int .u64 x.handle, .int .i64 x.index, .int .i64 x.value, .int .i64 x.old, .bool x.own]] [] (fun v V' => v = .bool (checkAct x) ∧ V' = []) := by
  refine Ev.out fun Q' hQ => ev91 rfl fun o => ?_
  generalize hR : checkAct x = R at hQ
  obtain ⟨k, z, h, i, v, w, own⟩ := x
  simp only [checkAct] at hR
  (cbv; repeat' (first | (refine mt (fun h => ?_) (fun h => ?_) <;> (try cbv)) | fail))
  all_goals (simp only [Ops.cmp_eq, icmp] at *)
  all_goals (refine hQ _ _ (ReV.none rfl ⟨?_, rfl⟩); rw [← hR]; simp_all)
  all_goals (intros; omega)
theorem allocNew_ev {W0 : World} (z : Int) (b : Bool) : Ev Tryz.prog W0 109 [.int .i64 z, .bool b] [] (fun v V' => v = .ptr 0 0 ∧ V' = [bx W0 (allocU W0 (newAlloc z b))]) := by
  refine Ev.out fun Q' hQ => ev109 rfl fun o => ?_
  cbv
  exact hQ _ _ (ReV.shut 0 [7, 8] (allocU W0 (newAlloc z b)) rfl rfl ⟨.inr rfl, .inl rfl, .inl rfl, trivial⟩ (ReV.id ⟨rfl, rfl⟩))
theorem dropNew_ev {W0 : World} (n : Nat) (b : Bool) : Ev Tryz.prog W0 110 [.int .u64 n, .bool b] [] (fun v V' => v = .ptr 0 0 ∧ V' = [bx W0 (dropU W0 (newDrop n b))]) := by
  refine Ev.out fun Q' hQ => ev110 rfl fun o => ?_
  cbv
  exact hQ _ _ (ReV.shut 0 [7, 8] (dropU W0 (newDrop n b)) rfl rfl ⟨.inr rfl, .inl rfl, .inl rfl, trivial⟩ (ReV.id ⟨rfl, rfl⟩))
theorem accessNew_ev {W0 : World} (x : WantS) (b : Bool) : Ev Tryz.prog W0 111 [.agg [.int .i64 x.kind, .int .u64 x.handle, .int .i64 x.index, .int .i64 x.value, .int .i64 x.old], .bool b] [] (fun v V' => v = .ptr 0 0 ∧ V' = [bx W0 (accessU W0 (newAccess x b))]) := by
  refine Ev.out fun Q' hQ => ev111 rfl fun o => ?_
  cbv
  refine hQ _ _ (ReV.shut 1 [7] (accessU W0 (newAccess x b)) rfl rfl ⟨.inr rfl, .inl rfl, trivial⟩ ?_)
  exact ReV.ren [1] (.ptr 0 0) [bx W0 (accessU W0 (newAccess x b))] rfl rfl rfl ⟨.inr rfl, trivial⟩ ⟨rfl, rfl⟩
def actV (x : ActX) : VV := .agg [.int .i64 x.kind, .int .i64 x.size, .int .u64 x.handle, .int .i64 x.index, .int .i64 x.value, .int .i64 x.old, .bool x.own]
theorem of_ev {W0 : World} (x : ActX) : Ev Tryz.prog W0 93 [actV x] [] (fun v V' => v = doerV 0 (doerOf x) ∧ V' = [doerU W0 (doerOf x)]) := by
  refine Ev.out fun Q' hQ => ev93 rfl fun o => ?_
  generalize hD : doerOf x = D at *
  obtain ⟨k, z, hd, i, v, w, own⟩ := x
  (cbv; repeat' (first | (refine mt (fun h => ?_) (fun h => ?_) <;> (try cbv)) | fail))
  · have hk : k = 1 := by simpa [Ops.cmp_eq, icmp] using h
    refine Ops.call _ [] (allocNew_ev z own) rfl rfl rfl trivial ?_
    rintro v V' ⟨rfl, rfl⟩
    simp only [layB, lapp, List.map_cons, List.map_nil, rnB_bx]
    generalize hN : bx W0 (allocU W0 (newAlloc z own)) = N
    cbv
    have hD' : D = .alloc (newAlloc z own) := by rw [← hD]; simp [doerOf, hk]
    subst hD'
    exact hQ _ _ (ReV.ren [1] (doerV 0 (.alloc (newAlloc z own))) [doerU W0 (.alloc (newAlloc z own))] rfl rfl rfl ⟨.inr (by rw [← hN]; rfl), trivial⟩ ⟨rfl, rfl⟩)
  · rename_i h1
    have hk1 : k ≠ 1 := by simpa [Ops.cmp_eq, icmp] using h1
    have hk : k = 2 := by simpa [Ops.cmp_eq, icmp] using h
    refine Ops.call _ [] (dropNew_ev hd own) rfl rfl rfl trivial ?_
    rintro v V' ⟨rfl, rfl⟩
    simp only [layB, lapp, List.map_cons, List.map_nil, rnB_bx]
    generalize hN : bx W0 (dropU W0 (newDrop hd own)) = N
    cbv
    have hD' : D = .drop (newDrop hd own) := by rw [← hD]; simp [doerOf, hk]
    subst hD'
    exact hQ _ _ (ReV.ren [1] (doerV 0 (.drop (newDrop hd own))) [doerU W0 (.drop (newDrop hd own))] rfl rfl rfl ⟨.inr (by rw [← hN]; rfl), trivial⟩ ⟨rfl, rfl⟩)
  · rename_i h1
    have hk1 : k ≠ 1 := by simpa [Ops.cmp_eq, icmp] using h1
    have hk : k ≠ 2 := by simpa [Ops.cmp_eq, icmp] using h
    simp only [Ops.ar_eq, arith]
    generalize hu : IntKind.i64.wrap (IntKind.i64.wrap (k - 3) + 1) = u at *
    refine Ops.call _ [] (accessNew_ev ⟨u, hd, i, v, w⟩ own) rfl rfl rfl trivial ?_
    rintro v' V' ⟨rfl, rfl⟩
    simp only [layB, lapp, List.map_cons, List.map_nil, rnB_bx]
    generalize hN : bx W0 (accessU W0 (newAccess ⟨u, hd, i, v, w⟩ own)) = N
    cbv
    have hD' : D = .access (newAccess ⟨u, hd, i, v, w⟩ own) := by rw [← hD]; simp [doerOf, hk, hk1, hu]
    subst hD'
    exact hQ _ _ (ReV.ren [1] (doerV 0 (.access (newAccess ⟨u, hd, i, v, w⟩ own))) [doerU W0 (.access (newAccess ⟨u, hd, i, v, w⟩ own))] rfl rfl rfl ⟨.inr (by rw [← hN]; rfl), trivial⟩ ⟨rfl, rfl⟩)
theorem actNew_ev {W0 : World} (x : ActX) : Ev Tryz.prog W0 59 [actV x] [] (fun v V' => if checkAct x then v = .tup [.ptr 0 0, .int .i64 0] ∧ V' = [bx W0 (actU W0 (newAct x))] else v = .tup [.nilPtr, .int .i64 1] ∧ V' = []) := by
  refine Ev.out fun Q' hQ => ev59 rfl fun o => ?_
  generalize hN : bx W0 (actU W0 (newAct x)) = N at *
  cbv
  refine Ops.call0 _ (actCheck_ev x) rfl ?_; rintro v V' ⟨rfl, rfl⟩; simp only [lapp, List.map_nil, rn, rnL]
  generalize hc : checkAct x = c at *
  cases c
  all_goals (cbv; repeat' (first | (refine mt (fun h => ?_) (fun h => ?_) <;> first | (exfalso; simp [Ops.cmp_eq, Ops.not_eq, icmp] at h; done) | (try cbv)) | fail))
  · exact hQ _ _ (ReV.none rfl (by simp))
  · refine Ops.call _ [] (of_ev x) rfl rfl rfl trivial ?_
    rintro v V' ⟨rfl, rfl⟩
    simp only [layB, lapp, List.map_cons, List.map_nil, rnB_doerU, rn_doerV]
    have hN' : N = bx W0 [actC (newAct x) (doerV 1 (doerOf x)), doerU W0 (doerOf x)] := by rw [← hN]; rfl
    generalize doerOf x = d at *
    generalize hB : doerU W0 d = B at *
    cases d
    all_goals simp only [doerV]
    all_goals cbv
    all_goals (refine hQ _ _ (ReV.shut 2 [1] [actC (newAct x) (doerV 1 _), B] rfl rfl ⟨.inr rfl, .inr (by rw [← hB, rnB_doerU]; rfl), trivial⟩ (ReV.ren [2] (.tup [.ptr 0 0, .int .i64 0]) [N] rfl rfl rfl ⟨.inr (by rw [hN']; rfl), trivial⟩ ⟨rfl, rfl⟩)))
theorem actU_open {W0 : World} {M : VB} (s : ActS) : layB (rho [1] [M, bx W0 (actU W0 s)].length) [M, bx W0 (actU W0 s)] [1] (actU W0 s) = [M, actC s (doerV 2 s.work), doerU W0 s.work] := by
  simp only [layB, lset, lapp, actU, rnB_doerU, List.map_cons, List.map_nil]
  simp only [actC, rnB, rnL, rn, rn_doerV]
  rfl
theorem ReV.act {W0 : World} {Q : VV → List VB → Prop} {v : VV} {M : VB} {m : MemS} {s : ActS} {V : List VB} (q1 : Nat) (hM : bx W0 (memU m) = M) (h0 : lget V 0 = some M) (h1 : lget V 1 = some (actC s (doerV q1 s.work)))
    (hd : nodupB [1, q1] = true) (hz : hasNat [1, q1] 0 = false) (hp : lget V q1 = some (doerU W0 s.work)) (hv : ∀ n, rn (rho [0, 1] n) v = v) (hq : Q v [bx W0 (memU m), bx W0 (actU W0 s)]) : ReV W0 2 Q v V := by
  subst hM
  have e0 : ∀ n, rho [1, q1] n 1 = q1 := fun _ => rfl
  have hl : 1 < V.length := by rw [lget_eq] at h1; exact (List.getElem?_eq_some_iff.1 h1).1
  refine ReV.shut 1 [q1] (actU W0 s) hd (by rw [h1]; rfl) ⟨.inr ?_, .inr ?_, trivial⟩ ?_
  · rw [h1]
    simp only [actC, rnB, rnL, rn, rn_doerV, e0]
  · rw [hp, rnB_doerU]
  · exact ReV.ren [0, 1] v [bx W0 (memU m), bx W0 (actU W0 s)] rfl rfl (hv _).symm ⟨.inr ((lget_emps hz).trans h0), .inr (lget_emps_at hd hl), trivial⟩ hq
def doneV (d : DoneS) : VV := .agg [.int .i64 d.e, .int .u64 d.h, .int .i64 d.v, .int .i64 d.s]
theorem ReV.pre {W0 : World} {Q : VV → List VB → Prop} {v : VV} {U rest : List VB} (hcl : ∀ ρ : Nat → Nat, (∀ i, i < U.length → ρ i = i) → U.map (rnB ρ) = U) (hv : ∀ n, rn (rho (countUp U.length 0) n) v = v) (hq : Q v U) : ReV W0 U.length Q v (U ++ rest) := by
  have hρ : ∀ i, i < U.length → rho (countUp U.length 0) (U ++ rest).length i = i := by
    intro i hi
    unfold rho
    rw [countUp_get _ _ _ hi]; simp
  refine ReV.ren (countUp U.length 0) v U ?_ (countUp_nodup _ _) (hv _).symm ?_ hq
  · have : ∀ n k, keeps n k (countUp n k) = true := by
      intro n
      induction n with
      | zero => intro k; rfl
      | succ n ih => intro k; simp only [countUp, keeps, Nat.beq_refl]; exact ih (k + 1)
    exact this _ _
  · have hm := hcl _ hρ
    generalize rho (countUp U.length 0) (U ++ rest).length = ρ at *
    have key : ∀ (A : List VB) (k : Nat) (B : List VB), B.map (rnB ρ) = B → (∀ i, i < B.length → lget A (k + i) = lget B i) → fitB ρ A (countUp B.length k) B := by
      intro A k B
      induction B generalizing k with
      | nil => intro _ _; trivial
      | cons b B ih =>
        intro h1 h2
        simp only [List.map_cons, List.cons.injEq] at h1
        refine ⟨.inr ?_, ih (k + 1) h1.2 fun i hi => ?_⟩
        · have := h2 0 (by simp)
          rw [Nat.add_zero] at this
          rw [this, h1.1]; rfl
        · have := h2 (i + 1) (by simp; omega)
          rw [show k + 1 + i = k + (i + 1) by omega, this]; rfl
    refine key _ _ _ hm fun i hi => ?_
    rw [Nat.zero_add, lget_eq, lget_eq, List.getElem?_append_left hi]
theorem allocDone_ev {W0 : World} (s : AllocS) : Ev Tryz.prog W0 135 [.ptr 0 0] [bx W0 (allocU W0 s)] (fun v V' => v = doneV s.out ∧ V' = [bx W0 (allocU W0 s)]) := by
  refine Ev.box0 (U := allocU W0 s) ?_ (by simp [allocU]) rfl (fun _ => rfl)
  have hU : allocU W0 s = [allocC s (optP 1 s.p) (optP 2 s.give), optB W0 placeU s.p, optB W0 giveU s.give] := rfl
  have hcl : ∀ ρ : Nat → Nat, (∀ i, i < (allocU W0 s).length → ρ i = i) → (allocU W0 s).map (rnB ρ) = allocU W0 s := by
    intro ρ h
    have e1 := h 1 (by simp [allocU])
    have e2 := h 2 (by simp [allocU])
    simp only [hU, List.map_cons, List.map_nil, List.cons.injEq, and_true]
    refine ⟨?_, ⟨rnB_optB .., rnB_optB ..⟩⟩
    simp only [allocC, rnB, rnL, rn, rn_optP, rn_doerV, e1, e2]
  refine Ev.out fun Q' hQ => ?_
  rw [hU] at hQ hcl ⊢
  generalize optP 1 s.p = vp at *
  generalize optP 2 s.give = vg at *
  generalize optB W0 placeU s.p = P at *
  generalize optB W0 giveU s.give = G at *
  refine ev135 rfl fun o => ?_
  cbv
  exact hQ _ _ (ReV.pre hcl (fun _ => rfl) ⟨rfl, rfl⟩)
theorem dropDone_ev {W0 : World} (s : DropS) : Ev Tryz.prog W0 162 [.ptr 0 0] [bx W0 (dropU W0 s)] (fun v V' => v = doneV s.out ∧ V' = [bx W0 (dropU W0 s)]) := by
  refine Ev.box0 (U := dropU W0 s) ?_ (by simp [dropU]) rfl (fun _ => rfl)
  have hU : dropU W0 s = [dropC s (optP 1 s.help) (optP 2 s.give), optB W0 helpU s.help, optB W0 giveU s.give] := rfl
  have hcl : ∀ ρ : Nat → Nat, (∀ i, i < (dropU W0 s).length → ρ i = i) → (dropU W0 s).map (rnB ρ) = dropU W0 s := by
    intro ρ h
    have e1 := h 1 (by simp [dropU])
    have e2 := h 2 (by simp [dropU])
    simp only [hU, List.map_cons, List.map_nil, List.cons.injEq, and_true]
    refine ⟨?_, ⟨rnB_optB .., rnB_optB ..⟩⟩
    simp only [dropC, rnB, rnL, rn, rn_optP, rn_doerV, e1, e2]
  refine Ev.out fun Q' hQ => ?_
  rw [hU] at hQ hcl ⊢
  generalize optP 1 s.help = vp at *
  generalize optP 2 s.give = vg at *
  generalize optB W0 helpU s.help = P at *
  generalize optB W0 giveU s.give = G at *
  refine ev162 rfl fun o => ?_
  cbv
  exact hQ _ _ (ReV.pre hcl (fun _ => rfl) ⟨rfl, rfl⟩)
theorem accessDone_ev {W0 : World} (s : AccessS) : Ev Tryz.prog W0 173 [.ptr 0 0] [bx W0 (accessU W0 s)] (fun v V' => v = doneV s.out ∧ V' = [bx W0 (accessU W0 s)]) := by
  refine Ev.box0 (U := accessU W0 s) ?_ (by simp [accessU]) rfl (fun _ => rfl)
  have hU : accessU W0 s = [accessC s (optP 1 s.help), optB W0 helpU s.help] := rfl
  have hcl : ∀ ρ : Nat → Nat, (∀ i, i < (accessU W0 s).length → ρ i = i) → (accessU W0 s).map (rnB ρ) = accessU W0 s := by
    intro ρ h
    have e1 := h 1 (by simp [accessU])
    skip
    simp only [hU, List.map_cons, List.map_nil, List.cons.injEq, and_true]
    refine ⟨?_, rnB_optB ..⟩
    simp only [accessC, rnB, rnL, rn, rn_optP, rn_doerV, e1]
  refine Ev.out fun Q' hQ => ?_
  rw [hU] at hQ hcl ⊢
  generalize optP 1 s.help = vp at *
  generalize optB W0 helpU s.help = P at *
  refine ev173 rfl fun o => ?_
  cbv
  exact hQ _ _ (ReV.pre hcl (fun _ => rfl) ⟨rfl, rfl⟩)
theorem actDone_ev {W0 : World} (s : ActS) : Ev Tryz.prog W0 62 [.ptr 0 0] [bx W0 (actU W0 s)] (fun v V' => v = doneV s.out ∧ V' = [bx W0 (actU W0 s)]) := by
  refine Ev.box0 (U := actU W0 s) ?_ (by simp [actU]) rfl (fun _ => rfl)
  have hU : actU W0 s = [actC s (doerV 1 s.work), doerU W0 s.work] := rfl
  have hcl : ∀ ρ : Nat → Nat, (∀ i, i < (actU W0 s).length → ρ i = i) → (actU W0 s).map (rnB ρ) = actU W0 s := by
    intro ρ h
    have e1 := h 1 (by simp [actU])
    skip
    simp only [hU, List.map_cons, List.map_nil, List.cons.injEq, and_true]
    refine ⟨?_, rnB_doerU ..⟩
    simp only [actC, rnB, rnL, rn, rn_optP, rn_doerV, e1]
  refine Ev.out fun Q' hQ => ?_
  rw [hU] at hQ hcl ⊢
  generalize doerV 1 s.work = vp at *
  generalize doerU W0 s.work = P at *
  refine ev62 rfl fun o => ?_
  cbv
  exact hQ _ _ (ReV.pre hcl (fun _ => rfl) ⟨rfl, rfl⟩)
theorem actDone0_ev {W0 : World} : Ev Tryz.prog W0 62 [.nilPtr] [] (fun v V' => v = doneV ⟨1, 0, 0, 0⟩ ∧ V' = []) := by
  refine Ev.out fun Q' hQ => ev62 rfl fun o => ?_
  cbv
  exact hQ _ _ (ReV.none rfl ⟨rfl, rfl⟩)
theorem Act_ev {W0 : World} (m : MemS) (e : EnvS) (s : ActS) (hw : s.pc = 1 → s.work.wf e.c) :
    Ev Tryz.prog W0 61 [.ptr 1 0, e.v 0] [bx W0 (memU m), bx W0 (actU W0 s)] (fun v V' => v = .bool (s.step e m).1 ∧ V' = [bx W0 (memU (s.step e m).2.2), bx W0 (actU W0 (s.step e m).2.1)]) := by
  generalize hR : s.step e m = R
  refine Ev.outB 1 (U := actU W0 s) rfl fun Q' hQ => ?_
  generalize hM : bx W0 (memU m) = M at *
  rw [actU_open]
  refine ev61 rfl fun o => ?_
  obtain ⟨⟨ip, ep⟩, pc, d, ⟨o1, o2, o3, o4⟩⟩ := s
  have hpc : pc = 0 ∨ pc = 1 ∨ ∃ n, pc = n + 2 := by rcases pc with _ | _ | n <;> simp
  have fin : ∀ (b : Bool) (S : ActS) (m' : MemS) (rest : List VB), R = (b, S, m') → Q' (.bool b) (bx W0 (memU m') :: actC S (doerV 2 S.work) :: doerU W0 S.work :: rest) := by
    rintro b S m' rest rfl
    exact hQ _ _ (ReV.act 2 rfl rfl rfl rfl rfl rfl (fun _ => rfl) ⟨rfl, rfl⟩)
  rcases hpc with rfl | rfl | ⟨n, rfl⟩
  · generalize hv : doerV 2 d = dv at *
    generalize hB : doerU W0 d = B at *
    have hip : ip = 0 ∨ ip = 1 ∨ ∃ n, ip = n + 2 := by rcases ip with _ | _ | n <;> simp
    rcases hip with rfl | rfl | ⟨n, rfl⟩
    · (cbv; repeat' (first | (refine mt (fun h => ?_) (fun h => ?_) <;> first | (exfalso; simp [Ops.cmp_eq, Ops.not_eq, icmp] at h; done) | (try cbv)) | fail))
      refine Ops.evI _ (ev94 rfl fun o => ?_)
      (cbv; repeat' (first | (refine mt (fun h => ?_) (fun h => ?_) <;> first | (exfalso; simp [Ops.cmp_eq, Ops.not_eq, icmp] at h; done) | (try cbv)) | fail))
      refine Ops.call0 _ (lEpoch_ev) rfl ?_; rintro v V' ⟨rfl, rfl⟩; simp only [lapp, List.map_nil, rn, rnL]
      cbv
      refine Ops.call _ [0] (eLoad_ev m e 0) rfl rfl rfl ⟨.inr (by rw [← hM]; rfl), trivial⟩ ?_; rintro v V' ⟨rfl, rfl⟩; simp only [layB, lset, lapp, List.map_nil, List.map_cons, rnB_bx, rn, rnL]; clear hM; generalize hM : bx W0 (memU _) = M
      generalize hr : eld e m 0 = r at *
      obtain ⟨r1, m'⟩ := r
      simp only at hM
      cbv
      rw [← hM]
      subst hv hB
      refine fin false ⟨⟨1, r1⟩, 0, d, ⟨o1, o2, o3, o4⟩⟩ m' _ ?_
      rw [← hR]; simp [ActS.step, InS.step, hr]
    · (cbv; repeat' (first | (refine mt (fun h => ?_) (fun h => ?_) <;> first | (exfalso; simp [Ops.cmp_eq, Ops.not_eq, icmp] at h; done) | (try cbv)) | fail))
      refine Ops.evI _ (ev94 rfl fun o => ?_)
      (cbv; repeat' (first | (refine mt (fun h => ?_) (fun h => ?_) <;> first | (exfalso; simp [Ops.cmp_eq, Ops.not_eq, icmp] at h; done) | (try cbv)) | fail))
      refine Ops.call0 _ (lPin_ev e.who) rfl ?_; rintro v V' ⟨rfl, rfl⟩; simp only [lapp, List.map_nil, rn, rnL]
      generalize ha : pinA e.who = a at *
      cbv
      have he : arith .add .u64 (ep : Int) 1 = ((inc64 ep : Nat) : Int) := by simp only [arith, u64w, inc64]; omega
      simp only [Ops.ar_eq, Int.ofNat_eq_natCast]
      rw [he]
      generalize hi : inc64 ep = ie at *
      refine Ops.call _ [0] (eStore_ev m e a ie) rfl rfl rfl ⟨.inr (by rw [← hM]; rfl), trivial⟩ ?_; rintro v V' ⟨rfl, rfl⟩; simp only [layB, lset, lapp, List.map_nil, List.map_cons, rnB_bx, rn, rnL]; clear hM; generalize hM : bx W0 (memU _) = M
      generalize hr : est e m a ie = m' at *
      cbv
      rw [← hM]
      subst hv hB
      refine fin false ⟨⟨2, ep⟩, 0, d, ⟨o1, o2, o3, o4⟩⟩ m' _ ?_
      rw [← hR]; simp [ActS.step, InS.step, ha, hi, hr]
    · (cbv; repeat' (first | (refine mt (fun h => ?_) (fun h => ?_) <;> first | (exfalso; simp [Ops.cmp_eq, Ops.not_eq, icmp] at h; done) | (try cbv)) | fail))
      refine Ops.evI _ (ev94 rfl fun o => ?_)
      (cbv; repeat' (first | (refine mt (fun h => ?_) (fun h => ?_) <;> first | (exfalso; simp [Ops.cmp_eq, icmp] at h; omega) | (try cbv)) | fail))
      refine Ops.call0 _ (lEpoch_ev) rfl ?_; rintro v V' ⟨rfl, rfl⟩; simp only [lapp, List.map_nil, rn, rnL]
      cbv
      refine Ops.call _ [0] (eLoad_ev m e 0) rfl rfl rfl ⟨.inr (by rw [← hM]; rfl), trivial⟩ ?_; rintro v V' ⟨rfl, rfl⟩; simp only [layB, lset, lapp, List.map_nil, List.map_cons, rnB_bx, rn, rnL]; clear hM; generalize hM : bx W0 (memU _) = M
      generalize hr : eld e m 0 = r at *
      obtain ⟨r1, m'⟩ := r
      simp only at hM
      (cbv; repeat' (first | (refine mt (fun h => ?_) (fun h => ?_) <;> (try cbv)) | fail))
      · simp only [Ops.cmp_eq, icmp] at h
        (try simp only [cfix] at *); (try simp only [Int.ofNat_eq_natCast] at *)
        have hb : Nat.beq r1 ep = true := by rw [← beq_nat]; exact h
        rw [← hM]
        subst hv hB
        refine fin false ⟨⟨n + 2, ep⟩, 1, d, ⟨o1, o2, o3, o4⟩⟩ m' _ ?_
        rw [← hR]; simp only [ActS.step, InS.step, hr, hb]; rfl
      · simp only [Ops.cmp_eq, icmp] at h
        (try simp only [cfix] at *); (try simp only [Int.ofNat_eq_natCast] at *)
        have hb : Nat.beq r1 ep = false := by rw [← beq_nat]; exact h
        rw [← hM]
        subst hv hB
        refine fin false ⟨⟨1, r1⟩, 0, d, ⟨o1, o2, o3, o4⟩⟩ m' _ ?_
        rw [← hR]; simp only [ActS.step, InS.step, hr, hb]; rfl
  · have hd := hw rfl
    clear hw
    cases d with
    | alloc a =>
      obtain ⟨w1, w2, w3⟩ := hd
      simp only [doerV, doerU]
      generalize hB : bx W0 (allocU W0 a) = B at *
      (cbv; repeat' (first | (refine mt (fun h => ?_) (fun h => ?_) <;> first | (exfalso; simp [Ops.cmp_eq, Ops.not_eq, icmp] at h; done) | (try cbv)) | fail))
      refine Ops.call _ [0, 2] (Alloc_ev m e a w1 w2 w3) rfl rfl rfl ⟨.inr (by rw [← hM]; rfl), .inr (by rw [← hB]; rfl), trivial⟩ ?_
      rintro v V' ⟨rfl, rfl⟩
      generalize hr : a.step e m = r at *
      obtain ⟨rb, a', m'⟩ := r
      simp only [layB, lset, lapp, List.map_nil, List.map_cons, rnB_bx, rn]
      clear hM hB
      generalize hM : bx W0 (memU m') = M
      generalize hB : bx W0 (allocU W0 a') = B
      cases rb
      all_goals cbv
      · rw [← hM, ← hB]
        refine fin false ⟨⟨ip, ep⟩, 1, .alloc a', ⟨o1, o2, o3, o4⟩⟩ m' _ ?_
        rw [← hR]; simp [ActS.step, DoerS.step, hr]
      · refine Ops.call _ [2] (allocDone_ev a') rfl rfl rfl ⟨.inr (by rw [← hB]; rfl), trivial⟩ ?_
        rintro v V' ⟨rfl, rfl⟩
        simp only [layB, lset, lapp, List.map_nil, List.map_cons, rnB_bx, doneV, rn, rnL]
        rw [hB]
        generalize hout : a'.out = out
        obtain ⟨q1, q2, q3, q4⟩ := out
        cbv
        rw [← hM, ← hB]
        refine fin false ⟨⟨ip, ep⟩, 2, .alloc a', ⟨q1, q2, q3, q4⟩⟩ m' _ ?_
        rw [← hR]; simp [ActS.step, DoerS.step, DoerS.done, hr, hout]
    | drop a =>
      obtain ⟨w1, w2, w3⟩ := hd
      simp only [doerV, doerU]
      generalize hB : bx W0 (dropU W0 a) = B at *
      (cbv; repeat' (first | (refine mt (fun h => ?_) (fun h => ?_) <;> first | (exfalso; simp [Ops.cmp_eq, Ops.not_eq, icmp] at h; done) | (try cbv)) | fail))
      refine Ops.call _ [0, 2] (Drop_ev m e a w1 w2 w3) rfl rfl rfl ⟨.inr (by rw [← hM]; rfl), .inr (by rw [← hB]; rfl), trivial⟩ ?_
      rintro v V' ⟨rfl, rfl⟩
      generalize hr : a.step e m = r at *
      obtain ⟨rb, a', m'⟩ := r
      simp only [layB, lset, lapp, List.map_nil, List.map_cons, rnB_bx, rn]
      clear hM hB
      generalize hM : bx W0 (memU m') = M
      generalize hB : bx W0 (dropU W0 a') = B
      cases rb
      all_goals cbv
      · rw [← hM, ← hB]
        refine fin false ⟨⟨ip, ep⟩, 1, .drop a', ⟨o1, o2, o3, o4⟩⟩ m' _ ?_
        rw [← hR]; simp [ActS.step, DoerS.step, hr]
      · refine Ops.call _ [2] (dropDone_ev a') rfl rfl rfl ⟨.inr (by rw [← hB]; rfl), trivial⟩ ?_
        rintro v V' ⟨rfl, rfl⟩
        simp only [layB, lset, lapp, List.map_nil, List.map_cons, rnB_bx, doneV, rn, rnL]
        rw [hB]
        generalize hout : a'.out = out
        obtain ⟨q1, q2, q3, q4⟩ := out
        cbv
        rw [← hM, ← hB]
        refine fin false ⟨⟨ip, ep⟩, 2, .drop a', ⟨q1, q2, q3, q4⟩⟩ m' _ ?_
        rw [← hR]; simp [ActS.step, DoerS.step, DoerS.done, hr, hout]
    | access a =>
      have w1 := hd
      simp only [doerV, doerU]
      generalize hB : bx W0 (accessU W0 a) = B at *
      (cbv; repeat' (first | (refine mt (fun h => ?_) (fun h => ?_) <;> first | (exfalso; simp [Ops.cmp_eq, Ops.not_eq, icmp] at h; done) | (try cbv)) | fail))
      refine Ops.call _ [0, 2] (Access_ev m e a w1) rfl rfl rfl ⟨.inr (by rw [← hM]; rfl), .inr (by rw [← hB]; rfl), trivial⟩ ?_
      rintro v V' ⟨rfl, rfl⟩
      generalize hr : a.step e m = r at *
      obtain ⟨rb, a', m'⟩ := r
      simp only [layB, lset, lapp, List.map_nil, List.map_cons, rnB_bx, rn]
      clear hM hB
      generalize hM : bx W0 (memU m') = M
      generalize hB : bx W0 (accessU W0 a') = B
      cases rb
      all_goals cbv
      · rw [← hM, ← hB]
        refine fin false ⟨⟨ip, ep⟩, 1, .access a', ⟨o1, o2, o3, o4⟩⟩ m' _ ?_
        rw [← hR]; simp [ActS.step, DoerS.step, hr]
      · refine Ops.call _ [2] (accessDone_ev a') rfl rfl rfl ⟨.inr (by rw [← hB]; rfl), trivial⟩ ?_
        rintro v V' ⟨rfl, rfl⟩
        simp only [layB, lset, lapp, List.map_nil, List.map_cons, rnB_bx, doneV, rn, rnL]
        rw [hB]
        generalize hout : a'.out = out
        obtain ⟨q1, q2, q3, q4⟩ := out
        cbv
        rw [← hM, ← hB]
        refine fin false ⟨⟨ip, ep⟩, 2, .access a', ⟨q1, q2, q3, q4⟩⟩ m' _ ?_
        rw [← hR]; simp [ActS.step, DoerS.step, DoerS.done, hr, hout]
  · generalize hv : doerV 2 d = dv at *
    generalize hB : doerU W0 d = B at *
    (cbv; repeat' (first | (refine mt (fun h => ?_) (fun h => ?_) <;> first | (exfalso; simp [Ops.cmp_eq, icmp] at h; omega) | (try cbv)) | fail))
    refine Ops.evI _ (ev95 rfl fun o => ?_)
    cbv
    refine Ops.call0 _ (lPin_ev e.who) rfl ?_; rintro v V' ⟨rfl, rfl⟩; simp only [lapp, List.map_nil, rn, rnL]
    generalize ha : pinA e.who = a at *
    cbv
    refine Ops.call _ [0] (eStore_ev m e a 0) rfl rfl rfl ⟨.inr (by rw [← hM]; rfl), trivial⟩ ?_; rintro v V' ⟨rfl, rfl⟩; simp only [layB, lset, lapp, List.map_nil, List.map_cons, rnB_bx, rn, rnL]; clear hM; generalize hM : bx W0 (memU _) = M
    generalize hr : est e m a 0 = m' at *
    cbv
    rw [← hM]
    subst hv hB
    refine fin true ⟨⟨ip, ep⟩, n + 2, d, ⟨o1, o2, o3, o4⟩⟩ m' _ ?_
    rw [← hR]; simp [ActS.step, outStep, ha, hr]
theorem Act0_ev {W0 : World} (m : MemS) (e : EnvS) : Ev Tryz.prog W0 61 [.nilPtr, e.v 0] [bx W0 (memU m)] (fun v V' => v = .bool true ∧ V' = [bx W0 (memU m)]) := by
  refine Ev.out fun Q' hQ => ?_
  generalize hM : bx W0 (memU m) = M at *
  refine ev61 rfl fun o => ?_
  cbv
  exact hQ _ _ (ReV.m0 hM (fun _ => rfl) ⟨rfl, by rw [hM]⟩)
end Go.Proofs.YtglghdjpkecngaaGreat
