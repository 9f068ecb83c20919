/- Texts of one claim, laid into one: EB EC ED EE EF EG EH EI EJ. -/
import Derived.Test.YtglghdjpkecngaaGreatBN
import Derived.Test.YtglghdjpkecngaaGreatQa
import Derived.Test.YtglghdjpkecngaaGreatIRW
import Derived.Test.YtglghdjpkecngaaGreatEp
set_option linter.unusedVariables false
set_option linter.unusedSimpArgs false
/- worker: which calls may be; what is seen of a worker. -/
namespace Go.Proofs.YtglghdjpkecngaaGreat
set_option linter.unusedVariables false
set_option linter.unusedSimpArgs false
open Go Go.SL Go.FL
set_option maxRecDepth 100000
theorem actOf_ev {W0 : World} (c : CallS) (h : Nat) (k0 : 1 ≤ c.kind) (k1 : c.kind ≤ 8) : Ev Tryz.prog W0 92 [.agg c.cs, .int .u64 h] [] (fun v V' => v = actV (FL.actOf c h) ∧ V' = []) := by
  refine Ev.out fun Q' hQ => ev92 rfl fun o => ?_
  obtain ⟨k, z, w, a, r, i, x, y, ke⟩ := c
  have k0 : 1 ≤ k := k0
  have k1 : k ≤ 8 := k1
  have e1 : arith .add .i64 (arith .sub .i64 k 1) 1 = k := by
    simp only [arith]
    rw [IntKind.wrap_i64, IntKind.wrap_i64] <;> omega
  simp only [CallS.cs]
  cbv
  simp only [Ops.ar_eq]
  rw [e1]
  exact hQ _ _ (ReV.none rfl ⟨rfl, rfl⟩)
theorem callCheck_ev {W0 : World} (c : CallS) : Ev Tryz.prog W0 56 [.agg c.cs] [] (fun v V' => v = .bool (checkCall c) ∧ V' = []) := by
  refine Ev.out fun Q' hQ => ev56 rfl fun o => ?_
  have hA := actOf_ev (W0 := W0) c 0
  have hC := actCheck_ev (W0 := W0) (FL.actOf c 0)
  generalize hR : checkCall c = R at hQ
  unfold checkCall at hR
  obtain ⟨k, z, w, a, r, i, x, y, ke⟩ := c
  simp only [CallS.cs] at *
  (cbv; repeat' (first | (refine mt (fun h => ?_) (fun h => ?_) <;> (try cbv)) | fail))
  · have h1 : k < 1 := by simpa [Ops.cmp_eq, icmp] using h
    rw [if_pos (.inl h1)] at hR; subst hR
    exact hQ _ _ (ReV.none rfl ⟨rfl, rfl⟩)
  · have h1 : k > 8 := by simpa [Ops.cmp_eq, icmp] using h
    rw [if_pos (.inr h1)] at hR; subst hR
    exact hQ _ _ (ReV.none rfl ⟨rfl, rfl⟩)
  · rename_i g1 g2
    have h1 : ¬ k < 1 := by simpa [Ops.cmp_eq, icmp] using g1
    have h2 : ¬ 8 < k := by simpa [Ops.cmp_eq, icmp] using g2
    have h3 : 6 ≤ k := by simpa [Ops.cmp_eq, icmp] using h
    rw [if_neg (by omega), if_pos h3] at hR
    have e1 : arith .add .i64 (arith .sub .i64 k 6) 1 = k - 5 := by
      simp only [arith]
      rw [IntKind.wrap_i64, IntKind.wrap_i64] <;> omega
    simp only [Ops.ar_eq]
    rw [e1]
    refine Ops.call0 _ (listCheck_ev (k - 5) ke) rfl ?_; rintro v V' ⟨rfl, rfl⟩; simp only [lapp, List.map_nil, rn, rnL]
    rw [hR]
    cbv
    exact hQ _ _ (ReV.none rfl ⟨rfl, rfl⟩)
  · rename_i g1 g2
    have h1 : ¬ k < 1 := by simpa [Ops.cmp_eq, icmp] using g1
    have h2 : ¬ 8 < k := by simpa [Ops.cmp_eq, icmp] using g2
    have h3 : ¬ 6 ≤ k := by simpa [Ops.cmp_eq, icmp] using h
    rw [if_neg (by omega), if_neg h3] at hR
    have hA := hA (by show (1 : Int) ≤ k; omega) (by show k ≤ 8; omega)
    generalize hX : FL.actOf _ 0 = X at *
    obtain ⟨x1, x2, x3, x4, x5, x6, x7⟩ := X
    simp only [actV] at *
    refine Ops.call0 _ (hA) rfl ?_; rintro v V' ⟨rfl, rfl⟩; simp only [lapp, List.map_nil, rn, rnL]
    cbv
    refine Ops.call0 _ (hC) rfl ?_; rintro v V' ⟨rfl, rfl⟩; simp only [lapp, List.map_nil, rn, rnL]
    rw [hR]
    cbv
    exact hQ _ _ (ReV.none rfl ⟨rfl, rfl⟩)
end Go.Proofs.YtglghdjpkecngaaGreat

/- worker: what is seen of one. -/
namespace Go.Proofs.YtglghdjpkecngaaGreat
set_option linter.unusedVariables false
set_option linter.unusedSimpArgs false
open Go Go.SL Go.FL
set_option maxRecDepth 100000
def wkV (i : Nat) : Option DoS → VV
  | none => .nilIface
  | some (.act _) => .iface 113 (.ptr i 0)
  | some (.list _) => .iface 29 (.ptr i 0)
def wkB (W0 : World) : Option DoS → VB
  | none => .emp
  | some (.act a) => bx W0 (actU W0 a)
  | some (.list l) => bx W0 (listU W0 l)
def queueU (l : List Int) : List VB := [.cells [.chan 1, .int .i64 64], .chan 64 (ints l)]
def workU (W0 : World) (s : WorkerS) (hs : Option (List Nat)) : List VB :=
  [workC s (slV 9 s.l 1 2) (.ptr 3 0) (optP 7 hs) (wkV 6 s.work) (slV 18 s.told 4 5), slB 9 CallS.cs s.l 2, slN s.l, bx W0 (queueU s.q), slB 18 ToldS.cs s.told 5, slN s.told, wkB W0 s.work, optB W0 shelfU hs]
theorem slV_rn {α : Type} (es : Nat) (xs : List α) (i j : Nat) (ρ : Nat → Nat) : rn ρ (slV es xs i j) = slV es xs (ρ i) (ρ j) := by cases xs <;> rfl
theorem wkV_rn (i : Nat) (d : Option DoS) (ρ : Nat → Nat) : rn ρ (wkV i d) = wkV (ρ i) d := by rcases d with _ | (_ | _) <;> rfl
theorem wkB_rn (W0 : World) (d : Option DoS) (ρ : Nat → Nat) : rnB ρ (wkB W0 d) = wkB W0 d := by rcases d with _ | (_ | _) <;> rfl
theorem slB_rn {α : Type} (es : Nat) (f : α → List VV) (hf : ∀ a ρ, rnL ρ (f a) = f a) (xs : List α) (j : Nat) (ρ : Nat → Nat) : rnB ρ (slB es f xs j) = slB es f xs (ρ j) := by
  cases xs with
  | nil => rfl
  | cons x t => simp [slB, rnB, Cap.rn, hf]
theorem slN_rn {α : Type} (xs : List α) (ρ : Nat → Nat) : rnB ρ (slN xs) = slN xs := by cases xs <;> rfl
theorem CallS.rn_cs (c : CallS) (ρ : Nat → Nat) : rnL ρ c.cs = c.cs := rfl
theorem ToldS.rn_cs (c : ToldS) (ρ : Nat → Nat) : rnL ρ c.cs = c.cs := rfl
theorem workC_rn (s : WorkerS) (a b c d e : VV) (ρ : Nat → Nat) : rnB ρ (workC s a b c d e) = workC s (rn ρ a) (rn ρ b) (rn ρ c) (rn ρ d) (rn ρ e) := rfl
theorem workU_cl (W0 : World) (s : WorkerS) (hs : Option (List Nat)) : ∀ ρ : Nat → Nat, (∀ i, i < (workU W0 s hs).length → ρ i = i) → (workU W0 s hs).map (rnB ρ) = workU W0 s hs := by
  intro ρ h
  have e1 := h 1 (by simp [workU])
  have e2 := h 2 (by simp [workU])
  have e3 := h 3 (by simp [workU])
  have e4 := h 4 (by simp [workU])
  have e5 := h 5 (by simp [workU])
  have e6 := h 6 (by simp [workU])
  have e7 := h 7 (by simp [workU])
  unfold workU
  simp only [List.map_cons, List.map_nil, workC_rn, slV_rn, slB_rn _ _ CallS.rn_cs, slB_rn _ _ ToldS.rn_cs, slN_rn, wkV_rn, wkB_rn, rnB_bx, rnB_optB, rn_optP, e1, e2, e3, e4, e5, e6, e7]
  simp only [rn, e3]
theorem madeO_ev {W0 : World} (s : WorkerS) (hs : Option (List Nat)) (a : Int) : Ev Tryz.prog W0 49 [.ptr 0 0, .int .i64 a] (workU W0 s hs) (fun v V' => v = .int .u64 (madeAt a s.told : Nat) ∧ V' = workU W0 s hs) := by
  have hcl := workU_cl W0 s hs
  refine Ev.out fun Q' hQ => ?_
  generalize hR : madeAt a s.told = R at hQ
  have hU : workU W0 s hs = [workC s (slV 9 s.l 1 2) (.ptr 3 0) (optP 7 hs) (wkV 6 s.work) (slV 18 s.told 4 5), slB 9 CallS.cs s.l 2, slN s.l, bx W0 (queueU s.q), slB 18 ToldS.cs s.told 5, slN s.told, wkB W0 s.work, optB W0 shelfU hs] := rfl
  rw [hU] at hQ hcl ⊢
  obtain ⟨me, l, q, at_, h, work, began, told⟩ := s
  simp only [workC] at *
  generalize slV 9 l 1 2 = b1 at *
  generalize slB 9 CallS.cs l 2 = b2 at *
  generalize slN l = b3 at *
  generalize bx W0 (queueU q) = b4 at *
  generalize wkB W0 work = b5 at *
  generalize optB W0 shelfU hs = b6 at *
  generalize optP 7 hs = b7 at *
  generalize wkV 6 work = b8 at *
  unfold madeAt at hR
  by_cases ha : a < 0
  · rw [if_pos ha] at hR; subst hR
    generalize slV 18 told 4 5 = b9 at *
    generalize slB 18 ToldS.cs told 5 = b10 at *
    generalize slN told = b11 at *
    refine ev49 rfl fun o => ?_
    (cbv; repeat' (first | (refine ⟨by simp only [Ops.need_eq, needs]; first | rfl | decide, ?_⟩; try cbv) | (refine mt (fun h => ?_) (fun h => ?_) <;> first | (exfalso; simp [Ops.cmp_eq, Ops.not_eq, icmp] at h; done) | (exfalso; simp [Ops.cmp_eq, icmp] at h; omega) | (try cbv))))
    exact hQ _ _ (ReV.pre hcl (fun _ => rfl) ⟨rfl, rfl⟩)
  · rw [if_neg ha] at hR
    cases told with
    | nil =>
      obtain rfl : 0 = R := by rw [← hR]; simp
      simp only [slV, slB, slN] at *
      refine ev49 rfl fun o => ?_
      (cbv; repeat' (first | (refine ⟨by simp only [Ops.need_eq, needs]; first | rfl | decide, ?_⟩; try cbv) | (refine mt (fun h => ?_) (fun h => ?_) <;> first | (exfalso; simp [Ops.cmp_eq, Ops.not_eq, icmp] at h; done) | (exfalso; simp [Ops.cmp_eq, icmp] at h; omega) | (try cbv))))
      all_goals exact hQ _ _ (ReV.pre hcl (fun _ => rfl) ⟨rfl, rfl⟩)
    | cons t0 ts =>
      rw [show slV 18 (t0 :: ts) 4 5 = .sl 4 18 0 (t0 :: ts).length (.v 5) from rfl, show slB 18 ToldS.cs (t0 :: ts) 5 = .arr 18 ((t0 :: ts).map ToldS.cs) (.v 5) from rfl, show slN (t0 :: ts) = VB.num from rfl] at *
      generalize hxs : (t0 :: ts).map ToldS.cs = xs at *
      generalize hn : (t0 :: ts).length = n at *
      by_cases hb : a < n
      · have hlt : a.toNat < (t0 :: ts).length := by omega
        rw [List.getElem?_eq_getElem hlt] at hR
        simp only at hR
        have hget : xs[a.toNat]? = some ((t0 :: ts)[a.toNat]).cs := by rw [← hxs, List.getElem?_map, List.getElem?_eq_getElem hlt]; rfl
        generalize (t0 :: ts)[a.toNat] = t at *
        obtain ⟨t1, t2, ⟨c1, c2, c3, c4, c5, c6, c7, c8, c9⟩, t3, ⟨d1, d2, d3, d4⟩, t4, t5⟩ := t
        simp only [ToldS.cs] at hget
        simp only at hR
        subst hR
        refine ev49 rfl fun o => ?_
        (cbv; repeat' (first | (refine ⟨by simp only [Ops.need_eq, needs]; first | rfl | decide, ?_⟩; try cbv) | (refine mt (fun h => ?_) (fun h => ?_) <;> first | (exfalso; simp [Ops.cmp_eq, Ops.not_eq, icmp] at h; done) | (exfalso; simp [Ops.cmp_eq, icmp] at h; omega) | (try cbv))))
        refine ⟨by simp only [Ops.inb_eq]; exact decide_eq_true ⟨by first | exact (by omega) | (simp only [Int.ofNat_eq_natCast]; exact (by omega)), by first | exact (hb) | (simp only [Int.ofNat_eq_natCast]; exact (hb))⟩, ?_⟩
        simp only [Int.toNat_natCast, Int.ofNat_eq_natCast, Ops.get_eq, Ops.nadd_eq, Ops.nat_eq, Nat.zero_add, hget]
        (cbv; repeat' (first | (refine ⟨by simp only [Ops.need_eq, needs]; first | rfl | decide, ?_⟩; try cbv) | (refine mt (fun h => ?_) (fun h => ?_) <;> first | (exfalso; simp [Ops.cmp_eq, Ops.not_eq, icmp] at h; done) | (exfalso; simp [Ops.cmp_eq, icmp] at h; omega) | (try cbv))))
        exact hQ _ _ (ReV.pre hcl (fun _ => rfl) ⟨rfl, rfl⟩)
      · have hR0 : 0 = R := by rw [← hR, List.getElem?_eq_none (by omega)]
        subst hR0
        refine ev49 rfl fun o => ?_
        (cbv; repeat' (first | (refine ⟨by simp only [Ops.need_eq, needs]; first | rfl | decide, ?_⟩; try cbv) | (refine mt (fun h => ?_) (fun h => ?_) <;> first | (exfalso; simp [Ops.cmp_eq, Ops.not_eq, icmp] at h; done) | (exfalso; simp [Ops.cmp_eq, icmp] at h; omega) | (try cbv))))
        · exact hQ _ _ (ReV.pre hcl (fun _ => rfl) ⟨rfl, rfl⟩)
        · exfalso
          (try simp only [cfix] at *); (try simp only [Int.ofNat_eq_natCast] at *)
          simp [Ops.cmp_eq, icmp] at h
          omega
theorem made_ev {W0 : World} (s : WorkerS) (hs : Option (List Nat)) (a : Int) : Ev Tryz.prog W0 49 [.ptr 0 0, .int .i64 a] [bx W0 (workU W0 s hs)] (fun v V' => v = .int .u64 (madeAt a s.told : Nat) ∧ V' = [bx W0 (workU W0 s hs)]) :=
  Ev.box0 (U := workU W0 s hs) (madeO_ev s hs a) (by simp [workU]) rfl (fun _ => rfl)
end Go.Proofs.YtglghdjpkecngaaGreat

/- worker: ended, idle, told. -/
namespace Go.Proofs.YtglghdjpkecngaaGreat
set_option linter.unusedVariables false
set_option linter.unusedSimpArgs false
open Go Go.SL Go.FL
set_option maxRecDepth 100000
theorem fit_pre {U rest : List VB} (hcl : ∀ ρ : Nat → Nat, (∀ i, i < U.length → ρ i = i) → U.map (rnB ρ) = U) : fitB (rho (countUp U.length 0) (U ++ rest).length) (U ++ rest) (countUp U.length 0) U := by
  have hρ : ∀ i, i < U.length → rho (countUp U.length 0) (U ++ rest).length i = i := by
    intro i hi
    unfold rho
    rw [countUp_get _ _ _ hi]; simp
  have hm := hcl _ hρ
  generalize rho (countUp U.length 0) (U ++ rest).length = ρ at *
  have key : ∀ (A : List VB) (k : Nat) (B : List VB), B.map (rnB ρ) = B → (∀ i, i < B.length → lget A (k + i) = lget B i) → fitB ρ A (countUp B.length k) B := by
    intro A k B
    induction B generalizing k with
    | nil => intro _ _; trivial
    | cons b B ih =>
      intro h1 h2
      simp only [List.map_cons, List.cons.injEq] at h1
      refine ⟨.inr ?_, ih (k + 1) h1.2 fun i hi => ?_⟩
      · have := h2 0 (by simp)
        rw [Nat.add_zero] at this
        rw [this, h1.1]; rfl
      · have := h2 (i + 1) (by simp; omega)
        rw [show k + 1 + i = k + (i + 1) by omega, this]; rfl
  refine key _ _ _ hm fun i hi => ?_
  rw [Nat.zero_add, lget_eq, lget_eq, List.getElem?_append_left hi]
theorem ReV.shutPre {W0 : World} {n n0 : Nat} {Q : VV → List VB → Prop} {v : VV} {U rest : List VB} (hn : U.length = n + 1) (hb : isBlk (lget (U ++ rest) 0) = true) (hcl : ∀ ρ : Nat → Nat, (∀ i, i < U.length → ρ i = i) → U.map (rnB ρ) = U)
    (hr : ReV W0 n0 Q v (emps (lset (U ++ rest) 0 (bx W0 U)) (countUp n 1))) : ReV W0 n0 Q v (U ++ rest) := by
  have h1 : countUp U.length 0 = 0 :: countUp n 1 := by rw [hn]; rfl
  refine ReV.shut 0 (countUp n 1) U ?_ hb ?_ hr
  · rw [← h1]; exact countUp_nodup _ _
  · rw [← h1]; exact fit_pre hcl
theorem cloneC_ev {W0 : World} (xs : List (List VV)) (n : Nat) (tot c1 : Cap) (B : VB) (hB : ∀ ρ, rnB ρ B = B) (hT : ∀ ρ : Nat → Nat, ρ 1 = 1 → tot.rn ρ = tot) (hn : xs.length = n) (hx : ∀ ρ, xs.map (rnL ρ) = xs) (hn1 : n ≤ 1000) (ho : xs.all allOne = true) :
    Ev Tryz.prog W0 81 [.sl 0 9 0 n c1] [.arr 9 xs tot, B] (fun v V' => v = .sl 2 9 0 n (.v 3) ∧ V' = [.arr 9 xs tot, B, .arr 9 xs (.v 3), .num]) := by
  refine Ev.out fun Q' hQ => ev81 rfl fun o => ?_
  have hr : ∀ (ρ : Nat → Nat) c, rnB ρ (.arr 9 xs c) = .arr 9 xs (c.rn ρ) := by intro ρ c; simp only [rnB, hx]
  have hts : (xs.drop 0).take n = xs := by rw [List.drop_zero, ← hn, List.take_length]
  (cbv; repeat' (first | (refine ⟨by simp only [Ops.need_eq, needs]; first | rfl | decide, ?_⟩; try cbv) | (refine mt (fun h => ?_) (fun h => ?_) <;> first | (exfalso; simp [Ops.cmp_eq, Ops.not_eq, icmp] at h; done) | (exfalso; simp [Ops.cmp_eq, icmp] at h; omega) | (try cbv))))
  refine ⟨by simp only [o.ll_eq, o.sub_eq, hts, hn], by simp only [o.all1_eq, o.sub_eq, hts, ho], ⟨by simp [o.ll_eq], by simp [o.nmul_eq], by simp [o.nle_eq, o.nmul_eq, o.nadd_eq]; omega⟩, .inr fun _ => ?_⟩
  simp only [o.cat_eq, o.sub_eq, o.nadd_eq, o.nmul_eq, hts, List.nil_append, Nat.zero_add]
  (cbv; repeat' (first | (refine ⟨by simp only [Ops.need_eq, needs]; first | rfl | decide, ?_⟩; try cbv) | (refine mt (fun h => ?_) (fun h => ?_) <;> first | (exfalso; simp [Ops.cmp_eq, Ops.not_eq, icmp] at h; done) | (exfalso; simp [Ops.cmp_eq, icmp] at h; omega) | (try cbv))))
  refine hQ _ _ (ReV.ren [0, 1, 4, 3] (.sl 2 9 0 n (.v 3)) [.arr 9 xs tot, B, .arr 9 xs (.v 3), .num] rfl rfl rfl ⟨.inr (by rw [hr, hT _ rfl]; rfl), .inr (by rw [hB]; rfl), .inr (by rw [hr]; rfl), .inr rfl, trivial⟩ ⟨rfl, rfl⟩)
theorem cloneT_ev {W0 : World} (xs : List (List VV)) (n : Nat) (hn : xs.length = n) (hx : ∀ ρ, xs.map (rnL ρ) = xs) (hn1 : n ≤ 1000) (ho : xs.all allOne = true) :
    Ev Tryz.prog W0 84 [.sl 0 18 0 n (.v 1)] [.arr 18 xs (.v 1), .num] (fun v V' => v = .sl 2 18 0 n (.v 3) ∧ V' = [.arr 18 xs (.v 1), .num, .arr 18 xs (.v 3), .num]) := by
  refine Ev.out fun Q' hQ => ev84 rfl fun o => ?_
  have hr : ∀ (ρ : Nat → Nat) c, rnB ρ (.arr 18 xs c) = .arr 18 xs (c.rn ρ) := by intro ρ c; simp only [rnB, hx]
  have hts : (xs.drop 0).take n = xs := by rw [List.drop_zero, ← hn, List.take_length]
  (cbv; repeat' (first | (refine ⟨by simp only [Ops.need_eq, needs]; first | rfl | decide, ?_⟩; try cbv) | (refine mt (fun h => ?_) (fun h => ?_) <;> first | (exfalso; simp [Ops.cmp_eq, Ops.not_eq, icmp] at h; done) | (exfalso; simp [Ops.cmp_eq, icmp] at h; omega) | (try cbv))))
  refine ⟨by simp only [o.ll_eq, o.sub_eq, hts, hn], by simp only [o.all1_eq, o.sub_eq, hts, ho], ⟨by simp [o.ll_eq], by simp [o.nmul_eq], by simp [o.nle_eq, o.nmul_eq, o.nadd_eq]; omega⟩, .inr fun _ => ?_⟩
  simp only [o.cat_eq, o.sub_eq, o.nadd_eq, o.nmul_eq, hts, List.nil_append, Nat.zero_add]
  (cbv; repeat' (first | (refine ⟨by simp only [Ops.need_eq, needs]; first | rfl | decide, ?_⟩; try cbv) | (refine mt (fun h => ?_) (fun h => ?_) <;> first | (exfalso; simp [Ops.cmp_eq, Ops.not_eq, icmp] at h; done) | (exfalso; simp [Ops.cmp_eq, icmp] at h; omega) | (try cbv))))
  refine hQ _ _ (ReV.ren [0, 1, 4, 3] (.sl 2 18 0 n (.v 3)) [.arr 18 xs (.v 1), .num, .arr 18 xs (.v 3), .num] rfl rfl rfl ⟨.inr (by rw [hr]; rfl), .inr rfl, .inr (by rw [hr]; rfl), .inr rfl, trivial⟩ ⟨rfl, rfl⟩)
theorem cloneT0_ev {W0 : World} : Ev Tryz.prog W0 84 [.nilSl] [] (fun v V' => v = .nilSl ∧ V' = []) := by
  refine Ev.out fun Q' hQ => ev84 rfl fun o => ?_
  (cbv; repeat' (first | (refine ⟨by simp only [Ops.need_eq, needs]; first | rfl | decide, ?_⟩; try cbv) | (refine mt (fun h => ?_) (fun h => ?_) <;> first | (exfalso; simp [Ops.cmp_eq, Ops.not_eq, icmp] at h; done) | (exfalso; simp [Ops.cmp_eq, icmp] at h; omega) | (try cbv))))
  exact hQ _ _ (ReV.none rfl ⟨rfl, rfl⟩)
theorem cloneC0_ev {W0 : World} : Ev Tryz.prog W0 81 [.nilSl] [] (fun v V' => v = .nilSl ∧ V' = []) := by
  refine Ev.out fun Q' hQ => ev81 rfl fun o => ?_
  (cbv; repeat' (first | (refine ⟨by simp only [Ops.need_eq, needs]; first | rfl | decide, ?_⟩; try cbv) | (refine mt (fun h => ?_) (fun h => ?_) <;> first | (exfalso; simp [Ops.cmp_eq, Ops.not_eq, icmp] at h; done) | (exfalso; simp [Ops.cmp_eq, icmp] at h; omega) | (try cbv))))
  exact hQ _ _ (ReV.none rfl ⟨rfl, rfl⟩)
theorem qLen_ev {W0 : World} (l : List Int) : Ev Tryz.prog W0 82 [.ptr 0 0] [bx W0 (queueU l)] (fun v V' => v = .int .i64 l.length ∧ V' = [bx W0 (queueU l)]) :=
  Ev.box0 (U := queueU l) (Len_ev 64 l 64) (by simp [queueU]) rfl (fun _ => rfl)
theorem qPop_ev {W0 : World} (l : List Int) : Ev Tryz.prog W0 108 [.ptr 0 0] [bx W0 (queueU l)] (fun v V' => v = .tup [.int .i64 (l.headD 0), .bool (!l.isEmpty)] ∧ V' = [bx W0 (queueU l.tail)]) :=
  Ev.box0 (U := queueU l) (U' := queueU l.tail) (Pop_ev 64 l 64) (by simp [queueU]) rfl (fun _ => rfl)
theorem qPush_ev {W0 : World} (l : List Int) (n : Int) (h : l.length < 64) : Ev Tryz.prog W0 80 [.ptr 0 0, .int .i64 n] [bx W0 (queueU l)] (fun v V' => v = .int .i64 0 ∧ V' = [bx W0 (queueU (l ++ [n]))]) :=
  Ev.box0 (U := queueU l) (U' := queueU (l ++ [n])) (PushOk_ev 64 l 64 n h) (by simp [queueU]) rfl (fun _ => rfl)
theorem endedO_ev {W0 : World} (s : WorkerS) (hs : Option (List Nat)) : Ev Tryz.prog W0 50 [.ptr 0 0] (workU W0 s hs) (fun v V' => v = .bool s.ended ∧ V' = workU W0 s hs) := by
  have hcl := workU_cl W0 s hs
  refine Ev.out fun Q' hQ => ?_
  generalize hR : s.ended = R at hQ
  have hU : workU W0 s hs = [workC s (slV 9 s.l 1 2) (.ptr 3 0) (optP 7 hs) (wkV 6 s.work) (slV 18 s.told 4 5), slB 9 CallS.cs s.l 2, slN s.l, bx W0 (queueU s.q), slB 18 ToldS.cs s.told 5, slN s.told, wkB W0 s.work, optB W0 shelfU hs] := rfl
  rw [hU] at hQ hcl ⊢
  obtain ⟨me, l, q, at_, h, work, began, told⟩ := s
  simp only [workC, WorkerS.ended] at *
  have hL := qLen_ev (W0 := W0) q
  generalize slV 9 l 1 2 = b1 at *
  generalize slB 9 CallS.cs l 2 = b2 at *
  generalize slN l = b3 at *
  generalize hq4 : bx W0 (queueU q) = b4 at *
  generalize wkB W0 work = b5 at *
  generalize optB W0 shelfU hs = b6 at *
  generalize optP 7 hs = b7 at *
  generalize slV 18 told 4 5 = b9 at *
  generalize slB 18 ToldS.cs told 5 = b10 at *
  generalize slN told = b11 at *
  have hqe : q.isEmpty = decide (q.length = 0) := by cases q <;> rfl
  rw [hqe] at hR
  generalize q.length = n at *
  rcases work with _ | (_ | _)
  · simp only [wkV, Option.isNone_none, Bool.true_and] at *
    refine ev50 rfl fun o => ?_
    (cbv; repeat' (first | (refine ⟨by simp only [Ops.need_eq, needs]; first | rfl | decide, ?_⟩; try cbv) | (refine mt (fun h => ?_) (fun h => ?_) <;> first | (exfalso; simp [Ops.cmp_eq, Ops.not_eq, icmp] at h; done) | (exfalso; simp [Ops.cmp_eq, icmp] at h; omega) | (try cbv))))
    refine Ops.call _ [3] hL rfl rfl rfl ⟨.inr (by rw [← hq4]; rfl), trivial⟩ ?_
    rintro v V' ⟨rfl, rfl⟩
    simp only [layB, lset, lapp, List.map_nil, List.map_cons, ← hq4, rnB_bx, rn, rnL]
    rw [hq4]
    (cbv; repeat' (first | (refine ⟨by simp only [Ops.need_eq, needs]; first | rfl | decide, ?_⟩; try cbv) | (refine mt (fun h => ?_) (fun h => ?_) <;> first | (exfalso; simp [Ops.cmp_eq, Ops.not_eq, icmp] at h; done) | (exfalso; simp [Ops.cmp_eq, icmp] at h; omega) | (try cbv))))
    refine hQ _ _ (ReV.pre hcl (fun _ => rfl) ⟨?_, rfl⟩)
    rw [← hR]
    simp only [Ops.cmp_eq, icmp]
    exact congrArg VV.bool (by rw [Bool.eq_iff_iff]; simp)
  all_goals
    simp only [wkV, Option.isNone_some, Bool.false_and] at *
    subst hR
    refine ev50 rfl fun o => ?_
    (cbv; repeat' (first | (refine ⟨by simp only [Ops.need_eq, needs]; first | rfl | decide, ?_⟩; try cbv) | (refine mt (fun h => ?_) (fun h => ?_) <;> first | (exfalso; simp [Ops.cmp_eq, Ops.not_eq, icmp] at h; done) | (exfalso; simp [Ops.cmp_eq, icmp] at h; omega) | (try cbv))))
    exact hQ _ _ (ReV.pre hcl (fun _ => rfl) ⟨rfl, rfl⟩)
theorem ended_ev {W0 : World} (s : WorkerS) (hs : Option (List Nat)) : Ev Tryz.prog W0 50 [.ptr 0 0] [bx W0 (workU W0 s hs)] (fun v V' => v = .bool s.ended ∧ V' = [bx W0 (workU W0 s hs)]) :=
  Ev.box0 (U := workU W0 s hs) (endedO_ev s hs) (by simp [workU]) rfl (fun _ => rfl)
theorem idleO_ev {W0 : World} (s : WorkerS) (hs : Option (List Nat)) : Ev Tryz.prog W0 55 [.ptr 0 0] (workU W0 s hs) (fun v V' => v = .bool s.work.isNone ∧ V' = workU W0 s hs) := by
  have hcl := workU_cl W0 s hs
  refine Ev.out fun Q' hQ => ?_
  have hU : workU W0 s hs = [workC s (slV 9 s.l 1 2) (.ptr 3 0) (optP 7 hs) (wkV 6 s.work) (slV 18 s.told 4 5), slB 9 CallS.cs s.l 2, slN s.l, bx W0 (queueU s.q), slB 18 ToldS.cs s.told 5, slN s.told, wkB W0 s.work, optB W0 shelfU hs] := rfl
  rw [hU] at hQ hcl ⊢
  obtain ⟨me, l, q, at_, h, work, began, told⟩ := s
  simp only [workC] at *
  generalize slV 9 l 1 2 = b1 at *
  generalize slB 9 CallS.cs l 2 = b2 at *
  generalize slN l = b3 at *
  generalize hq4 : bx W0 (queueU q) = b4 at *
  generalize wkB W0 work = b5 at *
  generalize optB W0 shelfU hs = b6 at *
  generalize optP 7 hs = b7 at *
  generalize slV 18 told 4 5 = b9 at *
  generalize slB 18 ToldS.cs told 5 = b10 at *
  generalize slN told = b11 at *
  rcases work with _ | (_ | _)
  all_goals
    simp only [wkV, Option.isNone_none, Option.isNone_some] at *
    refine ev55 rfl fun o => ?_
    (cbv; repeat' (first | (refine ⟨by simp only [Ops.need_eq, needs]; first | rfl | decide, ?_⟩; try cbv) | (refine mt (fun h => ?_) (fun h => ?_) <;> first | (exfalso; simp [Ops.cmp_eq, Ops.not_eq, icmp] at h; done) | (exfalso; simp [Ops.cmp_eq, icmp] at h; omega) | (try cbv))))
    exact hQ _ _ (ReV.pre hcl (fun _ => rfl) ⟨rfl, rfl⟩)
theorem idle_ev {W0 : World} (s : WorkerS) (hs : Option (List Nat)) : Ev Tryz.prog W0 55 [.ptr 0 0] [bx W0 (workU W0 s hs)] (fun v V' => v = .bool s.work.isNone ∧ V' = [bx W0 (workU W0 s hs)]) :=
  Ev.box0 (U := workU W0 s hs) (idleO_ev s hs) (by simp [workU]) rfl (fun _ => rfl)
theorem told_ev {W0 : World} (s : WorkerS) (hs : Option (List Nat)) (hn : s.told.length ≤ 1000) : Ev Tryz.prog W0 52 [.ptr 0 0] [bx W0 (workU W0 s hs)]
    (fun v V' => v = slV 18 s.told 1 2 ∧ V' = match s.told with | [] => [bx W0 (workU W0 s hs)] | _ => [bx W0 (workU W0 s hs), slB 18 ToldS.cs s.told 2, slN s.told]) := by
  have hU : workU W0 s hs = [workC s (slV 9 s.l 1 2) (.ptr 3 0) (optP 7 hs) (wkV 6 s.work) (slV 18 s.told 4 5), slB 9 CallS.cs s.l 2, slN s.l, bx W0 (queueU s.q), slB 18 ToldS.cs s.told 5, slN s.told, wkB W0 s.work, optB W0 shelfU hs] := rfl
  have hcl := workU_cl W0 s hs
  refine Ev.outB 0 (U := workU W0 s hs) rfl fun Q' hQ => ?_
  rw [layB_box0 (workU W0 s hs) (by simp [workU])]
  obtain ⟨me, l, q, at_, h, work, began, told⟩ := s
  have hX : ∀ ρ, (told.map ToldS.cs).map (rnL ρ) = told.map ToldS.cs := fun ρ => by simp [ToldS.rn_cs]
  have hx1 : (told.map ToldS.cs).all allOne = true := by simp [ToldS.cs, allOne, VV.one]
  simp only [workC] at *
  generalize hUU : workU W0 _ hs = UU at *
  rw [hU]
  generalize slV 9 l 1 2 = b1 at *
  generalize slB 9 CallS.cs l 2 = b2 at *
  generalize slN l = b3 at *
  generalize bx W0 (queueU q) = b4 at *
  generalize wkB W0 work = b5 at *
  generalize optB W0 shelfU hs = b6 at *
  generalize optP 7 hs = b7 at *
  generalize wkV 6 work = b8 at *
  cases told with
  | nil =>
    simp only [slV, slB, slN] at *
    refine ev52 rfl fun o => ?_
    (cbv; repeat' (first | (refine ⟨by simp only [Ops.need_eq, needs]; first | rfl | decide, ?_⟩; try cbv) | (refine mt (fun h => ?_) (fun h => ?_) <;> first | (exfalso; simp [Ops.cmp_eq, Ops.not_eq, icmp] at h; done) | (exfalso; simp [Ops.cmp_eq, icmp] at h; omega) | (try cbv))))
    refine Ops.call0 _ (cloneT0_ev) rfl ?_; rintro v V' ⟨rfl, rfl⟩; simp only [lapp, List.map_nil, rn, rnL]
    (cbv; repeat' (first | (refine ⟨by simp only [Ops.need_eq, needs]; first | rfl | decide, ?_⟩; try cbv) | (refine mt (fun h => ?_) (fun h => ?_) <;> first | (exfalso; simp [Ops.cmp_eq, Ops.not_eq, icmp] at h; done) | (exfalso; simp [Ops.cmp_eq, icmp] at h; omega) | (try cbv))))
    have key := ReV.shutPre (W0 := W0) (n := 7) (n0 := 1) (U := UU) (rest := []) (v := .nilSl) (Q := fun v V' => v = VV.nilSl ∧ V' = [bx W0 UU]) (by rw [hU]; rfl) (by rw [hU]; rfl) hcl
      (by rw [hU]; exact ReV.ren [0] .nilSl [bx W0 _] rfl rfl rfl ⟨.inr rfl, trivial⟩ ⟨rfl, rfl⟩)
    generalize hB : bx W0 UU = B at *
    rw [List.append_nil, hU] at key
    exact hQ _ _ key
  | cons t0 ts =>
    rw [show slV 18 (t0 :: ts) 4 5 = .sl 4 18 0 (t0 :: ts).length (.v 5) from rfl, show slV 18 (t0 :: ts) 1 2 = .sl 1 18 0 (t0 :: ts).length (.v 2) from rfl, show slB 18 ToldS.cs (t0 :: ts) 5 = .arr 18 ((t0 :: ts).map ToldS.cs) (.v 5) from rfl, show slB 18 ToldS.cs (t0 :: ts) 2 = .arr 18 ((t0 :: ts).map ToldS.cs) (.v 2) from rfl, show slN (t0 :: ts) = VB.num from rfl] at *
    have hl : ((t0 :: ts).map ToldS.cs).length = (t0 :: ts).length := by simp
    generalize (t0 :: ts).map ToldS.cs = xs at *
    simp only at hn hQ
    generalize (t0 :: ts).length = n at *
    have hr : ∀ (ρ : Nat → Nat) c, rnB ρ (.arr 18 xs c) = .arr 18 xs (c.rn ρ) := by intro ρ c; simp only [rnB, hX]
    refine ev52 rfl fun o => ?_
    (cbv; repeat' (first | (refine ⟨by simp only [Ops.need_eq, needs]; first | rfl | decide, ?_⟩; try cbv) | (refine mt (fun h => ?_) (fun h => ?_) <;> first | (exfalso; simp [Ops.cmp_eq, Ops.not_eq, icmp] at h; done) | (exfalso; simp [Ops.cmp_eq, icmp] at h; omega) | (try cbv))))
    refine Ops.call _ [4, 5] (cloneT_ev xs n hl hX hn hx1) rfl rfl rfl ⟨.inr (by rw [hr]; rfl), .inr rfl, trivial⟩ ?_
    rintro v V' ⟨rfl, rfl⟩
    simp only [layB, lset, lapp, List.map_nil, List.map_cons, hr]
    (cbv; repeat' (first | (refine ⟨by simp only [Ops.need_eq, needs]; first | rfl | decide, ?_⟩; try cbv) | (refine mt (fun h => ?_) (fun h => ?_) <;> first | (exfalso; simp [Ops.cmp_eq, Ops.not_eq, icmp] at h; done) | (exfalso; simp [Ops.cmp_eq, icmp] at h; omega) | (try cbv))))
    have key := ReV.shutPre (W0 := W0) (n := 7) (n0 := 1) (U := UU) (rest := [.arr 18 xs (.v 9), .num]) (v := .sl 8 18 0 n (.v 9)) (Q := fun v V' => v = .sl 1 18 0 n (.v 2) ∧ V' = [bx W0 UU, .arr 18 xs (.v 2), .num]) (by rw [hU]; rfl) (by rw [hU]; rfl) hcl
      (by rw [hU]; exact ReV.ren [0, 8, 9] (.sl 1 18 0 n (.v 2)) [bx W0 _, .arr 18 xs (.v 2), .num] rfl rfl rfl ⟨.inr rfl, .inr (by rw [hr]; rfl), .inr rfl, trivial⟩ ⟨rfl, rfl⟩)
    generalize hB : bx W0 UU = B at *
    rw [hU] at key
    exact hQ _ _ key
end Go.Proofs.YtglghdjpkecngaaGreat

/- worker: the next call begins. -/
namespace Go.Proofs.YtglghdjpkecngaaGreat
set_option linter.unusedVariables false
set_option linter.unusedSimpArgs false
open Go Go.SL Go.FL
set_option maxRecDepth 100000
theorem rnB_emp (ρ : Nat → Nat) : rnB ρ .emp = .emp := rfl
theorem rn_ptr (ρ : Nat → Nat) (i o : Nat) : rn ρ (.ptr i o) = .ptr (ρ i) o := rfl
theorem rn_u64 (ρ : Nat → Nat) (i : Int) : rn ρ (.int .u64 i) = .int .u64 i := rfl
theorem fitW {W0 : World} {s : WorkerS} {hs : Option (List Nat)} {M C : VB} {ρ : Nat → Nat} {V : List VB} {p0 p1 p2 p3 p4 p5 p6 p7 p8 p9 : Nat}
    (e0 : lget V p0 = some (workC s (slV 9 s.l (ρ 1) (ρ 2)) (.ptr (ρ 3) 0) (optP (ρ 7) hs) (wkV (ρ 6) s.work) (slV 18 s.told (ρ 4) (ρ 5)))) (e1 : lget V p1 = some (slB 9 CallS.cs s.l (ρ 2))) (e2 : lget V p2 = some (slN s.l))
    (e3 : lget V p3 = some (bx W0 (queueU s.q))) (e4 : lget V p4 = some (slB 18 ToldS.cs s.told (ρ 5))) (e5 : lget V p5 = some (slN s.told)) (e6 : wkB W0 s.work = .emp ∨ lget V p6 = some (wkB W0 s.work)) (e7 : lget V p7 = some (optB W0 shelfU hs))
    (e8 : lget V p8 = some (rnB ρ M)) (e9 : C = .emp ∨ lget V p9 = some (rnB ρ C)) : fitB ρ V [p0, p1, p2, p3, p4, p5, p6, p7, p8, p9] (workU W0 s hs ++ [M, C]) := by
  refine ⟨.inr ?_, .inr ?_, .inr ?_, .inr ?_, .inr ?_, .inr ?_, ?_, .inr ?_, .inr e8, e9, trivial⟩
  · rw [workC_rn, slV_rn, slV_rn, wkV_rn, rn_optP, e0]; rfl
  · rw [slB_rn _ _ CallS.rn_cs, e1]
  · rw [slN_rn, e2]
  · rw [rnB_bx, e3]
  · rw [slB_rn _ _ ToldS.rn_cs, e4]
  · rw [slN_rn, e5]
  · rcases e6 with e6 | e6
    · exact .inl e6
    · exact .inr (by rw [wkB_rn, e6])
  · rw [rnB_optB, e7]
def workX (W0 : World) (s : WorkerS) (hs : Option (List Nat)) (M C : VB) : List VB :=
  [workC s (slV 9 s.l 1 2) (.ptr 3 0) (optP 7 hs) (wkV 10 s.work) (slV 18 s.told 4 5), slB 9 CallS.cs s.l 2, slN s.l, bx W0 (queueU s.q), slB 18 ToldS.cs s.told 5, slN s.told, .emp, optB W0 shelfU hs, M, C, wkB W0 s.work]
theorem fitX {W0 : World} {s : WorkerS} {hs : Option (List Nat)} {M C : VB} {ρ : Nat → Nat} {V : List VB} {p0 p1 p2 p3 p4 p5 p6 p7 p8 p9 p10 : Nat}
    (e0 : lget V p0 = some (workC s (slV 9 s.l (ρ 1) (ρ 2)) (.ptr (ρ 3) 0) (optP (ρ 7) hs) (wkV (ρ 10) s.work) (slV 18 s.told (ρ 4) (ρ 5)))) (e1 : lget V p1 = some (slB 9 CallS.cs s.l (ρ 2))) (e2 : lget V p2 = some (slN s.l))
    (e3 : lget V p3 = some (bx W0 (queueU s.q))) (e4 : lget V p4 = some (slB 18 ToldS.cs s.told (ρ 5))) (e5 : lget V p5 = some (slN s.told)) (e7 : lget V p7 = some (optB W0 shelfU hs))
    (e8 : lget V p8 = some (rnB ρ M)) (e9 : lget V p9 = some (rnB ρ C)) (e10 : lget V p10 = some (wkB W0 s.work)) : fitB ρ V [p0, p1, p2, p3, p4, p5, p6, p7, p8, p9, p10] (workX W0 s hs M C) := by
  refine ⟨.inr ?_, .inr ?_, .inr ?_, .inr ?_, .inr ?_, .inr ?_, .inl rfl, .inr ?_, .inr e8, .inr e9, .inr ?_, trivial⟩
  · rw [workC_rn, slV_rn, slV_rn, wkV_rn, rn_optP, e0]; rfl
  · rw [slB_rn _ _ CallS.rn_cs, e1]
  · rw [slN_rn, e2]
  · rw [rnB_bx, e3]
  · rw [slB_rn _ _ ToldS.rn_cs, e4]
  · rw [slN_rn, e5]
  · rw [rnB_optB, e7]
  · rw [wkB_rn, e10]
def refV (c : CallS) : VV := .agg [.int .i64 c.who, .int .i64 c.at_, .int .u64 c.raw]
def MadeOk (W0 : World) (F : FuncId) (cap : List VV) (C : VB) (hs : Option (List Nat)) (f : MadeF) : Prop :=
  ∀ (s : WorkerS) (M : VB) (c : CallS), (∀ ρ, rnB ρ M = M) → Ev Tryz.prog W0 F (refV c :: cap) (workU W0 s hs ++ [M, C]) (fun v V' => v = .int .u64 (f c s.told : Nat) ∧ V' = workU W0 s hs ++ [M, C])
theorem begin0_ev {W0 : World} (s : WorkerS) (hs : Option (List Nat)) (e : EnvS) (fn : VV) (M C : VB) (hM : ∀ ρ, rnB ρ M = M) (hC : ∀ ρ : Nat → Nat, ρ 0 = 0 → rnB ρ C = C) (hq : s.q = []) :
    Ev Tryz.prog W0 83 [.ptr 0 0, e.v 8, fn] (workU W0 s hs ++ [M, C]) (fun v V' => v = .bool false ∧ V' = workU W0 s hs ++ [M, C]) := by
  have hcl : ∀ ρ : Nat → Nat, (∀ i, i < (workU W0 s hs ++ [M, C]).length → ρ i = i) → (workU W0 s hs ++ [M, C]).map (rnB ρ) = workU W0 s hs ++ [M, C] := by
    intro ρ h
    rw [List.map_append, workU_cl W0 s hs ρ fun i hi => h i (by simp [workU] at hi ⊢; omega)]
    simp only [List.map_cons, List.map_nil, hM, hC ρ (h 0 (by simp [workU]))]
  have hE : e.v 8 = .agg [.int .i64 e.c.threads, .int .i64 e.c.slots, .int .i64 e.c.chunks, .int .i64 e.c.words, .int .i64 e.c.gens, .int .i64 e.c.sparse, .int .i64 e.c.tries, .ptr 8 0, .int .i64 e.who] := rfl
  have hPop := qPop_ev (W0 := W0) []
  simp only [List.headD_nil, List.isEmpty_nil, Bool.not_true, List.tail_nil] at hPop
  refine Ev.out fun Q' hQ => ?_
  obtain ⟨me, l, q0, at_, h, work, began, told⟩ := s
  obtain rfl : q0 = [] := hq
  have hU : workU W0 ⟨me, l, [], at_, h, work, began, told⟩ hs ++ [M, C] = [.cells [.int .i64 me, slV 9 l 1 2, .ptr 3 0, optP 7 hs, .int .i64 at_, .int .u64 h, wkV 6 work, .int .i64 began, slV 18 told 4 5],
      slB 9 CallS.cs l 2, slN l, bx W0 (queueU []), slB 18 ToldS.cs told 5, slN told, wkB W0 work, optB W0 shelfU hs, M, C] := rfl
  rw [hU] at hcl hQ ⊢
  rw [hE]
  generalize slV 9 l 1 2 = b1 at *
  generalize slB 9 CallS.cs l 2 = b2 at *
  generalize slN l = b3 at *
  generalize hq4 : bx W0 (queueU []) = b4 at *
  generalize wkB W0 work = b5 at *
  generalize optB W0 shelfU hs = b6 at *
  generalize optP 7 hs = b7 at *
  generalize wkV 6 work = b8 at *
  generalize slV 18 told 4 5 = b9 at *
  generalize slB 18 ToldS.cs told 5 = b10 at *
  generalize slN told = b11 at *
  refine ev83 rfl fun o => ?_
  (cbv; repeat' (first | (refine ⟨by simp only [Ops.need_eq, needs]; first | rfl | decide, ?_⟩; try cbv) | (refine mt (fun h => ?_) (fun h => ?_) <;> first | (exfalso; simp [Ops.cmp_eq, Ops.not_eq, icmp] at h; done) | (exfalso; simp [Ops.cmp_eq, icmp] at h; omega) | (try cbv))))
  refine Ops.call _ [3] hPop rfl rfl rfl ⟨.inr (by rw [← hq4]; rfl), trivial⟩ ?_
  rintro v V' ⟨rfl, rfl⟩
  simp only [layB, lset, lapp, List.map_nil, List.map_cons, ← hq4, rnB_bx, rn, rnL]
  rw [hq4]
  (cbv; repeat' (first | (refine ⟨by simp only [Ops.need_eq, needs]; first | rfl | decide, ?_⟩; try cbv) | (refine mt (fun h => ?_) (fun h => ?_) <;> first | (exfalso; simp [Ops.cmp_eq, Ops.not_eq, icmp] at h; done) | (exfalso; simp [Ops.cmp_eq, icmp] at h; omega) | (try cbv))))
  exact hQ _ _ (ReV.pre hcl (fun _ => rfl) ⟨rfl, rfl⟩)
theorem begin_ev {W0 : World} (s : WorkerS) (hs : List Nat) (e : EnvS) (m : MemS) (F : FuncId) (cap : List VV) (C : VB) (hC : ∀ ρ : Nat → Nat, ρ 0 = 0 → rnB ρ C = C) (hcap : ∀ ρ : Nat → Nat, ρ 9 = 9 → rnL ρ cap = cap) (f : MadeF) (hF : MadeOk W0 F cap C (some hs) f)
    (a : Int) (q : List Int) (c : CallS) (hq : s.q = a :: q) (hw : s.work = none) (ha0 : 0 ≤ a) (hc : s.l[a.toNat]? = some c) (hck : checkCall c = true) (hk : 6 ≤ c.kind → hs ≠ []) (hl : hs.length ≤ 65535) :
    Ev Tryz.prog W0 83 [.ptr 0 0, e.v 8, .fn F [] cap] (workU W0 s (some hs) ++ [bx W0 (memU m), C])
      (fun v V' => v = .bool true ∧ V' = workX W0 { s with q := q, at_ := a, began := m.steps, h := hOf f s.told c, work := some (doOf hs c (hOf f s.told c)) } (some hs) (bx W0 (memU m)) C) := by
  refine Ev.out fun Q' hQ => ?_
  have hE : e.v 8 = .agg [.int .i64 e.c.threads, .int .i64 e.c.slots, .int .i64 e.c.chunks, .int .i64 e.c.words, .int .i64 e.c.gens, .int .i64 e.c.sparse, .int .i64 e.c.tries, .ptr 8 0, .int .i64 e.who] := rfl
  have hPop := qPop_ev (W0 := W0) (a :: q)
  simp only [List.headD_cons, List.isEmpty_cons, Bool.not_false, List.tail_cons] at hPop
  obtain ⟨me, l, q0, at_, h, work, began, told⟩ := s
  obtain rfl : q0 = a :: q := hq
  obtain rfl : work = none := hw
  simp only at hc hQ
  have hlt : a.toNat < l.length := (List.getElem?_eq_some_iff.1 hc).1
  obtain ⟨c0, cs, rfl⟩ : ∃ c0 cs, l = c0 :: cs := by
    cases l with
    | nil => simp at hlt
    | cons x t => exact ⟨x, t, rfl⟩
  have hget : ((c0 :: cs).map CallS.cs)[a.toNat]? = some c.cs := by rw [List.getElem?_map, hc]; rfl
  generalize hxs : (c0 :: cs).map CallS.cs = xs at *
  generalize hn : (c0 :: cs).length = n at *
  have han : a < n := by omega
  have hU : workU W0 ⟨me, c0 :: cs, a :: q, at_, h, none, began, told⟩ (some hs) ++ [bx W0 (memU m), C] = [.cells [.int .i64 me, .sl 1 9 0 n (.v 2), .ptr 3 0, .ptr 7 0, .int .i64 at_, .int .u64 h, .nilIface, .int .i64 began, slV 18 told 4 5],
      .arr 9 xs (.v 2), .num, bx W0 (queueU (a :: q)), slB 18 ToldS.cs told 5, slN told, .emp, bx W0 (shelfU hs), bx W0 (memU m), C] := by rw [← hxs, ← hn]; rfl
  rw [hU, hE] at *
  have hNow := eNow_ev (W0 := W0) m e
  generalize hT : slV 18 told 4 5 = b1 at *
  generalize hT2 : slB 18 ToldS.cs told 5 = b2 at *
  generalize hT3 : slN told = b3 at *
  generalize hQ1 : bx W0 (queueU (a :: q)) = b4 at *
  generalize hS : bx W0 (shelfU hs) = b5 at *
  generalize hM : bx W0 (memU m) = M at *
  generalize hP : bx W0 (queueU q) = b6 at *
  obtain ⟨k, z, w, ca, r, i, x, y, ke⟩ := c
  simp only [CallS.cs] at hget
  refine ev83 rfl fun o => ?_
  (cbv; repeat' (first | (refine ⟨by simp only [Ops.need_eq, needs]; first | rfl | decide, ?_⟩; try cbv) | (refine mt (fun h => ?_) (fun h => ?_) <;> first | (exfalso; simp [Ops.cmp_eq, Ops.not_eq, icmp] at h; done) | (exfalso; simp [Ops.cmp_eq, icmp] at h; omega) | (try cbv))))
  refine Ops.call _ [3] hPop rfl rfl rfl ⟨.inr (by rw [← hQ1]; rfl), trivial⟩ ?_
  rintro v V' ⟨rfl, rfl⟩
  simp only [layB, lset, lapp, List.map_nil, List.map_cons, ← hP, rnB_bx, rn, rnL]
  rw [hP]
  (cbv; repeat' (first | (refine ⟨by simp only [Ops.need_eq, needs]; first | rfl | decide, ?_⟩; try cbv) | (refine mt (fun h => ?_) (fun h => ?_) <;> first | (exfalso; simp [Ops.cmp_eq, Ops.not_eq, icmp] at h; done) | (exfalso; simp [Ops.cmp_eq, icmp] at h; omega) | (try cbv))))
  refine ⟨by simp only [Ops.inb_eq]; exact decide_eq_true ⟨by first | exact (ha0) | (simp only [Int.ofNat_eq_natCast]; exact (ha0)), by first | exact (han) | (simp only [Int.ofNat_eq_natCast]; exact (han))⟩, ?_⟩
  simp only [Int.toNat_natCast, Int.ofNat_eq_natCast, Ops.get_eq, Ops.nadd_eq, Ops.nat_eq, Nat.zero_add, hget]
  (cbv; repeat' (first | (refine ⟨by simp only [Ops.need_eq, needs]; first | rfl | decide, ?_⟩; try cbv) | (refine mt (fun h => ?_) (fun h => ?_) <;> first | (exfalso; simp [Ops.cmp_eq, Ops.not_eq, icmp] at h; done) | (exfalso; simp [Ops.cmp_eq, icmp] at h; omega) | (try cbv))))
  refine Ops.call _ [8] hNow rfl rfl rfl ⟨.inr (by rw [← hM]; rfl), trivial⟩ ?_
  rintro v V' ⟨rfl, rfl⟩
  simp only [layB, lset, lapp, List.map_nil, List.map_cons, ← hM, rnB_bx, rn, rnL]
  rw [hM]
  generalize m.steps = st at *
  have hk1 : 1 ≤ k := by
    unfold checkCall at hck
    by_cases h1 : k < 1 ∨ 8 < k
    · rw [if_pos h1] at hck; cases hck
    · omega
  have hk8 : k ≤ 8 := by
    unfold checkCall at hck
    by_cases h1 : k < 1 ∨ 8 < k
    · rw [if_pos h1] at hck; cases hck
    · omega
  by_cases h6 : 6 ≤ k
  · have hck2 : checkList (k - 5) ke = true := by
      unfold checkCall at hck
      rw [if_neg (by simp only; omega), if_pos h6] at hck
      exact hck
    have hNew := shelfNew_ev (W0 := W0) hs (hk h6) hl (k - 5) ke
    simp only [hck2, if_true] at hNew
    have hdo : ∀ c' : CallS, c'.kind = k → c'.key = ke → ∀ hh, doOf hs c' hh = .list (newList (k - 5) ke (headOf2 hs ke)) := by
      intro c' e1 e2 hh
      unfold doOf
      rw [e1, e2, if_pos h6]
    have hho : ∀ c' : CallS, c'.kind = k → hOf f told c' = 0 := by
      intro c' e1
      unfold hOf
      rw [e1, if_pos (.inl h6)]
    rw [hdo _ rfl rfl, hho _ rfl] at hQ
    rw [show hs[(ofS ke hs.length).toNat]?.getD 0 = headOf2 hs ke from rfl] at hNew
    generalize newList (k - 5) ke (headOf2 hs ke) = NL at *
    rw [hS] at hNew
    generalize hN : bx W0 (listU W0 NL) = NB at *
    have e1 : arith .add .i64 (arith .sub .i64 k 6) 1 = k - 5 := by
      simp only [arith]
      rw [IntKind.wrap_i64, IntKind.wrap_i64] <;> omega
    (cbv; repeat' (first | (refine ⟨by simp only [Ops.need_eq, needs]; first | rfl | decide, ?_⟩; try cbv) | (refine mt (fun h => ?_) (fun h => ?_) <;> first | (exfalso; simp [Ops.cmp_eq, Ops.not_eq, icmp] at h; done) | (exfalso; simp [Ops.cmp_eq, icmp] at h; omega) | (try cbv))))
    simp only [Ops.ar_eq]
    rw [e1]
    refine Ops.call _ [7] hNew rfl rfl rfl ⟨.inr (by rw [← hS]; rfl), trivial⟩ ?_
    rintro v V' ⟨rfl, rfl⟩
    simp only [layB, lset, lapp, List.map_nil, List.map_cons, ← hS, ← hN, rnB_bx, rn, rnL]
    rw [hS, hN]
    (cbv; repeat' (first | (refine ⟨by simp only [Ops.need_eq, needs]; first | rfl | decide, ?_⟩; try cbv) | (refine mt (fun h => ?_) (fun h => ?_) <;> first | (exfalso; simp [Ops.cmp_eq, Ops.not_eq, icmp] at h; done) | (exfalso; simp [Ops.cmp_eq, icmp] at h; omega) | (try cbv))))
    subst hT hT2 hT3 hP hS hM hN hxs hn
    refine hQ _ _ (ReV.ren [0, 1, 2, 3, 4, 5, 6, 7, 8, 9, 12] (.bool true) (workX W0 ⟨me, c0 :: cs, q, a, 0, some (.list NL), st, told⟩ (some hs) (bx W0 (memU m)) C) rfl rfl rfl (fitX rfl rfl rfl rfl rfl rfl rfl rfl ?_ rfl) ⟨rfl, rfl⟩)
    rw [hC _ rfl]; rfl
  · have hho : ∀ c' : CallS, c'.kind = k → hOf f told c' = if k = 1 then 0 else f c' told := by
      intro c' e1
      unfold hOf
      rw [e1]
      by_cases h1 : k = 1
      · rw [if_pos (.inr h1), if_pos h1]
      · rw [if_neg (by omega), if_neg h1]
    have hdo : ∀ c' : CallS, c'.kind = k → ∀ hh, doOf hs c' hh = .act (newAct (FL.actOf c' hh)) := by
      intro c' e1 hh
      unfold doOf
      rw [e1, if_neg h6]
    rw [hdo _ rfl, hho _ rfl] at hQ
    have hact : ∀ hh, checkAct (FL.actOf ⟨k, z, w, ca, r, i, x, y, ke⟩ hh) = true := by
      intro hh
      unfold checkCall at hck
      rw [if_neg (by simp only; omega), if_neg h6] at hck
      exact hck
    have hAO := fun hh => actOf_ev (W0 := W0) ⟨k, z, w, ca, r, i, x, y, ke⟩ hh hk1 hk8
    have hAN := fun hh => actNew_ev (W0 := W0) (FL.actOf ⟨k, z, w, ca, r, i, x, y, ke⟩ hh)
    simp only [hact, if_true] at hAN
    simp only [CallS.cs] at hAO
    by_cases h1 : k = 1
    · rw [if_pos h1] at hQ
      have hAO := hAO 0
      have hAN := hAN 0
      generalize FL.actOf ⟨k, z, w, ca, r, i, x, y, ke⟩ 0 = X at *
      obtain ⟨x1, x2, x3, x4, x5, x6, x7⟩ := X
      simp only [actV] at hAO hAN
      generalize newAct _ = NA at *
      generalize hN : bx W0 (actU W0 NA) = NB at *
      (cbv; repeat' (first | (refine ⟨by simp only [Ops.need_eq, needs]; first | rfl | decide, ?_⟩; try cbv) | (refine mt (fun h => ?_) (fun h => ?_) <;> first | (exfalso; simp [Ops.cmp_eq, Ops.not_eq, icmp] at h; done) | (exfalso; simp [Ops.cmp_eq, icmp] at h; omega) | (try cbv))))
      refine Ops.call0 _ (hAO) rfl ?_; rintro v V' ⟨rfl, rfl⟩; simp only [lapp, List.map_nil, rn, rnL]
      (cbv; repeat' (first | (refine ⟨by simp only [Ops.need_eq, needs]; first | rfl | decide, ?_⟩; try cbv) | (refine mt (fun h => ?_) (fun h => ?_) <;> first | (exfalso; simp [Ops.cmp_eq, Ops.not_eq, icmp] at h; done) | (exfalso; simp [Ops.cmp_eq, icmp] at h; omega) | (try cbv))))
      refine Ops.call _ [] hAN rfl rfl rfl trivial ?_
      rintro v V' ⟨rfl, rfl⟩
      simp only [layB, lset, lapp, List.map_nil, List.map_cons, ← hN, rnB_bx, rn, rnL]
      rw [hN]
      (cbv; repeat' (first | (refine ⟨by simp only [Ops.need_eq, needs]; first | rfl | decide, ?_⟩; try cbv) | (refine mt (fun h => ?_) (fun h => ?_) <;> first | (exfalso; simp [Ops.cmp_eq, Ops.not_eq, icmp] at h; done) | (exfalso; simp [Ops.cmp_eq, icmp] at h; omega) | (try cbv))))
      subst hT hT2 hT3 hP hS hM hN hxs hn
      refine hQ _ _ (ReV.ren [0, 1, 2, 3, 4, 5, 6, 7, 8, 9, 12] (.bool true) (workX W0 ⟨me, c0 :: cs, q, a, 0, some (.act NA), st, told⟩ (some hs) (bx W0 (memU m)) C) rfl rfl rfl (fitX rfl rfl rfl rfl rfl rfl rfl rfl ?_ rfl) ⟨rfl, rfl⟩)
      rw [hC _ rfl]; rfl
    · rw [if_neg h1] at hQ
      (cbv; repeat' (first | (refine ⟨by simp only [Ops.need_eq, needs]; first | rfl | decide, ?_⟩; try cbv) | (refine mt (fun h => ?_) (fun h => ?_) <;> first | (exfalso; simp [Ops.cmp_eq, Ops.not_eq, icmp] at h; done) | (exfalso; simp [Ops.cmp_eq, icmp] at h; omega) | (try cbv))))
      subst hT hT2 hT3 hP hS hM hxs hn
      refine Ops.call _ [0, 1, 2, 3, 4, 5, 6, 7, 8, 9] (hF ⟨me, c0 :: cs, q, a, 0, none, st, told⟩ (bx W0 (memU m)) ⟨k, z, w, ca, r, i, x, y, ke⟩ (fun ρ => rnB_bx W0 _ ρ)) ?_ rfl rfl (fitW rfl rfl rfl rfl rfl rfl (.inl rfl) rfl rfl (.inr (by rw [hC _ rfl]; rfl))) ?_
      · show _ = rn _ (refV _) :: rnL _ cap
        rw [hcap _ rfl]; rfl
      rintro v V' ⟨rfl, rfl⟩
      generalize f ⟨k, z, w, ca, r, i, x, y, ke⟩ told = hd at *
      have hAO := hAO hd
      have hAN := hAN hd
      have r0 : ∀ n, rho [0, 1, 2, 3, 4, 5, 6, 7, 8, 9] n 0 = 0 := fun _ => rfl
      have r1 : ∀ n, rho [0, 1, 2, 3, 4, 5, 6, 7, 8, 9] n 1 = 1 := fun _ => rfl
      have r2 : ∀ n, rho [0, 1, 2, 3, 4, 5, 6, 7, 8, 9] n 2 = 2 := fun _ => rfl
      have r3 : ∀ n, rho [0, 1, 2, 3, 4, 5, 6, 7, 8, 9] n 3 = 3 := fun _ => rfl
      have r4 : ∀ n, rho [0, 1, 2, 3, 4, 5, 6, 7, 8, 9] n 4 = 4 := fun _ => rfl
      have r5 : ∀ n, rho [0, 1, 2, 3, 4, 5, 6, 7, 8, 9] n 5 = 5 := fun _ => rfl
      have r7 : ∀ n, rho [0, 1, 2, 3, 4, 5, 6, 7, 8, 9] n 7 = 7 := fun _ => rfl
      simp only [layB, workU, List.cons_append, List.nil_append, lset, lapp, List.map_nil, workC_rn, slV_rn, slB_rn _ _ CallS.rn_cs, slB_rn _ _ ToldS.rn_cs, slN_rn, wkV_rn, rnB_bx, rnB_optB, rn_optP, wkB, rnB_emp, r1, r2, r3, r4, r5, r7, rn_ptr, rn_u64, hC _ (r0 _)]
      rw [show slV 9 (c0 :: cs) 1 2 = .sl 1 9 0 (c0 :: cs).length (.v 2) from rfl, show slB 9 CallS.cs (c0 :: cs) 2 = .arr 9 ((c0 :: cs).map CallS.cs) (.v 2) from rfl, show slN (c0 :: cs) = .num from rfl]
      simp only [workC, optP, optB, wkV]
      generalize hxs : (c0 :: cs).map CallS.cs = xs at *
      generalize hn : (c0 :: cs).length = n at *
      generalize hT : slV 18 told 4 5 = b1 at *
      generalize hT2 : slB 18 ToldS.cs told 5 = b2 at *
      generalize hT3 : slN told = b3 at *
      generalize hS : bx W0 (shelfU hs) = b5 at *
      generalize hM : bx W0 (memU m) = M at *
      generalize hP : bx W0 (queueU q) = b6 at *
      generalize FL.actOf ⟨k, z, w, ca, r, i, x, y, ke⟩ hd = X at *
      obtain ⟨x1, x2, x3, x4, x5, x6, x7⟩ := X
      simp only [actV] at hAO hAN
      generalize newAct _ = NA at *
      generalize hN : bx W0 (actU W0 NA) = NB at *
      (cbv; repeat' (first | (refine ⟨by simp only [Ops.need_eq, needs]; first | rfl | decide, ?_⟩; try cbv) | (refine mt (fun h => ?_) (fun h => ?_) <;> first | (exfalso; simp [Ops.cmp_eq, Ops.not_eq, icmp] at h; done) | (exfalso; simp [Ops.cmp_eq, icmp] at h; omega) | (try cbv))))
      refine Ops.call0 _ (hAO) rfl ?_; rintro v V' ⟨rfl, rfl⟩; simp only [lapp, List.map_nil, rn, rnL]
      (cbv; repeat' (first | (refine ⟨by simp only [Ops.need_eq, needs]; first | rfl | decide, ?_⟩; try cbv) | (refine mt (fun h => ?_) (fun h => ?_) <;> first | (exfalso; simp [Ops.cmp_eq, Ops.not_eq, icmp] at h; done) | (exfalso; simp [Ops.cmp_eq, icmp] at h; omega) | (try cbv))))
      refine Ops.call _ [] hAN rfl rfl rfl trivial ?_
      rintro v V' ⟨rfl, rfl⟩
      simp only [layB, lset, lapp, List.map_nil, List.map_cons, ← hN, rnB_bx, rn, rnL]
      rw [hN]
      (cbv; repeat' (first | (refine ⟨by simp only [Ops.need_eq, needs]; first | rfl | decide, ?_⟩; try cbv) | (refine mt (fun h => ?_) (fun h => ?_) <;> first | (exfalso; simp [Ops.cmp_eq, Ops.not_eq, icmp] at h; done) | (exfalso; simp [Ops.cmp_eq, icmp] at h; omega) | (try cbv))))
      subst hT hT2 hT3 hP hS hM hN hxs hn
      refine hQ _ _ (ReV.ren [0, 1, 2, 3, 4, 5, 6, 7, 8, 9, 12] (.bool true) (workX W0 ⟨me, c0 :: cs, q, a, hd, some (.act NA), st, told⟩ (some hs) (bx W0 (memU m)) C) rfl rfl rfl (fitX rfl rfl rfl rfl rfl rfl rfl rfl ?_ rfl) ⟨rfl, rfl⟩)
      rw [hC _ rfl]; rfl
end Go.Proofs.YtglghdjpkecngaaGreat

/- worker: a step. -/
namespace Go.Proofs.YtglghdjpkecngaaGreat
set_option linter.unusedVariables false
set_option linter.unusedSimpArgs false
open Go Go.SL Go.FL
set_option maxRecDepth 100000
theorem workU_open {W0 : World} {M C : VB} (s : WorkerS) (hs : Option (List Nat)) : layB (rho [0] [bx W0 (workU W0 s hs), M, C].length) [bx W0 (workU W0 s hs), M, C] [0] (workU W0 s hs) =
    [workC s (slV 9 s.l 3 4) (.ptr 5 0) (optP 9 hs) (wkV 8 s.work) (slV 18 s.told 6 7), M, C, slB 9 CallS.cs s.l 4, slN s.l, bx W0 (queueU s.q), slB 18 ToldS.cs s.told 7, slN s.told, wkB W0 s.work, optB W0 shelfU hs] := by
  simp only [layB, lset, lapp, workU, List.map_cons, List.map_nil, workC_rn, slV_rn, slB_rn _ _ CallS.rn_cs, slB_rn _ _ ToldS.rn_cs, slN_rn, wkV_rn, wkB_rn, rnB_bx, rnB_optB, rn_optP, rn_ptr]
  rfl
theorem fitU {W0 : World} {s : WorkerS} {hs : Option (List Nat)} {ρ : Nat → Nat} {V : List VB} {p0 p1 p2 p3 p4 p5 p6 p7 : Nat}
    (e0 : lget V p0 = some (workC s (slV 9 s.l (ρ 1) (ρ 2)) (.ptr (ρ 3) 0) (optP (ρ 7) hs) (wkV (ρ 6) s.work) (slV 18 s.told (ρ 4) (ρ 5)))) (e1 : lget V p1 = some (slB 9 CallS.cs s.l (ρ 2))) (e2 : lget V p2 = some (slN s.l))
    (e3 : lget V p3 = some (bx W0 (queueU s.q))) (e4 : lget V p4 = some (slB 18 ToldS.cs s.told (ρ 5))) (e5 : lget V p5 = some (slN s.told)) (e6 : wkB W0 s.work = .emp ∨ lget V p6 = some (wkB W0 s.work)) (e7 : lget V p7 = some (optB W0 shelfU hs)) :
    fitB ρ V [p0, p1, p2, p3, p4, p5, p6, p7] (workU W0 s hs) := by
  refine ⟨.inr ?_, .inr ?_, .inr ?_, .inr ?_, .inr ?_, .inr ?_, ?_, .inr ?_, trivial⟩
  · rw [workC_rn, slV_rn, slV_rn, wkV_rn, rn_optP, e0]; rfl
  · rw [slB_rn _ _ CallS.rn_cs, e1]
  · rw [slN_rn, e2]
  · rw [rnB_bx, e3]
  · rw [slB_rn _ _ ToldS.rn_cs, e4]
  · rw [slN_rn, e5]
  · rcases e6 with e6 | e6
    · exact .inl e6
    · exact .inr (by rw [wkB_rn, e6])
  · rw [rnB_optB, e7]
theorem slV_snoc {α : Type} (es : Nat) (l : List α) (x : α) (i j : Nat) : slV es (l ++ [x]) i j = .sl i es 0 (l.length + 1) (.v j) := by cases l <;> simp [slV]
theorem slB_snoc {α : Type} (es : Nat) (f : α → List VV) (l : List α) (x : α) (j : Nat) : slB es f (l ++ [x]) j = .arr es (l.map f ++ [f x]) (.v j) := by cases l <;> simp [slB]
theorem slN_snoc {α : Type} (l : List α) (x : α) : slN (l ++ [x]) = .num := by cases l <;> rfl
theorem allC (l : List CallS) : (l.map CallS.cs).all allOne = true := by simp [CallS.cs, allOne, VV.one]
theorem StepC_ev {W0 : World} (s : WorkerS) (hs : List Nat) (e : EnvS) (m : MemS) (F : FuncId) (cap : List VV) (C : VB)
    (d : DoS) (hw : s.work = some d) (hwf : d.wfb e.c = true) (c : CallS) (ha0 : 0 ≤ s.at_) (hc : s.l[s.at_.toNat]? = some c) (ht : s.told.length ≤ 1000) (hC : ∀ ρ : Nat → Nat, ρ 0 = 0 → rnB ρ C = C) :
    Ev Tryz.prog W0 51 [.ptr 0 0, e.v 1, .fn F [] cap] [bx W0 (workU W0 s (some hs)), bx W0 (memU m), C]
      (fun v V' => v = .bool true ∧ V' = [bx W0 (workU W0 (s.go e d m).1 (some hs)), bx W0 (memU (s.go e d m).2), C]) := by
  refine Ev.outB 0 (U := workU W0 s (some hs)) rfl fun Q' hQ => ?_
  have hE : e.v 1 = .agg [.int .i64 e.c.threads, .int .i64 e.c.slots, .int .i64 e.c.chunks, .int .i64 e.c.words, .int .i64 e.c.gens, .int .i64 e.c.sparse, .int .i64 e.c.tries, .ptr 1 0, .int .i64 e.who] := rfl
  rw [workU_open, hE]
  obtain ⟨me, l, q, at_, hx0, work, began, told⟩ := s
  obtain rfl : work = some d := hw
  simp only at hc ht ha0
  obtain ⟨an, rfl⟩ : ∃ an : Nat, at_ = an := ⟨at_.toNat, by omega⟩
  rw [Int.toNat_natCast] at hc
  have hlt : an < l.length := (List.getElem?_eq_some_iff.1 hc).1
  obtain ⟨c0, cs, rfl⟩ : ∃ c0 cs, l = c0 :: cs := by
    cases l with
    | nil => simp at hlt
    | cons x t => exact ⟨x, t, rfl⟩
  have hget : ((c0 :: cs).map CallS.cs)[an]? = some c.cs := by rw [List.getElem?_map, hc]; rfl
  have hX : ∀ ρ, ((c0 :: cs).map CallS.cs).map (rnL ρ) = (c0 :: cs).map CallS.cs := fun ρ => by simp [CallS.rn_cs]
  rw [show slV 9 (c0 :: cs) 3 4 = .sl 3 9 0 (c0 :: cs).length (.v 4) from rfl, show slB 9 CallS.cs (c0 :: cs) 4 = .arr 9 ((c0 :: cs).map CallS.cs) (.v 4) from rfl, show slN (c0 :: cs) = .num from rfl]
  simp only [workC, optP, optB]
  generalize hxs : (c0 :: cs).map CallS.cs = xs at *
  generalize hn : (c0 :: cs).length = n at *
  have han : (an : Int) < n := by omega
  generalize hT : slV 18 told 6 7 = b1 at *
  generalize hT2 : slB 18 ToldS.cs told 7 = b2 at *
  generalize hT3 : slN told = b3 at *
  generalize hS : bx W0 (shelfU hs) = b5 at *
  generalize hM : bx W0 (memU m) = M at *
  generalize hP : bx W0 (queueU q) = b6 at *
  obtain ⟨k, z, w, ca, r, i, x, y, ke⟩ := c
  simp only [CallS.cs] at hget
  generalize hG : WorkerS.go _ e d m = G at hQ
  cases d with
  | act a =>
    have hA := Act_ev (W0 := W0) m e a (awf_of hwf)
    generalize hst : a.step e m = R at *
    obtain ⟨b, a', m'⟩ := R
    simp only [wkV, wkB] at *
    rw [hM] at hA
    generalize hW : bx W0 (actU W0 a) = W at *
    generalize hW2 : bx W0 (actU W0 a') = W' at *
    generalize hM2 : bx W0 (memU m') = M' at *
    refine ev51 rfl fun o => ?_
    (cbv; repeat' (first | (refine ⟨by simp only [Ops.need_eq, needs]; first | rfl | decide, ?_⟩; try cbv) | (refine mt (fun h => ?_) (fun h => ?_) <;> first | (exfalso; simp [Ops.cmp_eq, Ops.not_eq, icmp] at h; done) | (exfalso; simp [Ops.cmp_eq, icmp] at h; omega) | (try cbv))))
    refine Ops.call _ [1, 8] hA rfl rfl rfl ⟨.inr (by rw [← hM]; rfl), .inr (by rw [← hW]; rfl), trivial⟩ ?_
    rintro v V' ⟨rfl, rfl⟩
    simp only [layB, lset, lapp, List.map_nil, List.map_cons, ← hM2, ← hW2, rnB_bx, rn, rnL]
    rw [hM2, hW2]
    cases b with
    | false =>
      obtain rfl : (⟨me, c0 :: cs, q, an, hx0, some (.act a'), began, told⟩, m') = G := by rw [← hG]; simp [WorkerS.go, DoS.step, hst]
      (cbv; repeat' (first | (refine ⟨by simp only [Ops.need_eq, needs]; first | rfl | decide, ?_⟩; try cbv) | (refine mt (fun h => ?_) (fun h => ?_) <;> first | (exfalso; simp [Ops.cmp_eq, Ops.not_eq, icmp] at h; done) | (exfalso; simp [Ops.cmp_eq, icmp] at h; omega) | (try cbv))))
      subst hT hT2 hT3 hP hS hM2 hW2 hxs hn
      refine hQ _ _ (ReV.shut 0 [3, 4, 5, 6, 7, 8, 9] (workU W0 ⟨me, c0 :: cs, q, an, hx0, some (.act a'), began, told⟩ (some hs)) rfl rfl (fitU rfl rfl rfl rfl rfl rfl (.inr rfl) rfl) (ReV.ren [0, 1, 2] (.bool true) [bx W0 _, bx W0 (memU m'), C] rfl rfl rfl ⟨.inr rfl, .inr rfl, .inr (by rw [hC _ rfl]; rfl), trivial⟩ ⟨rfl, rfl⟩))
    | true =>
      obtain rfl : (⟨me, c0 :: cs, q, an, hx0, none, began, told ++ [⟨me, an, ⟨k, z, w, ca, r, i, x, y, ke⟩, hx0, a'.out, began, m'.steps⟩]⟩, m') = G := by rw [← hG]; simp [WorkerS.go, DoS.step, DoS.done, hst, hc]
      have hD := actDone_ev (W0 := W0) a'
      have hNow := eNow_ev (W0 := W0) m' e
      rw [hW2] at hD
      rw [hM2] at hNow
      generalize hd : a'.out = dn at *
      obtain ⟨d1, d2, d3, d4⟩ := dn
      simp only [doneV] at hD
      generalize m'.steps = st at *
      (cbv; repeat' (first | (refine ⟨by simp only [Ops.need_eq, needs]; first | rfl | decide, ?_⟩; try cbv) | (refine mt (fun h => ?_) (fun h => ?_) <;> first | (exfalso; simp [Ops.cmp_eq, Ops.not_eq, icmp] at h; done) | (exfalso; simp [Ops.cmp_eq, icmp] at h; omega) | (try cbv))))
      refine ⟨by simp only [Ops.inb_eq]; exact decide_eq_true ⟨by first | exact (ha0) | (simp only [Int.ofNat_eq_natCast]; exact (ha0)), by first | exact (han) | (simp only [Int.ofNat_eq_natCast]; exact (han))⟩, ?_⟩
      simp only [Int.toNat_natCast, Int.ofNat_eq_natCast, Ops.get_eq, Ops.nadd_eq, Ops.nat_eq, Nat.zero_add, hget]
      (cbv; repeat' (first | (refine ⟨by simp only [Ops.need_eq, needs]; first | rfl | decide, ?_⟩; try cbv) | (refine mt (fun h => ?_) (fun h => ?_) <;> first | (exfalso; simp [Ops.cmp_eq, Ops.not_eq, icmp] at h; done) | (exfalso; simp [Ops.cmp_eq, icmp] at h; omega) | (try cbv))))
      refine Ops.call _ [8] hD rfl rfl rfl ⟨.inr (by rw [← hW2]; rfl), trivial⟩ ?_
      rintro v V' ⟨rfl, rfl⟩
      simp only [layB, lset, lapp, List.map_nil, List.map_cons, ← hW2, rnB_bx, rn, rnL]
      rw [hW2]
      refine ⟨by cbv; simp only [Ops.get_eq, hget]; exact ⟨rfl, trivial⟩, ?_⟩
      (cbv; repeat' (first | (refine ⟨by simp only [Ops.need_eq, needs]; first | rfl | decide, ?_⟩; try cbv) | (refine mt (fun h => ?_) (fun h => ?_) <;> first | (exfalso; simp [Ops.cmp_eq, Ops.not_eq, icmp] at h; done) | (exfalso; simp [Ops.cmp_eq, icmp] at h; omega) | (try cbv))))
      refine Ops.call _ [1] hNow rfl rfl rfl ⟨.inr (by rw [← hM2]; rfl), trivial⟩ ?_
      rintro v V' ⟨rfl, rfl⟩
      simp only [layB, lset, lapp, List.map_nil, List.map_cons, ← hM2, rnB_bx, rn, rnL]
      rw [hM2]
      cases told with
      | nil =>
        obtain rfl : VV.nilSl = b1 := hT
        obtain rfl : VB.emp = b2 := hT2
        obtain rfl : VB.emp = b3 := hT3
        refine ⟨by cbv; simp only [Ops.get_eq, hget]; exact ⟨rfl, trivial⟩, ?_⟩
        (cbv; repeat' (first | (refine ⟨by simp only [Ops.need_eq, needs]; first | rfl | decide, ?_⟩; try cbv) | (refine mt (fun _ => ?_) (fun _ => ?_) <;> (try cbv))))
        refine ⟨by simp only [Ops.get_eq, hget]; exact ⟨rfl, trivial⟩, ?_⟩
        refine ⟨by simp [o.ll_eq, o.sub_eq], by simp [o.all1_eq, o.sub_eq, allOne, VV.one], ⟨by simp [o.nle_eq], by simp [o.nle_eq, o.nmul_eq]⟩, .inr fun _ => ?_⟩
        simp only [o.cat_eq, o.sub_eq, o.nadd_eq, o.nmul_eq, List.drop_zero, List.take_succ_cons, List.take_zero]
        refine ⟨by cbv; simp only [Ops.get_eq, hget]; exact ⟨rfl, trivial⟩, ?_⟩
        (cbv; repeat' (first | (refine ⟨by simp only [Ops.need_eq, needs]; first | rfl | decide, ?_⟩; try cbv) | (refine mt (fun _ => ?_) (fun _ => ?_) <;> (try cbv))))
        subst hP hS hM2 hxs hn
        refine hQ _ _ (ReV.shut 0 [3, 4, 5, 13, 12, 8, 9] (workU W0 ⟨me, c0 :: cs, q, an, hx0, none, began, [] ++ [⟨me, an, ⟨k, z, w, ca, r, i, x, y, ke⟩, hx0, ⟨d1, d2, d3, d4⟩, began, st⟩]⟩ (some hs)) rfl rfl
          (fitU (by rw [slV_snoc]; rfl) rfl rfl rfl (by rw [slB_snoc]; rfl) (by rw [slN_snoc]; rfl) (.inl rfl) rfl) (ReV.ren [0, 1, 2] (.bool true) [bx W0 _, bx W0 (memU m'), C] rfl rfl rfl ⟨.inr rfl, .inr rfl, .inr (by rw [hC _ rfl]; rfl), trivial⟩ ⟨rfl, rfl⟩))
      | cons t0 ts =>
        rw [show slV 18 (t0 :: ts) 6 7 = .sl 6 18 0 (t0 :: ts).length (.v 7) from rfl] at hT
        rw [show slB 18 ToldS.cs (t0 :: ts) 7 = .arr 18 ((t0 :: ts).map ToldS.cs) (.v 7) from rfl] at hT2
        obtain rfl : VB.num = b3 := hT3
        generalize hn2 : (t0 :: ts).length = n2 at *
        generalize hys : (t0 :: ts).map ToldS.cs = ys at *
        subst hT hT2
        refine ⟨by cbv; simp only [Ops.get_eq, hget]; exact ⟨rfl, trivial⟩, ?_⟩
        (cbv; repeat' (first | (refine ⟨by simp only [Ops.need_eq, needs]; first | rfl | decide, ?_⟩; try cbv) | (refine mt (fun _ => ?_) (fun _ => ?_) <;> (try cbv))))
        refine ⟨by simp only [Ops.get_eq, hget]; exact ⟨rfl, trivial⟩, ?_⟩
        refine ⟨by simp [o.ll_eq, o.sub_eq], by simp [o.all1_eq, o.sub_eq, allOne, VV.one], ⟨by simp [o.ll_eq, ← hys, ← hn2], by simp [o.nle_eq, o.nmul_eq, o.nadd_eq]; omega⟩, ?_⟩
        simp only [o.cat_eq, o.sub_eq, o.nadd_eq, o.nmul_eq, List.drop_zero, List.take_succ_cons, List.take_zero]
        refine ⟨by cbv; simp only [Ops.get_eq, hget]; exact ⟨rfl, trivial⟩, ?_⟩
        (cbv; repeat' (first | (refine ⟨by simp only [Ops.need_eq, needs]; first | rfl | decide, ?_⟩; try cbv) | (refine mt (fun _ => ?_) (fun _ => ?_) <;> (try cbv))))
        subst hn2 hys hP hS hM2 hxs hn
        refine hQ _ _ (ReV.shut 0 [3, 4, 5, 13, 12, 8, 9] (workU W0 ⟨me, c0 :: cs, q, an, hx0, none, began, (t0 :: ts) ++ [⟨me, an, ⟨k, z, w, ca, r, i, x, y, ke⟩, hx0, ⟨d1, d2, d3, d4⟩, began, st⟩]⟩ (some hs)) rfl rfl
          (fitU (by rw [slV_snoc]; rfl) rfl rfl rfl (by rw [slB_snoc]; rfl) (by rw [slN_snoc]; rfl) (.inl rfl) rfl) (ReV.ren [0, 1, 2] (.bool true) [bx W0 _, bx W0 (memU m'), C] rfl rfl rfl ⟨.inr rfl, .inr rfl, .inr (by rw [hC _ rfl]; rfl), trivial⟩ ⟨rfl, rfl⟩))
  | list a =>
    have hA := ListStep_ev (W0 := W0) m e a (lwf_of hwf)
    generalize hst : a.step e m = R at *
    obtain ⟨b, a', m'⟩ := R
    simp only [wkV, wkB] at *
    rw [hM] at hA
    generalize hW : bx W0 (listU W0 a) = W at *
    generalize hW2 : bx W0 (listU W0 a') = W' at *
    generalize hM2 : bx W0 (memU m') = M' at *
    refine ev51 rfl fun o => ?_
    (cbv; repeat' (first | (refine ⟨by simp only [Ops.need_eq, needs]; first | rfl | decide, ?_⟩; try cbv) | (refine mt (fun h => ?_) (fun h => ?_) <;> first | (exfalso; simp [Ops.cmp_eq, Ops.not_eq, icmp] at h; done) | (exfalso; simp [Ops.cmp_eq, icmp] at h; omega) | (try cbv))))
    refine Ops.call _ [1, 8] hA rfl rfl rfl ⟨.inr (by rw [← hM]; rfl), .inr (by rw [← hW]; rfl), trivial⟩ ?_
    rintro v V' ⟨rfl, rfl⟩
    simp only [layB, lset, lapp, List.map_nil, List.map_cons, ← hM2, ← hW2, rnB_bx, rn, rnL]
    rw [hM2, hW2]
    cases b with
    | false =>
      obtain rfl : (⟨me, c0 :: cs, q, an, hx0, some (.list a'), began, told⟩, m') = G := by rw [← hG]; simp [WorkerS.go, DoS.step, hst]
      (cbv; repeat' (first | (refine ⟨by simp only [Ops.need_eq, needs]; first | rfl | decide, ?_⟩; try cbv) | (refine mt (fun h => ?_) (fun h => ?_) <;> first | (exfalso; simp [Ops.cmp_eq, Ops.not_eq, icmp] at h; done) | (exfalso; simp [Ops.cmp_eq, icmp] at h; omega) | (try cbv))))
      subst hT hT2 hT3 hP hS hM2 hW2 hxs hn
      refine hQ _ _ (ReV.shut 0 [3, 4, 5, 6, 7, 8, 9] (workU W0 ⟨me, c0 :: cs, q, an, hx0, some (.list a'), began, told⟩ (some hs)) rfl rfl (fitU rfl rfl rfl rfl rfl rfl (.inr rfl) rfl) (ReV.ren [0, 1, 2] (.bool true) [bx W0 _, bx W0 (memU m'), C] rfl rfl rfl ⟨.inr rfl, .inr rfl, .inr (by rw [hC _ rfl]; rfl), trivial⟩ ⟨rfl, rfl⟩))
    | true =>
      obtain rfl : (⟨me, c0 :: cs, q, an, hx0, none, began, told ++ [⟨me, an, ⟨k, z, w, ca, r, i, x, y, ke⟩, hx0, a'.out, began, m'.steps⟩]⟩, m') = G := by rw [← hG]; simp [WorkerS.go, DoS.step, DoS.done, hst, hc]
      have hD := listDone_ev (W0 := W0) a'
      have hNow := eNow_ev (W0 := W0) m' e
      rw [hW2] at hD
      rw [hM2] at hNow
      generalize hd : a'.out = dn at *
      obtain ⟨d1, d2, d3, d4⟩ := dn
      simp only [doneV] at hD
      generalize m'.steps = st at *
      (cbv; repeat' (first | (refine ⟨by simp only [Ops.need_eq, needs]; first | rfl | decide, ?_⟩; try cbv) | (refine mt (fun h => ?_) (fun h => ?_) <;> first | (exfalso; simp [Ops.cmp_eq, Ops.not_eq, icmp] at h; done) | (exfalso; simp [Ops.cmp_eq, icmp] at h; omega) | (try cbv))))
      refine ⟨by simp only [Ops.inb_eq]; exact decide_eq_true ⟨by first | exact (ha0) | (simp only [Int.ofNat_eq_natCast]; exact (ha0)), by first | exact (han) | (simp only [Int.ofNat_eq_natCast]; exact (han))⟩, ?_⟩
      simp only [Int.toNat_natCast, Int.ofNat_eq_natCast, Ops.get_eq, Ops.nadd_eq, Ops.nat_eq, Nat.zero_add, hget]
      (cbv; repeat' (first | (refine ⟨by simp only [Ops.need_eq, needs]; first | rfl | decide, ?_⟩; try cbv) | (refine mt (fun h => ?_) (fun h => ?_) <;> first | (exfalso; simp [Ops.cmp_eq, Ops.not_eq, icmp] at h; done) | (exfalso; simp [Ops.cmp_eq, icmp] at h; omega) | (try cbv))))
      refine Ops.call _ [8] hD rfl rfl rfl ⟨.inr (by rw [← hW2]; rfl), trivial⟩ ?_
      rintro v V' ⟨rfl, rfl⟩
      simp only [layB, lset, lapp, List.map_nil, List.map_cons, ← hW2, rnB_bx, rn, rnL]
      rw [hW2]
      refine ⟨by cbv; simp only [Ops.get_eq, hget]; exact ⟨rfl, trivial⟩, ?_⟩
      (cbv; repeat' (first | (refine ⟨by simp only [Ops.need_eq, needs]; first | rfl | decide, ?_⟩; try cbv) | (refine mt (fun h => ?_) (fun h => ?_) <;> first | (exfalso; simp [Ops.cmp_eq, Ops.not_eq, icmp] at h; done) | (exfalso; simp [Ops.cmp_eq, icmp] at h; omega) | (try cbv))))
      refine Ops.call _ [1] hNow rfl rfl rfl ⟨.inr (by rw [← hM2]; rfl), trivial⟩ ?_
      rintro v V' ⟨rfl, rfl⟩
      simp only [layB, lset, lapp, List.map_nil, List.map_cons, ← hM2, rnB_bx, rn, rnL]
      rw [hM2]
      cases told with
      | nil =>
        obtain rfl : VV.nilSl = b1 := hT
        obtain rfl : VB.emp = b2 := hT2
        obtain rfl : VB.emp = b3 := hT3
        refine ⟨by cbv; simp only [Ops.get_eq, hget]; exact ⟨rfl, trivial⟩, ?_⟩
        (cbv; repeat' (first | (refine ⟨by simp only [Ops.need_eq, needs]; first | rfl | decide, ?_⟩; try cbv) | (refine mt (fun _ => ?_) (fun _ => ?_) <;> (try cbv))))
        refine ⟨by simp only [Ops.get_eq, hget]; exact ⟨rfl, trivial⟩, ?_⟩
        refine ⟨by simp [o.ll_eq, o.sub_eq], by simp [o.all1_eq, o.sub_eq, allOne, VV.one], ⟨by simp [o.nle_eq], by simp [o.nle_eq, o.nmul_eq]⟩, .inr fun _ => ?_⟩
        simp only [o.cat_eq, o.sub_eq, o.nadd_eq, o.nmul_eq, List.drop_zero, List.take_succ_cons, List.take_zero]
        refine ⟨by cbv; simp only [Ops.get_eq, hget]; exact ⟨rfl, trivial⟩, ?_⟩
        (cbv; repeat' (first | (refine ⟨by simp only [Ops.need_eq, needs]; first | rfl | decide, ?_⟩; try cbv) | (refine mt (fun _ => ?_) (fun _ => ?_) <;> (try cbv))))
        subst hP hS hM2 hxs hn
        refine hQ _ _ (ReV.shut 0 [3, 4, 5, 13, 12, 8, 9] (workU W0 ⟨me, c0 :: cs, q, an, hx0, none, began, [] ++ [⟨me, an, ⟨k, z, w, ca, r, i, x, y, ke⟩, hx0, ⟨d1, d2, d3, d4⟩, began, st⟩]⟩ (some hs)) rfl rfl
          (fitU (by rw [slV_snoc]; rfl) rfl rfl rfl (by rw [slB_snoc]; rfl) (by rw [slN_snoc]; rfl) (.inl rfl) rfl) (ReV.ren [0, 1, 2] (.bool true) [bx W0 _, bx W0 (memU m'), C] rfl rfl rfl ⟨.inr rfl, .inr rfl, .inr (by rw [hC _ rfl]; rfl), trivial⟩ ⟨rfl, rfl⟩))
      | cons t0 ts =>
        rw [show slV 18 (t0 :: ts) 6 7 = .sl 6 18 0 (t0 :: ts).length (.v 7) from rfl] at hT
        rw [show slB 18 ToldS.cs (t0 :: ts) 7 = .arr 18 ((t0 :: ts).map ToldS.cs) (.v 7) from rfl] at hT2
        obtain rfl : VB.num = b3 := hT3
        generalize hn2 : (t0 :: ts).length = n2 at *
        generalize hys : (t0 :: ts).map ToldS.cs = ys at *
        subst hT hT2
        refine ⟨by cbv; simp only [Ops.get_eq, hget]; exact ⟨rfl, trivial⟩, ?_⟩
        (cbv; repeat' (first | (refine ⟨by simp only [Ops.need_eq, needs]; first | rfl | decide, ?_⟩; try cbv) | (refine mt (fun _ => ?_) (fun _ => ?_) <;> (try cbv))))
        refine ⟨by simp only [Ops.get_eq, hget]; exact ⟨rfl, trivial⟩, ?_⟩
        refine ⟨by simp [o.ll_eq, o.sub_eq], by simp [o.all1_eq, o.sub_eq, allOne, VV.one], ⟨by simp [o.ll_eq, ← hys, ← hn2], by simp [o.nle_eq, o.nmul_eq, o.nadd_eq]; omega⟩, ?_⟩
        simp only [o.cat_eq, o.sub_eq, o.nadd_eq, o.nmul_eq, List.drop_zero, List.take_succ_cons, List.take_zero]
        refine ⟨by cbv; simp only [Ops.get_eq, hget]; exact ⟨rfl, trivial⟩, ?_⟩
        (cbv; repeat' (first | (refine ⟨by simp only [Ops.need_eq, needs]; first | rfl | decide, ?_⟩; try cbv) | (refine mt (fun _ => ?_) (fun _ => ?_) <;> (try cbv))))
        subst hn2 hys hP hS hM2 hxs hn
        refine hQ _ _ (ReV.shut 0 [3, 4, 5, 13, 12, 8, 9] (workU W0 ⟨me, c0 :: cs, q, an, hx0, none, began, (t0 :: ts) ++ [⟨me, an, ⟨k, z, w, ca, r, i, x, y, ke⟩, hx0, ⟨d1, d2, d3, d4⟩, began, st⟩]⟩ (some hs)) rfl rfl
          (fitU (by rw [slV_snoc]; rfl) rfl rfl rfl (by rw [slB_snoc]; rfl) (by rw [slN_snoc]; rfl) (.inl rfl) rfl) (ReV.ren [0, 1, 2] (.bool true) [bx W0 _, bx W0 (memU m'), C] rfl rfl rfl ⟨.inr rfl, .inr rfl, .inr (by rw [hC _ rfl]; rfl), trivial⟩ ⟨rfl, rfl⟩))
theorem StepB_ev {W0 : World} (s : WorkerS) (hs : List Nat) (e : EnvS) (m : MemS) (F : FuncId) (cap cap9 : List VV) (hcc : (cap = [] ∧ cap9 = []) ∨ (cap = [.ptr 2 0] ∧ cap9 = [.ptr 9 0])) (C : VB) (f : MadeF) (hF : MadeOk W0 F cap9 C (some hs) f)
    (a : Int) (q : List Int) (c : CallS) (hq : s.q = a :: q) (hw : s.work = none) (ha0 : 0 ≤ a) (hc : s.l[a.toNat]? = some c) (hck : checkCall c = true) (hk : 6 ≤ c.kind → hs ≠ []) (hl : hs.length ≤ 65535) (ht : s.told.length ≤ 1000)
    (hC : ∀ ρ : Nat → Nat, ρ 0 = 0 → rnB ρ C = C) (s2 : WorkerS) (hs2 : s2 = { s with q := q, at_ := a, began := m.steps, h := hOf f s.told c, work := some (doOf hs c (hOf f s.told c)) }) (hwf : (doOf hs c (hOf f s.told c)).wfb e.c = true) :
    Ev Tryz.prog W0 51 [.ptr 0 0, e.v 1, .fn F [] cap] [bx W0 (workU W0 s (some hs)), bx W0 (memU m), C]
      (fun v V' => v = .bool true ∧ V' = [bx W0 (workU W0 (s2.go e (doOf hs c (hOf f s.told c)) m).1 (some hs)), bx W0 (memU (s2.go e (doOf hs c (hOf f s.told c)) m).2), C]) := by
  have hB := begin_ev (W0 := W0) s hs e m F cap9 C hC (by rcases hcc with ⟨_, rfl⟩ | ⟨_, rfl⟩ <;> intro ρ hρ; · rfl
                                                          · show [VV.ptr (ρ 9) 0] = _; rw [hρ]) f hF a q c hq hw ha0 hc hck hk hl
  have hcap : ∀ ρ : Nat → Nat, ρ 9 = 2 → rnL ρ cap9 = cap := by
    intro ρ hρ
    rcases hcc with ⟨rfl, rfl⟩ | ⟨rfl, rfl⟩
    · rfl
    · show [VV.ptr (ρ 9) 0] = _; rw [hρ]
  refine Ev.outB 0 (U := workU W0 s (some hs)) rfl fun Q' hQ => ?_
  have hE : e.v 1 = .agg [.int .i64 e.c.threads, .int .i64 e.c.slots, .int .i64 e.c.chunks, .int .i64 e.c.words, .int .i64 e.c.gens, .int .i64 e.c.sparse, .int .i64 e.c.tries, .ptr 1 0, .int .i64 e.who] := rfl
  rw [workU_open, hE]
  obtain ⟨me, l, q0, at_, h0, work, began0, told⟩ := s
  obtain rfl : q0 = a :: q := hq
  obtain rfl : work = none := hw
  simp only at hc ht hs2 hB hQ hwf
  obtain ⟨an, rfl⟩ : ∃ an : Nat, a = an := ⟨a.toNat, by omega⟩
  rw [Int.toNat_natCast] at hc
  generalize hd0 : doOf hs c (hOf f told c) = d at *
  generalize hOf f told c = hx0 at *
  generalize m.steps = began at *
  subst hs2
  have hV : [workC ⟨me, l, (an : Int) :: q, at_, h0, none, began0, told⟩ (slV 9 l 3 4) (.ptr 5 0) (optP 9 (some hs)) (wkV 8 none) (slV 18 told 6 7), bx W0 (memU m), C, slB 9 CallS.cs l 4, slN l, bx W0 (queueU ((an : Int) :: q)), slB 18 ToldS.cs told 7, slN told, wkB W0 none, optB W0 shelfU (some hs)] =
      [.cells [.int .i64 me, slV 9 l 3 4, .ptr 5 0, .ptr 9 0, .int .i64 at_, .int .u64 h0, .nilIface, .int .i64 began0, slV 18 told 6 7], bx W0 (memU m), C, slB 9 CallS.cs l 4, slN l, bx W0 (queueU ((an : Int) :: q)), slB 18 ToldS.cs told 7, slN told, .emp, bx W0 (shelfU hs)] := rfl
  rw [hV]
  clear hV
  generalize g1 : slV 9 l 3 4 = x1 at *
  generalize g2 : slV 18 told 6 7 = x2 at *
  generalize g3 : slB 9 CallS.cs l 4 = x3 at *
  generalize g4 : slN l = x4 at *
  generalize g5 : bx W0 (queueU ((an : Int) :: q)) = x5 at *
  generalize g6 : slB 18 ToldS.cs told 7 = x6 at *
  generalize g7 : slN told = x7 at *
  generalize g8 : bx W0 (shelfU hs) = x8 at *
  generalize g9 : bx W0 (memU m) = x9 at *
  refine ev51 rfl fun o => ?_
  (cbv; repeat' (first | (refine ⟨by simp only [Ops.need_eq, needs]; first | rfl | decide, ?_⟩; try cbv) | (refine mt (fun h => ?_) (fun h => ?_) <;> first | (exfalso; simp [Ops.cmp_eq, Ops.not_eq, icmp] at h; done) | (exfalso; simp [Ops.cmp_eq, icmp] at h; omega) | (try cbv))))
  subst g1 g2 g3 g4 g5 g6 g7 g8 g9
  refine Ops.call _ [0, 3, 4, 5, 6, 7, 8, 9, 1, 2] hB ?_ rfl rfl (fitW rfl rfl rfl rfl rfl rfl (.inl rfl) rfl rfl (.inr (by rw [hC _ rfl]; rfl))) ?_
  · show _ = [_, _, VV.fn F (rnL _ []) (rnL _ cap9)]
    rw [hcap _ rfl]; rfl
  rintro v V' ⟨rfl, rfl⟩
  have r0 : ∀ n, rho [0, 3, 4, 5, 6, 7, 8, 9, 1, 2] n 0 = 0 := fun _ => rfl
  have r1 : ∀ n, rho [0, 3, 4, 5, 6, 7, 8, 9, 1, 2] n 1 = 3 := fun _ => rfl
  have r2 : ∀ n, rho [0, 3, 4, 5, 6, 7, 8, 9, 1, 2] n 2 = 4 := fun _ => rfl
  have r3 : ∀ n, rho [0, 3, 4, 5, 6, 7, 8, 9, 1, 2] n 3 = 5 := fun _ => rfl
  have r4 : ∀ n, rho [0, 3, 4, 5, 6, 7, 8, 9, 1, 2] n 4 = 6 := fun _ => rfl
  have r5 : ∀ n, rho [0, 3, 4, 5, 6, 7, 8, 9, 1, 2] n 5 = 7 := fun _ => rfl
  have r7 : ∀ n, rho [0, 3, 4, 5, 6, 7, 8, 9, 1, 2] n 7 = 9 := fun _ => rfl
  simp only [layB, workX, lset, lapp, List.map_nil, List.map_cons, workC_rn, slV_rn, slB_rn _ _ CallS.rn_cs, slB_rn _ _ ToldS.rn_cs, slN_rn, wkV_rn, wkB_rn, rnB_bx, rnB_optB, rn_optP, rnB_emp, r1, r2, r3, r4, r5, r7, rn_ptr, hC _ (r0 _)]
  have hlt : an < l.length := (List.getElem?_eq_some_iff.1 hc).1
  obtain ⟨c0, cs, rfl⟩ : ∃ c0 cs, l = c0 :: cs := by
    cases l with
    | nil => simp at hlt
    | cons x t => exact ⟨x, t, rfl⟩
  have hget : ((c0 :: cs).map CallS.cs)[an]? = some c.cs := by rw [List.getElem?_map, hc]; rfl
  have hX : ∀ ρ, ((c0 :: cs).map CallS.cs).map (rnL ρ) = (c0 :: cs).map CallS.cs := fun ρ => by simp [CallS.rn_cs]
  rw [show slV 9 (c0 :: cs) 3 4 = .sl 3 9 0 (c0 :: cs).length (.v 4) from rfl, show slB 9 CallS.cs (c0 :: cs) 4 = .arr 9 ((c0 :: cs).map CallS.cs) (.v 4) from rfl, show slN (c0 :: cs) = .num from rfl]
  simp only [workC, optP, optB]
  generalize hxs : (c0 :: cs).map CallS.cs = xs at *
  generalize hn : (c0 :: cs).length = n at *
  have han : (an : Int) < n := by omega
  generalize hT : slV 18 told 6 7 = b1 at *
  generalize hT2 : slB 18 ToldS.cs told 7 = b2 at *
  generalize hT3 : slN told = b3 at *
  generalize hS : bx W0 (shelfU hs) = b5 at *
  generalize hM : bx W0 (memU m) = M at *
  generalize hP : bx W0 (queueU q) = b6 at *
  obtain ⟨k, z, w, ca, r, i, x, y, ke⟩ := c
  simp only [CallS.cs] at hget
  generalize hG : WorkerS.go _ e d m = G at hQ
  cases d with
  | act a =>
    have hA := Act_ev (W0 := W0) m e a (awf_of hwf)
    generalize hst : a.step e m = R at *
    obtain ⟨b, a', m'⟩ := R
    simp only [wkV, wkB] at *
    rw [hM] at hA
    generalize hW : bx W0 (actU W0 a) = W at *
    generalize hW2 : bx W0 (actU W0 a') = W' at *
    generalize hM2 : bx W0 (memU m') = M' at *
    (cbv; repeat' (first | (refine ⟨by simp only [Ops.need_eq, needs]; first | rfl | decide, ?_⟩; try cbv) | (refine mt (fun h => ?_) (fun h => ?_) <;> first | (exfalso; simp [Ops.cmp_eq, Ops.not_eq, icmp] at h; done) | (exfalso; simp [Ops.cmp_eq, icmp] at h; omega) | (try cbv))))
    refine Ops.call _ [1, 11] hA rfl rfl rfl ⟨.inr (by rw [← hM]; rfl), .inr (by rw [← hW]; rfl), trivial⟩ ?_
    rintro v V' ⟨rfl, rfl⟩
    simp only [layB, lset, lapp, List.map_nil, List.map_cons, ← hM2, ← hW2, rnB_bx, rn, rnL]
    rw [hM2, hW2]
    cases b with
    | false =>
      obtain rfl : (⟨me, c0 :: cs, q, an, hx0, some (.act a'), began, told⟩, m') = G := by rw [← hG]; simp [WorkerS.go, DoS.step, hst]
      (cbv; repeat' (first | (refine ⟨by simp only [Ops.need_eq, needs]; first | rfl | decide, ?_⟩; try cbv) | (refine mt (fun h => ?_) (fun h => ?_) <;> first | (exfalso; simp [Ops.cmp_eq, Ops.not_eq, icmp] at h; done) | (exfalso; simp [Ops.cmp_eq, icmp] at h; omega) | (try cbv))))
      subst hT hT2 hT3 hP hS hM2 hW2 hxs hn
      refine hQ _ _ (ReV.shut 0 [3, 4, 5, 6, 7, 11, 9] (workU W0 ⟨me, c0 :: cs, q, an, hx0, some (.act a'), began, told⟩ (some hs)) rfl rfl (fitU rfl rfl rfl rfl rfl rfl (.inr rfl) rfl) (ReV.ren [0, 1, 2] (.bool true) [bx W0 _, bx W0 (memU m'), C] rfl rfl rfl ⟨.inr rfl, .inr rfl, .inr (by rw [hC _ rfl]; rfl), trivial⟩ ⟨rfl, rfl⟩))
    | true =>
      obtain rfl : (⟨me, c0 :: cs, q, an, hx0, none, began, told ++ [⟨me, an, ⟨k, z, w, ca, r, i, x, y, ke⟩, hx0, a'.out, began, m'.steps⟩]⟩, m') = G := by rw [← hG]; simp [WorkerS.go, DoS.step, DoS.done, hst, hc]
      have hD := actDone_ev (W0 := W0) a'
      have hNow := eNow_ev (W0 := W0) m' e
      rw [hW2] at hD
      rw [hM2] at hNow
      generalize hd : a'.out = dn at *
      obtain ⟨d1, d2, d3, d4⟩ := dn
      simp only [doneV] at hD
      generalize m'.steps = st at *
      (cbv; repeat' (first | (refine ⟨by simp only [Ops.need_eq, needs]; first | rfl | decide, ?_⟩; try cbv) | (refine mt (fun h => ?_) (fun h => ?_) <;> first | (exfalso; simp [Ops.cmp_eq, Ops.not_eq, icmp] at h; done) | (exfalso; simp [Ops.cmp_eq, icmp] at h; omega) | (try cbv))))
      refine ⟨by simp only [Ops.inb_eq]; exact decide_eq_true ⟨by first | exact (ha0) | (simp only [Int.ofNat_eq_natCast]; exact (ha0)), by first | exact (han) | (simp only [Int.ofNat_eq_natCast]; exact (han))⟩, ?_⟩
      simp only [Int.toNat_natCast, Int.ofNat_eq_natCast, Ops.get_eq, Ops.nadd_eq, Ops.nat_eq, Nat.zero_add, hget]
      (cbv; repeat' (first | (refine ⟨by simp only [Ops.need_eq, needs]; first | rfl | decide, ?_⟩; try cbv) | (refine mt (fun h => ?_) (fun h => ?_) <;> first | (exfalso; simp [Ops.cmp_eq, Ops.not_eq, icmp] at h; done) | (exfalso; simp [Ops.cmp_eq, icmp] at h; omega) | (try cbv))))
      refine Ops.call _ [11] hD rfl rfl rfl ⟨.inr (by rw [← hW2]; rfl), trivial⟩ ?_
      rintro v V' ⟨rfl, rfl⟩
      simp only [layB, lset, lapp, List.map_nil, List.map_cons, ← hW2, rnB_bx, rn, rnL]
      rw [hW2]
      refine ⟨by cbv; simp only [Ops.get_eq, hget]; exact ⟨rfl, trivial⟩, ?_⟩
      (cbv; repeat' (first | (refine ⟨by simp only [Ops.need_eq, needs]; first | rfl | decide, ?_⟩; try cbv) | (refine mt (fun h => ?_) (fun h => ?_) <;> first | (exfalso; simp [Ops.cmp_eq, Ops.not_eq, icmp] at h; done) | (exfalso; simp [Ops.cmp_eq, icmp] at h; omega) | (try cbv))))
      refine Ops.call _ [1] hNow rfl rfl rfl ⟨.inr (by rw [← hM2]; rfl), trivial⟩ ?_
      rintro v V' ⟨rfl, rfl⟩
      simp only [layB, lset, lapp, List.map_nil, List.map_cons, ← hM2, rnB_bx, rn, rnL]
      rw [hM2]
      cases told with
      | nil =>
        obtain rfl : VV.nilSl = b1 := hT
        obtain rfl : VB.emp = b2 := hT2
        obtain rfl : VB.emp = b3 := hT3
        refine ⟨by cbv; simp only [Ops.get_eq, hget]; exact ⟨rfl, trivial⟩, ?_⟩
        (cbv; repeat' (first | (refine ⟨by simp only [Ops.need_eq, needs]; first | rfl | decide, ?_⟩; try cbv) | (refine mt (fun _ => ?_) (fun _ => ?_) <;> (try cbv))))
        refine ⟨by simp only [Ops.get_eq, hget]; exact ⟨rfl, trivial⟩, ?_⟩
        refine ⟨by simp [o.ll_eq, o.sub_eq], by simp [o.all1_eq, o.sub_eq, allOne, VV.one], ⟨by simp [o.nle_eq], by simp [o.nle_eq, o.nmul_eq]⟩, .inr fun _ => ?_⟩
        simp only [o.cat_eq, o.sub_eq, o.nadd_eq, o.nmul_eq, List.drop_zero, List.take_succ_cons, List.take_zero]
        refine ⟨by cbv; simp only [Ops.get_eq, hget]; exact ⟨rfl, trivial⟩, ?_⟩
        (cbv; repeat' (first | (refine ⟨by simp only [Ops.need_eq, needs]; first | rfl | decide, ?_⟩; try cbv) | (refine mt (fun _ => ?_) (fun _ => ?_) <;> (try cbv))))
        subst hP hS hM2 hxs hn
        refine hQ _ _ (ReV.shut 0 [3, 4, 5, 14, 13, 11, 9] (workU W0 ⟨me, c0 :: cs, q, an, hx0, none, began, [] ++ [⟨me, an, ⟨k, z, w, ca, r, i, x, y, ke⟩, hx0, ⟨d1, d2, d3, d4⟩, began, st⟩]⟩ (some hs)) rfl rfl
          (fitU (by rw [slV_snoc]; rfl) rfl rfl rfl (by rw [slB_snoc]; rfl) (by rw [slN_snoc]; rfl) (.inl rfl) rfl) (ReV.ren [0, 1, 2] (.bool true) [bx W0 _, bx W0 (memU m'), C] rfl rfl rfl ⟨.inr rfl, .inr rfl, .inr (by rw [hC _ rfl]; rfl), trivial⟩ ⟨rfl, rfl⟩))
      | cons t0 ts =>
        rw [show slV 18 (t0 :: ts) 6 7 = .sl 6 18 0 (t0 :: ts).length (.v 7) from rfl] at hT
        rw [show slB 18 ToldS.cs (t0 :: ts) 7 = .arr 18 ((t0 :: ts).map ToldS.cs) (.v 7) from rfl] at hT2
        obtain rfl : VB.num = b3 := hT3
        generalize hn2 : (t0 :: ts).length = n2 at *
        generalize hys : (t0 :: ts).map ToldS.cs = ys at *
        subst hT hT2
        refine ⟨by cbv; simp only [Ops.get_eq, hget]; exact ⟨rfl, trivial⟩, ?_⟩
        (cbv; repeat' (first | (refine ⟨by simp only [Ops.need_eq, needs]; first | rfl | decide, ?_⟩; try cbv) | (refine mt (fun _ => ?_) (fun _ => ?_) <;> (try cbv))))
        refine ⟨by simp only [Ops.get_eq, hget]; exact ⟨rfl, trivial⟩, ?_⟩
        refine ⟨by simp [o.ll_eq, o.sub_eq], by simp [o.all1_eq, o.sub_eq, allOne, VV.one], ⟨by simp [o.ll_eq, ← hys, ← hn2], by simp [o.nle_eq, o.nmul_eq, o.nadd_eq]; omega⟩, ?_⟩
        simp only [o.cat_eq, o.sub_eq, o.nadd_eq, o.nmul_eq, List.drop_zero, List.take_succ_cons, List.take_zero]
        refine ⟨by cbv; simp only [Ops.get_eq, hget]; exact ⟨rfl, trivial⟩, ?_⟩
        (cbv; repeat' (first | (refine ⟨by simp only [Ops.need_eq, needs]; first | rfl | decide, ?_⟩; try cbv) | (refine mt (fun _ => ?_) (fun _ => ?_) <;> (try cbv))))
        subst hn2 hys hP hS hM2 hxs hn
        refine hQ _ _ (ReV.shut 0 [3, 4, 5, 14, 13, 11, 9] (workU W0 ⟨me, c0 :: cs, q, an, hx0, none, began, (t0 :: ts) ++ [⟨me, an, ⟨k, z, w, ca, r, i, x, y, ke⟩, hx0, ⟨d1, d2, d3, d4⟩, began, st⟩]⟩ (some hs)) rfl rfl
          (fitU (by rw [slV_snoc]; rfl) rfl rfl rfl (by rw [slB_snoc]; rfl) (by rw [slN_snoc]; rfl) (.inl rfl) rfl) (ReV.ren [0, 1, 2] (.bool true) [bx W0 _, bx W0 (memU m'), C] rfl rfl rfl ⟨.inr rfl, .inr rfl, .inr (by rw [hC _ rfl]; rfl), trivial⟩ ⟨rfl, rfl⟩))
  | list a =>
    have hA := ListStep_ev (W0 := W0) m e a (lwf_of hwf)
    generalize hst : a.step e m = R at *
    obtain ⟨b, a', m'⟩ := R
    simp only [wkV, wkB] at *
    rw [hM] at hA
    generalize hW : bx W0 (listU W0 a) = W at *
    generalize hW2 : bx W0 (listU W0 a') = W' at *
    generalize hM2 : bx W0 (memU m') = M' at *
    (cbv; repeat' (first | (refine ⟨by simp only [Ops.need_eq, needs]; first | rfl | decide, ?_⟩; try cbv) | (refine mt (fun h => ?_) (fun h => ?_) <;> first | (exfalso; simp [Ops.cmp_eq, Ops.not_eq, icmp] at h; done) | (exfalso; simp [Ops.cmp_eq, icmp] at h; omega) | (try cbv))))
    refine Ops.call _ [1, 11] hA rfl rfl rfl ⟨.inr (by rw [← hM]; rfl), .inr (by rw [← hW]; rfl), trivial⟩ ?_
    rintro v V' ⟨rfl, rfl⟩
    simp only [layB, lset, lapp, List.map_nil, List.map_cons, ← hM2, ← hW2, rnB_bx, rn, rnL]
    rw [hM2, hW2]
    cases b with
    | false =>
      obtain rfl : (⟨me, c0 :: cs, q, an, hx0, some (.list a'), began, told⟩, m') = G := by rw [← hG]; simp [WorkerS.go, DoS.step, hst]
      (cbv; repeat' (first | (refine ⟨by simp only [Ops.need_eq, needs]; first | rfl | decide, ?_⟩; try cbv) | (refine mt (fun h => ?_) (fun h => ?_) <;> first | (exfalso; simp [Ops.cmp_eq, Ops.not_eq, icmp] at h; done) | (exfalso; simp [Ops.cmp_eq, icmp] at h; omega) | (try cbv))))
      subst hT hT2 hT3 hP hS hM2 hW2 hxs hn
      refine hQ _ _ (ReV.shut 0 [3, 4, 5, 6, 7, 11, 9] (workU W0 ⟨me, c0 :: cs, q, an, hx0, some (.list a'), began, told⟩ (some hs)) rfl rfl (fitU rfl rfl rfl rfl rfl rfl (.inr rfl) rfl) (ReV.ren [0, 1, 2] (.bool true) [bx W0 _, bx W0 (memU m'), C] rfl rfl rfl ⟨.inr rfl, .inr rfl, .inr (by rw [hC _ rfl]; rfl), trivial⟩ ⟨rfl, rfl⟩))
    | true =>
      obtain rfl : (⟨me, c0 :: cs, q, an, hx0, none, began, told ++ [⟨me, an, ⟨k, z, w, ca, r, i, x, y, ke⟩, hx0, a'.out, began, m'.steps⟩]⟩, m') = G := by rw [← hG]; simp [WorkerS.go, DoS.step, DoS.done, hst, hc]
      have hD := listDone_ev (W0 := W0) a'
      have hNow := eNow_ev (W0 := W0) m' e
      rw [hW2] at hD
      rw [hM2] at hNow
      generalize hd : a'.out = dn at *
      obtain ⟨d1, d2, d3, d4⟩ := dn
      simp only [doneV] at hD
      generalize m'.steps = st at *
      (cbv; repeat' (first | (refine ⟨by simp only [Ops.need_eq, needs]; first | rfl | decide, ?_⟩; try cbv) | (refine mt (fun h => ?_) (fun h => ?_) <;> first | (exfalso; simp [Ops.cmp_eq, Ops.not_eq, icmp] at h; done) | (exfalso; simp [Ops.cmp_eq, icmp] at h; omega) | (try cbv))))
      refine ⟨by simp only [Ops.inb_eq]; exact decide_eq_true ⟨by first | exact (ha0) | (simp only [Int.ofNat_eq_natCast]; exact (ha0)), by first | exact (han) | (simp only [Int.ofNat_eq_natCast]; exact (han))⟩, ?_⟩
      simp only [Int.toNat_natCast, Int.ofNat_eq_natCast, Ops.get_eq, Ops.nadd_eq, Ops.nat_eq, Nat.zero_add, hget]
      (cbv; repeat' (first | (refine ⟨by simp only [Ops.need_eq, needs]; first | rfl | decide, ?_⟩; try cbv) | (refine mt (fun h => ?_) (fun h => ?_) <;> first | (exfalso; simp [Ops.cmp_eq, Ops.not_eq, icmp] at h; done) | (exfalso; simp [Ops.cmp_eq, icmp] at h; omega) | (try cbv))))
      refine Ops.call _ [11] hD rfl rfl rfl ⟨.inr (by rw [← hW2]; rfl), trivial⟩ ?_
      rintro v V' ⟨rfl, rfl⟩
      simp only [layB, lset, lapp, List.map_nil, List.map_cons, ← hW2, rnB_bx, rn, rnL]
      rw [hW2]
      refine ⟨by cbv; simp only [Ops.get_eq, hget]; exact ⟨rfl, trivial⟩, ?_⟩
      (cbv; repeat' (first | (refine ⟨by simp only [Ops.need_eq, needs]; first | rfl | decide, ?_⟩; try cbv) | (refine mt (fun h => ?_) (fun h => ?_) <;> first | (exfalso; simp [Ops.cmp_eq, Ops.not_eq, icmp] at h; done) | (exfalso; simp [Ops.cmp_eq, icmp] at h; omega) | (try cbv))))
      refine Ops.call _ [1] hNow rfl rfl rfl ⟨.inr (by rw [← hM2]; rfl), trivial⟩ ?_
      rintro v V' ⟨rfl, rfl⟩
      simp only [layB, lset, lapp, List.map_nil, List.map_cons, ← hM2, rnB_bx, rn, rnL]
      rw [hM2]
      cases told with
      | nil =>
        obtain rfl : VV.nilSl = b1 := hT
        obtain rfl : VB.emp = b2 := hT2
        obtain rfl : VB.emp = b3 := hT3
        refine ⟨by cbv; simp only [Ops.get_eq, hget]; exact ⟨rfl, trivial⟩, ?_⟩
        (cbv; repeat' (first | (refine ⟨by simp only [Ops.need_eq, needs]; first | rfl | decide, ?_⟩; try cbv) | (refine mt (fun _ => ?_) (fun _ => ?_) <;> (try cbv))))
        refine ⟨by simp only [Ops.get_eq, hget]; exact ⟨rfl, trivial⟩, ?_⟩
        refine ⟨by simp [o.ll_eq, o.sub_eq], by simp [o.all1_eq, o.sub_eq, allOne, VV.one], ⟨by simp [o.nle_eq], by simp [o.nle_eq, o.nmul_eq]⟩, .inr fun _ => ?_⟩
        simp only [o.cat_eq, o.sub_eq, o.nadd_eq, o.nmul_eq, List.drop_zero, List.take_succ_cons, List.take_zero]
        refine ⟨by cbv; simp only [Ops.get_eq, hget]; exact ⟨rfl, trivial⟩, ?_⟩
        (cbv; repeat' (first | (refine ⟨by simp only [Ops.need_eq, needs]; first | rfl | decide, ?_⟩; try cbv) | (refine mt (fun _ => ?_) (fun _ => ?_) <;> (try cbv))))
        subst hP hS hM2 hxs hn
        refine hQ _ _ (ReV.shut 0 [3, 4, 5, 14, 13, 11, 9] (workU W0 ⟨me, c0 :: cs, q, an, hx0, none, began, [] ++ [⟨me, an, ⟨k, z, w, ca, r, i, x, y, ke⟩, hx0, ⟨d1, d2, d3, d4⟩, began, st⟩]⟩ (some hs)) rfl rfl
          (fitU (by rw [slV_snoc]; rfl) rfl rfl rfl (by rw [slB_snoc]; rfl) (by rw [slN_snoc]; rfl) (.inl rfl) rfl) (ReV.ren [0, 1, 2] (.bool true) [bx W0 _, bx W0 (memU m'), C] rfl rfl rfl ⟨.inr rfl, .inr rfl, .inr (by rw [hC _ rfl]; rfl), trivial⟩ ⟨rfl, rfl⟩))
      | cons t0 ts =>
        rw [show slV 18 (t0 :: ts) 6 7 = .sl 6 18 0 (t0 :: ts).length (.v 7) from rfl] at hT
        rw [show slB 18 ToldS.cs (t0 :: ts) 7 = .arr 18 ((t0 :: ts).map ToldS.cs) (.v 7) from rfl] at hT2
        obtain rfl : VB.num = b3 := hT3
        generalize hn2 : (t0 :: ts).length = n2 at *
        generalize hys : (t0 :: ts).map ToldS.cs = ys at *
        subst hT hT2
        refine ⟨by cbv; simp only [Ops.get_eq, hget]; exact ⟨rfl, trivial⟩, ?_⟩
        (cbv; repeat' (first | (refine ⟨by simp only [Ops.need_eq, needs]; first | rfl | decide, ?_⟩; try cbv) | (refine mt (fun _ => ?_) (fun _ => ?_) <;> (try cbv))))
        refine ⟨by simp only [Ops.get_eq, hget]; exact ⟨rfl, trivial⟩, ?_⟩
        refine ⟨by simp [o.ll_eq, o.sub_eq], by simp [o.all1_eq, o.sub_eq, allOne, VV.one], ⟨by simp [o.ll_eq, ← hys, ← hn2], by simp [o.nle_eq, o.nmul_eq, o.nadd_eq]; omega⟩, ?_⟩
        simp only [o.cat_eq, o.sub_eq, o.nadd_eq, o.nmul_eq, List.drop_zero, List.take_succ_cons, List.take_zero]
        refine ⟨by cbv; simp only [Ops.get_eq, hget]; exact ⟨rfl, trivial⟩, ?_⟩
        (cbv; repeat' (first | (refine ⟨by simp only [Ops.need_eq, needs]; first | rfl | decide, ?_⟩; try cbv) | (refine mt (fun _ => ?_) (fun _ => ?_) <;> (try cbv))))
        subst hn2 hys hP hS hM2 hxs hn
        refine hQ _ _ (ReV.shut 0 [3, 4, 5, 14, 13, 11, 9] (workU W0 ⟨me, c0 :: cs, q, an, hx0, none, began, (t0 :: ts) ++ [⟨me, an, ⟨k, z, w, ca, r, i, x, y, ke⟩, hx0, ⟨d1, d2, d3, d4⟩, began, st⟩]⟩ (some hs)) rfl rfl
          (fitU (by rw [slV_snoc]; rfl) rfl rfl rfl (by rw [slB_snoc]; rfl) (by rw [slN_snoc]; rfl) (.inl rfl) rfl) (ReV.ren [0, 1, 2] (.bool true) [bx W0 _, bx W0 (memU m'), C] rfl rfl rfl ⟨.inr rfl, .inr rfl, .inr (by rw [hC _ rfl]; rfl), trivial⟩ ⟨rfl, rfl⟩))
end Go.Proofs.YtglghdjpkecngaaGreat

/- worker: a step, whatever there is to do. -/
namespace Go.Proofs.YtglghdjpkecngaaGreat
set_option linter.unusedVariables false
set_option linter.unusedSimpArgs false
open Go Go.SL Go.FL
set_option maxRecDepth 100000
theorem stepE_ev {W0 : World} (s : WorkerS) (hs : Option (List Nat)) (e : EnvS) (m : MemS) (F : FuncId) (cap cap9 : List VV) (hcc : (cap = [] ∧ cap9 = []) ∨ (cap = [.ptr 2 0] ∧ cap9 = [.ptr 9 0])) (C : VB) (hC : ∀ ρ : Nat → Nat, ρ 0 = 0 → rnB ρ C = C) (hq : s.q = []) (hw : s.work = none) :
    Ev Tryz.prog W0 51 [.ptr 0 0, e.v 1, .fn F [] cap] [bx W0 (workU W0 s hs), bx W0 (memU m), C]
      (fun v V' => v = .bool false ∧ V' = [bx W0 (workU W0 s hs), bx W0 (memU m), C]) := by
  have hB := begin0_ev (W0 := W0) s hs e (.fn F [] cap9) (bx W0 (memU m)) C (fun ρ => rnB_bx W0 _ ρ) hC hq
  have hcap : ∀ ρ : Nat → Nat, ρ 9 = 2 → rnL ρ cap9 = cap := by
    intro ρ hρ
    rcases hcc with ⟨rfl, rfl⟩ | ⟨rfl, rfl⟩
    · rfl
    · show [VV.ptr (ρ 9) 0] = _; rw [hρ]
  refine Ev.outB 0 (U := workU W0 s hs) rfl fun Q' hQ => ?_
  have hE : e.v 1 = .agg [.int .i64 e.c.threads, .int .i64 e.c.slots, .int .i64 e.c.chunks, .int .i64 e.c.words, .int .i64 e.c.gens, .int .i64 e.c.sparse, .int .i64 e.c.tries, .ptr 1 0, .int .i64 e.who] := rfl
  rw [workU_open, hE]
  obtain ⟨me, l, q, at_, h0, work, began0, told⟩ := s
  obtain rfl : q = [] := hq
  obtain rfl : work = none := hw
  have hV : [workC ⟨me, l, [], at_, h0, none, began0, told⟩ (slV 9 l 3 4) (.ptr 5 0) (optP 9 hs) (wkV 8 none) (slV 18 told 6 7), bx W0 (memU m), C, slB 9 CallS.cs l 4, slN l, bx W0 (queueU []), slB 18 ToldS.cs told 7, slN told, wkB W0 none, optB W0 shelfU hs] =
      [.cells [.int .i64 me, slV 9 l 3 4, .ptr 5 0, optP 9 hs, .int .i64 at_, .int .u64 h0, .nilIface, .int .i64 began0, slV 18 told 6 7], bx W0 (memU m), C, slB 9 CallS.cs l 4, slN l, bx W0 (queueU []), slB 18 ToldS.cs told 7, slN told, .emp, optB W0 shelfU hs] := rfl
  rw [hV]
  clear hV
  generalize g1 : slV 9 l 3 4 = x1 at *
  generalize g2 : slV 18 told 6 7 = x2 at *
  generalize g3 : slB 9 CallS.cs l 4 = x3 at *
  generalize g4 : slN l = x4 at *
  generalize g5 : bx W0 (queueU []) = x5 at *
  generalize g6 : slB 18 ToldS.cs told 7 = x6 at *
  generalize g7 : slN told = x7 at *
  generalize g8 : optB W0 shelfU hs = x8 at *
  generalize g9 : bx W0 (memU m) = x9 at *
  generalize g10 : optP 9 hs = x10 at *
  refine ev51 rfl fun o => ?_
  (cbv; repeat' (first | (refine ⟨by simp only [Ops.need_eq, needs]; first | rfl | decide, ?_⟩; try cbv) | (refine mt (fun h => ?_) (fun h => ?_) <;> first | (exfalso; simp [Ops.cmp_eq, Ops.not_eq, icmp] at h; done) | (exfalso; simp [Ops.cmp_eq, icmp] at h; omega) | (try cbv))))
  subst g1 g2 g3 g4 g5 g6 g7 g8 g9 g10
  refine Ops.call _ [0, 3, 4, 5, 6, 7, 8, 9, 1, 2] hB ?_ rfl rfl (fitW rfl rfl rfl rfl rfl rfl (.inl rfl) rfl rfl (.inr (by rw [hC _ rfl]; rfl))) ?_
  · show _ = [_, _, VV.fn F (rnL _ []) (rnL _ cap9)]
    rw [hcap _ rfl]; rfl
  rintro v V' ⟨rfl, rfl⟩
  have r0 : ∀ n, rho [0, 3, 4, 5, 6, 7, 8, 9, 1, 2] n 0 = 0 := fun _ => rfl
  have r1 : ∀ n, rho [0, 3, 4, 5, 6, 7, 8, 9, 1, 2] n 1 = 3 := fun _ => rfl
  have r2 : ∀ n, rho [0, 3, 4, 5, 6, 7, 8, 9, 1, 2] n 2 = 4 := fun _ => rfl
  have r3 : ∀ n, rho [0, 3, 4, 5, 6, 7, 8, 9, 1, 2] n 3 = 5 := fun _ => rfl
  have r4 : ∀ n, rho [0, 3, 4, 5, 6, 7, 8, 9, 1, 2] n 4 = 6 := fun _ => rfl
  have r5 : ∀ n, rho [0, 3, 4, 5, 6, 7, 8, 9, 1, 2] n 5 = 7 := fun _ => rfl
  have r7 : ∀ n, rho [0, 3, 4, 5, 6, 7, 8, 9, 1, 2] n 7 = 9 := fun _ => rfl
  simp only [layB, workU, List.cons_append, List.nil_append, lset, lapp, List.map_nil, List.map_cons, workC_rn, slV_rn, slB_rn _ _ CallS.rn_cs, slB_rn _ _ ToldS.rn_cs, slN_rn, wkV_rn, wkB, rnB_bx, rnB_optB, rn_optP, rnB_emp, r1, r2, r3, r4, r5, r7, rn_ptr, hC _ (r0 _)]
  simp only [workC, wkV]
  generalize g1 : slV 9 l 3 4 = x1 at *
  generalize g2 : slV 18 told 6 7 = x2 at *
  generalize g3 : slB 9 CallS.cs l 4 = x3 at *
  generalize g4 : slN l = x4 at *
  generalize g5 : bx W0 (queueU []) = x5 at *
  generalize g6 : slB 18 ToldS.cs told 7 = x6 at *
  generalize g7 : slN told = x7 at *
  generalize g8 : optB W0 shelfU hs = x8 at *
  generalize g9 : bx W0 (memU m) = x9 at *
  generalize g10 : optP 9 hs = x10 at *
  (cbv; repeat' (first | (refine ⟨by simp only [Ops.need_eq, needs]; first | rfl | decide, ?_⟩; try cbv) | (refine mt (fun h => ?_) (fun h => ?_) <;> first | (exfalso; simp [Ops.cmp_eq, Ops.not_eq, icmp] at h; done) | (exfalso; simp [Ops.cmp_eq, icmp] at h; omega) | (try cbv))))
  subst g1 g2 g3 g4 g5 g6 g7 g8 g9 g10
  refine hQ _ _ (ReV.shut 0 [3, 4, 5, 6, 7, 8, 9] (workU W0 ⟨me, l, [], at_, h0, none, began0, told⟩ hs) rfl rfl (fitU rfl rfl rfl rfl rfl rfl (.inl rfl) rfl) (ReV.ren [0, 1, 2] (.bool false) [bx W0 _, bx W0 (memU m), C] rfl rfl rfl ⟨.inr rfl, .inr rfl, .inr (by rw [hC _ rfl]; rfl), trivial⟩ ⟨rfl, rfl⟩))
structure WOk (hs : List Nat) (s : WorkerS) : Prop where
  l : ∀ c ∈ s.l, badCall hs.length c = false
  q : ∀ a ∈ s.q, 0 ≤ a ∧ a < s.l.length
  a : s.work ≠ none → 0 ≤ s.at_ ∧ s.at_ < s.l.length
  n : s.told.length + s.q.length + (if s.work.isSome then 1 else 0) ≤ 1000
theorem WOk.go {hs : List Nat} {s : WorkerS} (h : WOk hs s) (hw : s.work.isSome = true) (e : EnvS) (d : DoS) (m : MemS) : WOk hs (s.go e d m).1 := by
  obtain ⟨h1, h2, h3, h4⟩ := h
  rw [if_pos hw] at h4
  have h3 := h3 (by intro h; rw [h] at hw; cases hw)
  unfold WorkerS.go
  by_cases hd : (d.step e m).1 = true
  · simp only [hd, if_true]
    refine ⟨h1, h2, fun h => absurd rfl h, ?_⟩
    simp only [List.length_append, List.length_cons, List.length_nil, Option.isSome_none, Bool.false_eq_true, if_false]
    omega
  · simp only [if_neg hd]
    refine ⟨h1, h2, fun _ => h3, ?_⟩
    simp only [Option.isSome_some, if_true]
    omega
theorem WOk.step {hs : List Nat} {s : WorkerS} (h : WOk hs s) (e : EnvS) (f : MadeF) (m : MemS) : WOk hs (s.step e hs f m).2.1 := by
  unfold WorkerS.step
  cases hw : s.work with
  | some d =>
    simp only [WorkerS.next, hw]
    exact h.go (by rw [hw]; rfl) e d m
  | none =>
    simp only [WorkerS.next, hw]
    cases hq : s.q with
    | nil => simp only [WorkerS.begin, hq]; exact h
    | cons a q =>
      simp only [WorkerS.begin, hq]
      cases hc : s.l[a.toNat]? with
      | none => exact h
      | some c =>
        have ha := h.q a (by rw [hq]; simp)
        have hk : WOk hs { s with q := q, at_ := a, began := m.steps, h := hOf f s.told c, work := some (doOf hs c (hOf f s.told c)) } := by
          refine ⟨h.l, fun b hb => h.q b (by rw [hq]; simp [hb]), fun _ => ha, ?_⟩
          have := h.n
          rw [hq, hw] at this
          simp at this ⊢
          omega
        exact hk.go rfl e _ m
theorem WOk.new {hs : List Nat} {me : Int} {l : List CallS} (h : mayWork me l hs.length = true) : WOk hs (newWorker me l) := by
  unfold mayWork at h
  simp only [Bool.and_eq_true, decide_eq_true_eq, Bool.not_eq_true'] at h
  refine ⟨fun c hc => ?_, fun a ha => ?_, fun h => absurd rfl h, ?_⟩
  · have := List.any_eq_false.1 h.2 c hc
    simpa using this
  · simp only [newWorker, List.mem_map, List.mem_range] at ha
    obtain ⟨i, hi, rfl⟩ := ha
    exact ⟨by omega, by show (i : Int) < (l.length : Nat); omega⟩
  · simp only [newWorker, List.length_nil, List.length_map, List.length_range, Option.isSome_none, Bool.false_eq_true, if_false]
    omega
theorem badCall_no {n : Nat} {c : CallS} (h : badCall n c = false) : checkCall c = true ∧ (6 ≤ c.kind → n ≠ 0) := by
  unfold badCall at h
  rw [Bool.or_eq_false_iff] at h
  obtain ⟨h1, h2⟩ := h
  refine ⟨by simpa using h1, fun h3 h4 => ?_⟩
  simp [h3, h4] at h2
theorem doOf_wf (c : Cfg) (hs : List Nat) (x : CallS) (h : Nat) : (doOf hs x h).wfb c = true := by
  unfold doOf
  by_cases h6 : 6 ≤ x.kind
  · rw [if_pos h6]; rfl
  · rw [if_neg h6]; rfl
theorem Step_ev {W0 : World} (s : WorkerS) (hs : List Nat) (e : EnvS) (m : MemS) (F : FuncId) (cap cap9 : List VV) (hcc : (cap = [] ∧ cap9 = []) ∨ (cap = [.ptr 2 0] ∧ cap9 = [.ptr 9 0])) (C : VB) (f : MadeF) (hF : MadeOk W0 F cap9 C (some hs) f)
    (hl : hs.length ≤ 65535) (hC : ∀ ρ : Nat → Nat, ρ 0 = 0 → rnB ρ C = C) (hok : WOk hs s) (hwf : s.wfb e.c = true) :
    Ev Tryz.prog W0 51 [.ptr 0 0, e.v 1, .fn F [] cap] [bx W0 (workU W0 s (some hs)), bx W0 (memU m), C]
      (fun v V' => v = .bool (s.step e hs f m).1 ∧ V' = [bx W0 (workU W0 (s.step e hs f m).2.1 (some hs)), bx W0 (memU (s.step e hs f m).2.2), C]) := by
  cases hw : s.work with
  | some d =>
    have ha := hok.a (by rw [hw]; simp)
    have hlt : s.at_.toNat < s.l.length := by omega
    have hst : s.step e hs f m = (true, (s.go e d m).1, (s.go e d m).2) := by simp [WorkerS.step, WorkerS.next, hw]
    rw [hst]
    refine StepC_ev s hs e m F cap C d hw (by simpa [WorkerS.wfb, hw] using hwf) (s.l[s.at_.toNat]) ha.1 (List.getElem?_eq_getElem hlt) (by have := hok.n; omega) hC
  | none =>
    cases hq : s.q with
    | nil =>
      have hst : s.step e hs f m = (false, s, m) := by simp [WorkerS.step, WorkerS.next, WorkerS.begin, hw, hq]
      rw [hst]
      exact stepE_ev s (some hs) e m F cap cap9 hcc C hC hq hw
    | cons a q =>
      have ha := hok.q a (by rw [hq]; simp)
      have hlt : a.toNat < s.l.length := by omega
      have hc := List.getElem?_eq_getElem hlt
      have hb := badCall_no (hok.l _ (List.getElem_mem hlt))
      generalize s.l[a.toNat] = c at *
      have hst : s.step e hs f m = (true, (WorkerS.go { s with q := q, at_ := a, began := m.steps, h := hOf f s.told c, work := some (doOf hs c (hOf f s.told c)) } e (doOf hs c (hOf f s.told c)) m).1, (WorkerS.go { s with q := q, at_ := a, began := m.steps, h := hOf f s.told c, work := some (doOf hs c (hOf f s.told c)) } e (doOf hs c (hOf f s.told c)) m).2) := by
        simp [WorkerS.step, WorkerS.next, WorkerS.begin, hw, hq, hc]
      rw [hst]
      exact StepB_ev s hs e m F cap cap9 hcc C f hF a q c hq hw ha.1 hc hb.1 (fun h6 he => hb.2 h6 (by rw [he]; rfl)) hl (by have := hok.n; omega) hC _ rfl (doOf_wf _ _ _ _)
end Go.Proofs.YtglghdjpkecngaaGreat

/- worker: a thread with calls that may be. -/
namespace Go.Proofs.YtglghdjpkecngaaGreat
set_option linter.unusedVariables false
set_option linter.unusedSimpArgs false
open Go Go.SL Go.FL
set_option maxRecDepth 100000
structure ShelfAt (W0 : World) (sp : VV) (S : VB) (n : Nat) : Prop where
  p : ∀ ρ : Nat → Nat, ρ 0 = 0 → rn ρ sp = sp
  b : ∀ ρ, rnB ρ S = S
  e : Ev Tryz.prog W0 43 [sp] [S] (fun v V' => v = .int .i64 n ∧ V' = [S])
theorem bad_ev {W0 : World} {sp : VV} {S : VB} {N : Nat} (h : ShelfAt W0 sp S N) (c : CallS) : Ev Tryz.prog W0 77 [.agg c.cs, .ptr 1 0] [S, .cells [sp]] (fun v V' => v = .bool (badCall N c) ∧ V' = [S, .cells [sp]]) := by
  obtain ⟨h1, h2, h3⟩ := h
  refine Ev.out fun Q' hQ => ?_
  have hC := callCheck_ev (W0 := W0) c
  generalize hR : badCall N c = R at hQ
  unfold badCall at hR
  generalize checkCall c = g at *
  obtain ⟨k, z, w, a, r, i, x, y, ke⟩ := c
  simp only [CallS.cs] at *
  have fin : ∀ (v : VV) (X : List VB), v = .bool R → ReV W0 2 (fun v V' => v = .bool R ∧ V' = [S, .cells [sp]]) v ([S, .cells [sp]] ++ X) := by
    rintro v X rfl
    refine ReV.pre (U := [S, .cells [sp]]) (fun ρ hρ => ?_) (fun _ => rfl) ⟨rfl, rfl⟩
    have := hρ 0 (by simp)
    show [rnB ρ S, VB.cells [rn ρ sp]] = _
    rw [h2, h1 ρ this]
  refine ev77 rfl fun o => ?_
  (cbv; repeat' (first | (refine ⟨by simp only [Ops.need_eq, needs]; first | rfl | decide, ?_⟩; try cbv) | (refine mt (fun h => ?_) (fun h => ?_) <;> first | (exfalso; simp [Ops.cmp_eq, Ops.not_eq, icmp] at h; done) | (exfalso; simp [Ops.cmp_eq, icmp] at h; omega) | (try cbv))))
  refine Ops.call0 _ (hC) rfl ?_; rintro v V' ⟨rfl, rfl⟩; simp only [lapp, List.map_nil, rn, rnL]
  cases g with
  | false =>
    (cbv; repeat' (first | (refine ⟨by simp only [Ops.need_eq, needs]; first | rfl | decide, ?_⟩; try cbv) | (refine mt (fun h => ?_) (fun h => ?_) <;> first | (exfalso; simp [Ops.cmp_eq, Ops.not_eq, icmp] at h; done) | (exfalso; simp [Ops.cmp_eq, icmp] at h; omega) | (try cbv))))
    exact hQ _ _ (fin _ [_] (by rw [← hR]; rfl))
  | true =>
    simp only [Bool.not_true, Bool.false_or] at hR
    (cbv; repeat' (first | (refine ⟨by simp only [Ops.need_eq, needs]; first | rfl | decide, ?_⟩; try cbv) | (refine mt (fun h => ?_) (fun h => ?_) <;> first | (exfalso; simp [Ops.cmp_eq, Ops.not_eq, icmp] at h; done) | (exfalso; simp [Ops.cmp_eq, icmp] at h; omega) | (try cbv))))
    · have h6 : k ≥ 6 := by simpa [Ops.cmp_eq, icmp] using h
      rw [decide_eq_true h6, Bool.true_and] at hR
      refine Ops.call _ [0] h3 ?_ rfl rfl ⟨.inr (by rw [h2]; rfl), trivial⟩ ?_
      · show [sp] = [rn _ sp]
        rw [h1 _ rfl]
      rintro v V' ⟨rfl, rfl⟩
      simp only [layB, lset, lapp, List.map_nil, h2, rn]
      (cbv; repeat' (first | (refine ⟨by simp only [Ops.need_eq, needs]; first | rfl | decide, ?_⟩; try cbv) | (refine mt (fun h => ?_) (fun h => ?_) <;> first | (exfalso; simp [Ops.cmp_eq, Ops.not_eq, icmp] at h; done) | (exfalso; simp [Ops.cmp_eq, icmp] at h; omega) | (try cbv))))
      refine hQ _ _ (fin _ [_] ?_)
      rw [← hR]
      simp only [Ops.cmp_eq, icmp]
      exact congrArg VV.bool (by rw [Bool.eq_iff_iff]; simp)
    · have h6 : ¬ k ≥ 6 := by simpa [Ops.cmp_eq, icmp] using h
      rw [decide_eq_false h6, Bool.false_and] at hR
      exact hQ _ _ (fin _ [_] (by rw [← hR]))
theorem index_ev {W0 : World} {sp : VV} {S : VB} {N : Nat} (h : ShelfAt W0 sp S N) (l : List CallS) (tot c1 : Cap) (B : VB) (hB : ∀ ρ, rnB ρ B = B) (hT : ∀ ρ : Nat → Nat, ρ 3 = 3 → tot.rn ρ = tot) (hT1 : ∀ ρ : Nat → Nat, ρ 3 = 3 → c1.rn ρ = c1) (hl : l.length ≤ 1000) :
    Ev Tryz.prog W0 107 [.sl 2 9 0 l.length c1, .fn 77 [] [.ptr 1 0]] [S, .cells [sp], .arr 9 (l.map CallS.cs) tot, B]
      (fun v V' => (∃ z : Int, v = .int .i64 z ∧ decide (0 ≤ z) = l.any (badCall N)) ∧ V' = [S, .cells [sp], .arr 9 (l.map CallS.cs) tot, B]) := by
  have hbad := fun c => bad_ev h c
  obtain ⟨h1, h2, h3⟩ := h
  refine Ev.out fun Q' hQ => ?_
  have hX : ∀ ρ, (l.map CallS.cs).map (rnL ρ) = l.map CallS.cs := fun ρ => by simp [CallS.rn_cs]
  have hg : ∀ i : Nat, i < l.length → ∃ c : CallS, l[i]? = some c ∧ (l.map CallS.cs)[i]? = some c.cs := fun i hi => ⟨l[i], by simp [List.getElem?_eq_getElem hi], by simp [List.getElem?_eq_getElem hi]⟩
  have hcl : ∀ ρ : Nat → Nat, (∀ i, i < 4 → ρ i = i) → [S, .cells [sp], .arr 9 (l.map CallS.cs) tot, B].map (rnB ρ) = [S, .cells [sp], .arr 9 (l.map CallS.cs) tot, B] := by
    intro ρ hρ
    show [rnB ρ S, VB.cells [rn ρ sp], VB.arr 9 ((l.map CallS.cs).map (rnL ρ)) (tot.rn ρ), rnB ρ B] = _
    rw [h2, h1 ρ (hρ 0 (by omega)), hX, hT ρ (hρ 3 (by omega)), hB]
  have hany : ∀ (R : Bool) (z : Int), decide (0 ≤ z) = l.any (badCall N) → ∀ X, ReV W0 4 (fun v V' => (∃ z : Int, v = .int .i64 z ∧ decide (0 ≤ z) = l.any (badCall N)) ∧ V' = [S, .cells [sp], .arr 9 (l.map CallS.cs) tot, B]) (.int .i64 z) ([S, .cells [sp], .arr 9 (l.map CallS.cs) tot, B] ++ X) :=
    fun R z hz X => ReV.pre (U := [S, .cells [sp], .arr 9 (l.map CallS.cs) tot, B]) hcl (fun _ => rfl) ⟨⟨z, rfl, hz⟩, rfl⟩
  generalize hxs : l.map CallS.cs = xs at *
  generalize hn : l.length = n at *
  refine ev107 rfl fun o => ?_
  (cbv; repeat' (first | (refine ⟨by simp only [Ops.need_eq, needs]; first | rfl | decide, ?_⟩; try cbv) | (refine mt (fun h => ?_) (fun h => ?_) <;> first | (exfalso; simp [Ops.cmp_eq, Ops.not_eq, icmp] at h; done) | (exfalso; simp [Ops.cmp_eq, icmp] at h; omega) | (try cbv))))
  refine ⟨fun k env V => ∃ (i : Nat) (r : Nat → Value), i + k = n ∧ (∀ j, j < i → ∀ c, l[j]? = some c → badCall N c = false) ∧ env = mix [(0, .sl 2 9 0 n c1), (1, .fn 77 [] [.ptr 1 0]), (7, .int .i64 n), (8, .int .i64 i)] r ∧ V = [S, .cells [sp], .arr 9 xs tot, B],
    ⟨n, o.reI (Re.ren [0, 1, 2, 3] _ _ rfl rfl ?_ ?_ fun r => ⟨0, r, by omega, fun j hj => absurd hj (by omega), rfl, rfl⟩)⟩, ?_⟩
  · exact ⟨by show _ = VV.sl 2 9 0 n (c1.rn _); rw [hT1 _ rfl]; rfl, rfl, rfl, rfl, trivial⟩
  · exact ⟨.inr (by rw [h2]; rfl), .inr (by show _ = some (VB.cells [rn _ sp]); rw [h1 _ rfl]; rfl), .inr (by show _ = some (VB.arr 9 (xs.map (rnL _)) (tot.rn _)); rw [hX, hT _ rfl]; rfl), .inr (by rw [hB]; rfl), trivial⟩
  rintro k env V ⟨i, r, hik, hno, rfl, rfl⟩
  (cbv; repeat' (first | (refine ⟨by simp only [Ops.need_eq, needs]; first | rfl | decide, ?_⟩; try cbv) | (refine mt (fun _ => ?_) (fun _ => ?_) <;> (try cbv))))
  · rename_i g1
    (try simp only [cfix] at *); (try simp only [Int.ofNat_eq_natCast] at *)
    have g2 : (i : Int) < n := by simpa [Ops.cmp_eq, icmp] using g1
    have hi : i < n := by omega
    obtain ⟨c, hc1, hc2⟩ := hg i hi
    have hb := hbad c
    generalize hbc : badCall N c = b at *
    obtain ⟨k1, z, w, a, r1, i1, x, y, ke⟩ := c
    simp only [CallS.cs] at hc2 hb
    refine ⟨by simp only [Ops.inb_eq]; exact decide_eq_true ⟨by first | exact (by omega) | (simp only [Int.ofNat_eq_natCast]; exact (by omega)), by first | exact (g2) | (simp only [Int.ofNat_eq_natCast]; exact (g2))⟩, ?_⟩
    simp only [Int.toNat_natCast, Int.ofNat_eq_natCast, Ops.get_eq, Ops.nadd_eq, Ops.nat_eq, Nat.zero_add, hc2]
    (cbv; repeat' (first | (refine ⟨by simp only [Ops.need_eq, needs]; first | rfl | decide, ?_⟩; try cbv) | (refine mt (fun _ => ?_) (fun _ => ?_) <;> (try cbv))))
    refine Ops.call _ [0, 1] hb rfl rfl rfl ⟨.inr (by rw [h2]; rfl), .inr (by show _ = some (VB.cells [rn _ sp]); rw [h1 _ rfl]; rfl), trivial⟩ ?_
    rintro v V' ⟨rfl, rfl⟩
    simp only [layB, lset, lapp, List.map_nil, h2, rn]
    rw [show ∀ n, rnB (rho [0, 1] n) (.cells [sp]) = .cells [sp] from fun n => by show VB.cells [rn _ sp] = _; rw [h1 _ rfl]]
    cases b with
    | true =>
      (cbv; repeat' (first | (refine ⟨by simp only [Ops.need_eq, needs]; first | rfl | decide, ?_⟩; try cbv) | (refine mt (fun _ => ?_) (fun _ => ?_) <;> (try cbv))))
      refine hQ _ _ (hany true i ?_ [])
      rw [decide_eq_true (by omega)]
      symm
      rw [List.any_eq_true]
      exact ⟨_, List.mem_of_getElem? hc1, hbc⟩
    | false =>
      (cbv; repeat' (first | (refine ⟨by simp only [Ops.need_eq, needs]; first | rfl | decide, ?_⟩; try cbv) | (refine mt (fun _ => ?_) (fun _ => ?_) <;> (try cbv))))
      refine ⟨k - 1, by omega, o.reI (Re.ren [0, 1, 2, 3] _ _ rfl rfl ?_ ?_ fun r => ⟨i + 1, r, by omega, fun j hj c' hc' => ?_, rfl, rfl⟩)⟩
      · exact ⟨by show _ = VV.sl 2 9 0 n (c1.rn _); rw [hT1 _ rfl]; rfl, rfl, rfl, congrArg (VV.int .i64) (by simp only [Ops.ar_eq]; exact add1 (i := i) (by omega)), trivial⟩
      · exact ⟨.inr (by rw [h2]; rfl), .inr (by show _ = some (VB.cells [rn _ sp]); rw [h1 _ rfl]; rfl), .inr (by show _ = some (VB.arr 9 (xs.map (rnL _)) (tot.rn _)); rw [hX, hT _ rfl]; rfl), .inr (by rw [hB]; rfl), trivial⟩
      · by_cases hji : j < i
        · exact hno j hji c' hc'
        · obtain rfl : j = i := by omega
          rw [hc1] at hc'
          cases hc'
          exact hbc
  · rename_i g1
    (try simp only [cfix] at *); (try simp only [Int.ofNat_eq_natCast] at *)
    have g2 : ¬ (i : Int) < n := by simpa [Ops.cmp_eq, icmp] using g1
    refine hQ _ _ (hany true (-1) ?_ [])
    rw [decide_eq_false (by omega)]
    symm
    rw [List.any_eq_false]
    intro c' hc'
    obtain ⟨j, hj, e⟩ := List.getElem_of_mem hc'
    rw [hno j (by omega) c' (by rw [← e]; exact List.getElem?_eq_getElem hj)]
    simp
theorem contains_ev {W0 : World} {sp : VV} {S : VB} {N : Nat} (h : ShelfAt W0 sp S N) (l : List CallS) (tot c1 : Cap) (B : VB) (hB : ∀ ρ, rnB ρ B = B) (hT : ∀ ρ : Nat → Nat, ρ 3 = 3 → tot.rn ρ = tot) (hT1 : ∀ ρ : Nat → Nat, ρ 3 = 3 → c1.rn ρ = c1) (hl : l.length ≤ 1000) :
    Ev Tryz.prog W0 78 [.sl 2 9 0 l.length c1, .fn 77 [] [.ptr 1 0]] [S, .cells [sp], .arr 9 (l.map CallS.cs) tot, B]
      (fun v V' => v = .bool (l.any (badCall N)) ∧ V' = [S, .cells [sp], .arr 9 (l.map CallS.cs) tot, B]) := by
  have hI := index_ev h l tot c1 B hB hT hT1 hl
  obtain ⟨h1, h2, h3⟩ := h
  refine Ev.out fun Q' hQ => ?_
  have hX : ∀ ρ, (l.map CallS.cs).map (rnL ρ) = l.map CallS.cs := fun ρ => by simp [CallS.rn_cs]
  have hcl : ∀ ρ : Nat → Nat, (∀ i, i < 4 → ρ i = i) → [S, .cells [sp], .arr 9 (l.map CallS.cs) tot, B].map (rnB ρ) = [S, .cells [sp], .arr 9 (l.map CallS.cs) tot, B] := by
    intro ρ hρ
    show [rnB ρ S, VB.cells [rn ρ sp], VB.arr 9 ((l.map CallS.cs).map (rnL ρ)) (tot.rn ρ), rnB ρ B] = _
    rw [h2, h1 ρ (hρ 0 (by omega)), hX, hT ρ (hρ 3 (by omega)), hB]
  generalize l.map CallS.cs = xs at *
  generalize l.length = n at *
  refine ev78 rfl fun o => ?_
  (cbv; repeat' (first | (refine ⟨by simp only [Ops.need_eq, needs]; first | rfl | decide, ?_⟩; try cbv) | (refine mt (fun h => ?_) (fun h => ?_) <;> first | (exfalso; simp [Ops.cmp_eq, Ops.not_eq, icmp] at h; done) | (exfalso; simp [Ops.cmp_eq, icmp] at h; omega) | (try cbv))))
  refine Ops.call _ [0, 1, 2, 3] hI ?_ rfl rfl (fit_pre (U := [S, .cells [sp], .arr 9 xs tot, B]) (rest := []) hcl) ?_
  · show _ = [VV.sl 2 9 0 n (c1.rn _), _]
    rw [hT1 _ rfl]; rfl
  rintro v V' ⟨⟨z, rfl, hz⟩, rfl⟩
  have hl4 : layB (rho [0, 1, 2, 3] [S, .cells [sp], .arr 9 xs tot, B].length) [S, .cells [sp], .arr 9 xs tot, B] [0, 1, 2, 3] [S, .cells [sp], .arr 9 xs tot, B] = [S, .cells [sp], .arr 9 xs tot, B] := hcl (rho [0, 1, 2, 3] 4) (fun i hi => by rcases i with _ | _ | _ | _ | i <;> first | rfl | omega)
  rw [hl4]
  (cbv; repeat' (first | (refine ⟨by simp only [Ops.need_eq, needs]; first | rfl | decide, ?_⟩; try cbv) | (refine mt (fun h => ?_) (fun h => ?_) <;> first | (exfalso; simp [Ops.cmp_eq, Ops.not_eq, icmp] at h; done) | (exfalso; simp [Ops.cmp_eq, icmp] at h; omega) | (try cbv))))
  refine hQ _ _ (ReV.pre (U := [S, .cells [sp], .arr 9 xs tot, B]) (rest := []) hcl (fun _ => rfl) ⟨?_, rfl⟩)
  rw [← hz]
  simp only [Ops.cmp_eq, icmp]
end Go.Proofs.YtglghdjpkecngaaGreat

/- worker: New. -/
namespace Go.Proofs.YtglghdjpkecngaaGreat
set_option linter.unusedVariables false
set_option linter.unusedSimpArgs false
open Go Go.SL Go.FL
set_option maxRecDepth 100000
theorem qNew_ev {W0 : World} : Ev Tryz.prog W0 79 [.int .i64 64] [] (fun v V' => v = .tup [.ptr 0 0, .int .i64 0] ∧ V' = [bx W0 (queueU [])]) := by
  refine Ev.out fun Q' hQ => ev79 rfl fun o => ?_
  (cbv; repeat' (first | (refine ⟨by simp only [Ops.need_eq, needs]; first | rfl | decide, ?_⟩; try cbv) | (refine mt (fun h => ?_) (fun h => ?_) <;> first | (exfalso; simp [Ops.cmp_eq, Ops.not_eq, icmp] at h; done) | (exfalso; simp [Ops.cmp_eq, icmp] at h; omega) | (try cbv))))
  refine ⟨by simp [o.inb_eq], ?_⟩
  refine hQ _ _ (ReV.shut 1 [0] (queueU []) rfl rfl (by simp_all [Cap.rn, fitB, mixOk, rnB, lget, rnL, rn, rho, llen, Plain, assoc, mix, envOf, ints, o.nat_eq, queueU]) (ReV.ren [1] (.tup [.ptr 0 0, .int .i64 0]) [bx W0 (queueU [])] rfl rfl rfl ⟨.inr rfl, trivial⟩ ⟨rfl, rfl⟩))
def qTo (n : Nat) : List Int := (List.range n).map fun i : Nat => (i : Int)
theorem qTo_succ (n : Nat) : qTo (n + 1) = qTo n ++ [(n : Int)] := by simp [qTo, List.range_succ]
def workE (W0 : World) (s : WorkerS) (hs : Option (List Nat)) : List VB :=
  [workC s (.sl 1 9 0 s.l.length (.v 2)) (.ptr 3 0) (optP 7 hs) .nilIface .nilSl, .arr 9 (s.l.map CallS.cs) (.v 2), .num, bx W0 (queueU s.q), .emp, .emp, .emp, optB W0 shelfU hs]
theorem workE_eq {W0 : World} {me : Int} {l : List CallS} {hs : Option (List Nat)} (h : l ≠ []) : workE W0 (newWorker me l) hs = workU W0 (newWorker me l) hs := by
  cases l with
  | nil => exact absurd rfl h
  | cons => rfl
theorem New_ev2 {W0 : World} {hs : List Nat} {N : Nat} (h : ShelfAt W0 (.ptr 0 0) (bx W0 (shelfU hs)) N) (me : Int) (l : List CallS) (T R : Nat → Cap) (B : VB) (hB : ∀ ρ, rnB ρ B = B) (hT : ∀ (ρ : Nat → Nat) j, (T j).rn ρ = T (ρ j)) (hR : ∀ (ρ : Nat → Nat) j, (R j).rn ρ = R (ρ j)) (hl : l.length ≤ 1000) :
    Ev Tryz.prog W0 46 [.int .i64 me, .sl 1 9 0 l.length (R 2), (.ptr 0 0)] [bx W0 (shelfU hs), .arr 9 (l.map CallS.cs) (T 2), B]
      (fun v V' => if mayWork me l N then v = .tup [.ptr 3 0, .int .i64 0] ∧ V' = [.emp, .arr 9 (l.map CallS.cs) (T 2), B, bx W0 (workE W0 (newWorker me l) (some hs))] else v = .tup [.nilPtr, .int .i64 1] ∧ V' = [bx W0 (shelfU hs), .arr 9 (l.map CallS.cs) (T 2), B]) := by
  have hCo := contains_ev h l (T 3) (R 3) B hB (fun ρ hρ => by rw [hT, hρ]) (fun ρ hρ => by rw [hR, hρ]) hl
  have hX : ∀ ρ, (l.map CallS.cs).map (rnL ρ) = l.map CallS.cs := fun ρ => by simp [CallS.rn_cs]
  have hx1 : (l.map CallS.cs).all allOne = true := allC l
  have hCl := cloneC_ev (W0 := W0) (l.map CallS.cs) l.length (T 1) (R 1) B hB (fun ρ hρ => by rw [hT, hρ]) (by simp) hX hl hx1
  have hqN := qNew_ev (W0 := W0)
  obtain ⟨h1, h2, h3⟩ := h
  refine Ev.out fun Q' hQ => ?_
  generalize hS : (bx W0 (shelfU hs) : VB) = S at *
  unfold mayWork at hQ
  generalize hK : bx W0 (workE W0 (newWorker me l) (some hs)) = K at *
  generalize hba : l.any (badCall N) = bad at *
  generalize hxs : l.map CallS.cs = xs at *
  generalize hn : l.length = n at *
  have hr : ∀ (ρ : Nat → Nat) c, rnB ρ (.arr 9 xs c) = .arr 9 xs (c.rn ρ) := by intro ρ c; simp only [rnB, hX]
  have hcl : ∀ ρ : Nat → Nat, (∀ i, i < 3 → ρ i = i) → [S, .arr 9 xs (T 2), B].map (rnB ρ) = [S, .arr 9 xs (T 2), B] := by
    intro ρ hρ
    show [rnB ρ S, rnB ρ (VB.arr 9 xs (T 2)), rnB ρ B] = _
    rw [h2, hr, hT, hρ 2 (by omega), hB]
  generalize hT2 : T 2 = tot at *
  generalize hR2 : R 2 = cp at *
  have hbad : ∀ X, (decide (0 ≤ me) && decide (me < 8) && decide (n ≤ 64) && !bad) = false → Q' (.tup [.nilPtr, .int .i64 1]) ([S, .arr 9 xs tot, B] ++ X) := by
    intro X hb
    refine hQ _ _ (ReV.pre (U := [S, .arr 9 xs tot, B]) hcl (fun _ => rfl) ?_)
    rw [hb]
    exact ⟨rfl, rfl⟩
  refine ev46 rfl fun o => ?_
  (cbv; repeat' (first | (refine ⟨by simp only [Ops.need_eq, needs]; first | rfl | decide, ?_⟩; try cbv) | (refine mt (fun h => ?_) (fun h => ?_) <;> first | (exfalso; simp [Ops.cmp_eq, Ops.not_eq, icmp] at h; done) | (exfalso; simp [Ops.cmp_eq, icmp] at h; omega) | (try cbv))))
  · have g : me < 0 := by simpa [Ops.cmp_eq, icmp] using h
    exact hbad [_] (by rw [decide_eq_false (by omega)]; rfl)
  · have g : me ≥ 8 := by simpa [Ops.cmp_eq, icmp] using h
    exact hbad [_] (by rw [decide_eq_false (p := me < 8) (by omega)]; simp)
  · have g : (64 : Int) < n := by simpa [Ops.cmp_eq, icmp] using h
    exact hbad [_] (by rw [decide_eq_false (p := n ≤ 64) (by omega)]; simp)
  · rename_i g1 g2
    have e1 : 0 ≤ me := by simpa [Ops.cmp_eq, icmp] using g1
    have e2 : me < 8 := by simpa [Ops.cmp_eq, icmp] using g2
    have e3 : (n : Int) ≤ 64 := by simpa [Ops.cmp_eq, icmp] using h
    have e3 : n ≤ 64 := by omega
    clear g1 g2 h
    refine Ops.call _ [0, 3, 1, 2] hCo ?_ rfl rfl ⟨.inr (by rw [h2]; rfl), .inr rfl, .inr (by rw [hr, hT]; show some (VB.arr 9 xs tot) = some (VB.arr 9 xs (T 2)); rw [hT2]), .inr (by rw [hB]; rfl), trivial⟩ ?_
    · show _ = [VV.sl 1 9 0 n ((R 3).rn _), _]
      rw [hR]; show _ = [VV.sl 1 9 0 n (R 2), _]; rw [hR2]; rfl
    rintro v V' ⟨rfl, rfl⟩
    have r3 : ∀ n, rho [0, 3, 1, 2] n 3 = 2 := fun _ => rfl
    simp only [layB, lset, lapp, List.map_nil, h2, hr, hT, hB, rn, r3, hT2]
    cases bad with
    | true =>
      (cbv; repeat' (first | (refine ⟨by simp only [Ops.need_eq, needs]; first | rfl | decide, ?_⟩; try cbv) | (refine mt (fun h => ?_) (fun h => ?_) <;> first | (exfalso; simp [Ops.cmp_eq, Ops.not_eq, icmp] at h; done) | (exfalso; simp [Ops.cmp_eq, icmp] at h; omega) | (try cbv))))
      exact hbad [_] (by simp)
    | false =>
      (cbv; repeat' (first | (refine ⟨by simp only [Ops.need_eq, needs]; first | rfl | decide, ?_⟩; try cbv) | (refine mt (fun h => ?_) (fun h => ?_) <;> first | (exfalso; simp [Ops.cmp_eq, Ops.not_eq, icmp] at h; done) | (exfalso; simp [Ops.cmp_eq, icmp] at h; omega) | (try cbv))))
      refine Ops.call _ [] hqN rfl rfl rfl trivial ?_
      rintro v V' ⟨rfl, rfl⟩
      simp only [layB, lset, lapp, List.map_nil, List.map_cons, rnB_bx, rn, rnL]
      generalize hq0 : bx W0 (queueU []) = q0
      (cbv; repeat' (first | (refine ⟨by simp only [Ops.need_eq, needs]; first | rfl | decide, ?_⟩; try cbv) | (refine mt (fun h => ?_) (fun h => ?_) <;> first | (exfalso; simp [Ops.cmp_eq, Ops.not_eq, icmp] at h; done) | (exfalso; simp [Ops.cmp_eq, icmp] at h; omega) | (try cbv))))
      subst hq0
      refine ⟨fun k env V => ∃ (i : Nat) (r : Nat → Value), i + k = n ∧ env = mix [(0, .int .i64 me), (1, .sl 1 9 0 n cp), (5, .ptr 3 0), (9, .ptr 4 0), (34, .int .i64 n), (35, .int .i64 i)] r ∧ V = [S, .arr 9 xs tot, B, .cells [(.ptr 0 0)], bx W0 (queueU (qTo i))],
        ⟨n, o.reI (Re.ren [0, 1, 2, 3, 4] _ _ rfl rfl ?_ ?_ fun r => ⟨0, r, by omega, rfl, rfl⟩)⟩, ?_⟩
      · exact ⟨rfl, by show _ = VV.sl 1 9 0 n (cp.rn _); rw [← hR2, hR]; rfl, rfl, rfl, rfl, rfl, trivial⟩
      · exact ⟨.inr (by rw [h2]; rfl), .inr (by rw [hr, ← hT2, hT]; rfl), .inr (by rw [hB]; rfl), .inr rfl, .inr rfl, trivial⟩
      rintro k env V ⟨i, r, hik, rfl, rfl⟩
      generalize hq0 : bx W0 (queueU (qTo i)) = q0
      (cbv; repeat' (first | (refine ⟨by simp only [Ops.need_eq, needs]; first | rfl | decide, ?_⟩; try cbv) | (refine mt (fun _ => ?_) (fun _ => ?_) <;> (try cbv))))
      · rename_i g1
        (try simp only [cfix] at *); (try simp only [Int.ofNat_eq_natCast] at *)
        have g2 : (i : Int) < n := by simpa [Ops.cmp_eq, icmp] using g1
        have hi : i < n := by omega
        have hik2 : i + 1 + (k - 1) = n := by omega
        have hk1 : k - 1 < k := by omega
        have hPu := qPush_ev (W0 := W0) (qTo i) i (by simp [qTo]; omega)
        rw [← qTo_succ, hq0] at hPu
        refine Ops.call _ [4] hPu rfl rfl rfl ⟨.inr (by rw [← hq0]; rfl), trivial⟩ ?_
        rintro v V' ⟨rfl, rfl⟩
        simp only [layB, lset, lapp, List.map_nil, List.map_cons, rnB_bx, rn, rnL]
        generalize hq1 : bx W0 (queueU (qTo (i + 1))) = q1
        (cbv; repeat' (first | (refine ⟨by simp only [Ops.need_eq, needs]; first | rfl | decide, ?_⟩; try cbv) | (refine mt (fun _ => ?_) (fun _ => ?_) <;> (try cbv))))
        refine ⟨k - 1, hk1, o.reI (Re.ren [0, 1, 2, 3, 4] _ _ rfl rfl ?_ ?_ fun r => ⟨i + 1, r, hik2, rfl, rfl⟩)⟩
        · exact ⟨rfl, by show _ = VV.sl 1 9 0 n (cp.rn _); rw [← hR2, hR]; rfl, rfl, rfl, rfl, congrArg (VV.int .i64) (by simp only [Ops.ar_eq]; exact add1 (i := i) (by omega)), trivial⟩
        · exact ⟨.inr (by rw [h2]; rfl), .inr (by rw [hr, ← hT2, hT]; rfl), .inr (by rw [hB]; rfl), .inr rfl, .inr (by rw [← hq1]; rfl), trivial⟩
      · rename_i g1
        (try simp only [cfix] at *); (try simp only [Int.ofNat_eq_natCast] at *)
        have g2 : ¬ (i : Int) < n := by simpa [Ops.cmp_eq, icmp] using g1
        obtain rfl : i = n := by omega
        refine Ops.call _ [1, 2] hCl ?_ rfl rfl ⟨.inr (by rw [hr, hT]; show some (VB.arr 9 xs tot) = some (VB.arr 9 xs (T 2)); rw [hT2]), .inr (by rw [hB]; rfl), trivial⟩ ?_
        · show _ = [VV.sl 1 9 0 i ((R 1).rn _)]
          rw [hR]; show _ = [VV.sl 1 9 0 i (R 2)]; rw [hR2]
        rintro v V' ⟨rfl, rfl⟩
        have q3 : ∀ n, rho [1, 2] n 1 = 2 := fun _ => rfl
        simp only [layB, lset, lapp, List.map_nil, List.map_cons, hr, hT, hB, rn, q3, hT2]
        (refine ⟨by first | (cbv; done) | exact trivial | (cbv; trivial), ?_⟩); (cbv; repeat' (first | (refine ⟨by simp only [Ops.need_eq, needs]; first | rfl | decide, ?_⟩; try cbv) | (refine mt (fun h => ?_) (fun h => ?_) <;> first | (exfalso; simp [Ops.cmp_eq, Ops.not_eq, icmp] at h; done) | (exfalso; simp [Ops.cmp_eq, icmp] at h; omega) | (try cbv))))
        have hex : l.length = i := hn
        subst hS hq0 hxs
        refine hQ _ _ (ReV.shut 7 [5, 6, 4, 20, 21, 22, 0] (workE W0 (newWorker me l) (some hs)) rfl rfl ⟨.inr ?_, .inr ?_, .inr rfl, .inr ?_, .inl rfl, .inl rfl, .inl rfl, .inr rfl, trivial⟩ (ReV.ren [0, 1, 2, 7] (.tup [.ptr 3 0, .int .i64 0]) [.emp, .arr 9 (l.map CallS.cs) tot, B, bx W0 (workE W0 (newWorker me l) (some hs))] rfl rfl rfl ⟨.inl rfl, .inr ?_, .inr (by rw [hB]; rfl), .inr rfl, trivial⟩ ?_))
        · show _ = some (VB.cells [VV.int .i64 me, VV.sl _ 9 0 l.length _, _, _, _, _, _, _, _])
          rw [hex]; rfl
        · show _ = some (rnB _ (VB.arr 9 (l.map CallS.cs) (.v 2)))
          rw [hr]; rfl
        · show _ = some (bx W0 (queueU (newWorker me l).q))
          rw [show (newWorker me l).q = qTo l.length from rfl, hex]; rfl
        · rw [hr, ← hT2, hT]; rfl
        · rw [if_pos (by simp [e1, e2, e3]), hK]
          exact ⟨rfl, rfl⟩
end Go.Proofs.YtglghdjpkecngaaGreat

/- worker: New with no calls. -/
namespace Go.Proofs.YtglghdjpkecngaaGreat
set_option linter.unusedVariables false
set_option linter.unusedSimpArgs false
open Go Go.SL Go.FL
set_option maxRecDepth 100000
theorem index0_ev {W0 : World} (S : VB) (h2 : ∀ ρ, rnB ρ S = S) : Ev Tryz.prog W0 107 [.nilSl, .fn 77 [] [.ptr 1 0]] [S, .cells [.ptr 0 0]] (fun v V' => v = .int .i64 (-1) ∧ V' = [S, .cells [.ptr 0 0]]) := by
  refine Ev.out fun Q' hQ => ?_
  refine ev107 rfl fun o => ?_
  (cbv; repeat' (first | (refine ⟨by simp only [Ops.need_eq, needs]; first | rfl | decide, ?_⟩; try cbv) | (refine mt (fun h => ?_) (fun h => ?_) <;> first | (exfalso; simp [Ops.cmp_eq, Ops.not_eq, icmp] at h; done) | (exfalso; simp [Ops.cmp_eq, icmp] at h; omega) | (try cbv))))
  refine ⟨fun k env V => ∃ (r : Nat → Value), env = mix [(7, .int .i64 0), (8, .int .i64 0)] r ∧ V = [S, .cells [.ptr 0 0]],
    ⟨0, o.reI (Re.ren [0, 1] _ _ rfl rfl ?_ ?_ fun r => ⟨r, rfl, rfl⟩)⟩, ?_⟩
  · exact ⟨rfl, rfl, trivial⟩
  · exact ⟨.inr (by rw [h2]; rfl), .inr rfl, trivial⟩
  rintro k env V ⟨r, rfl, rfl⟩
  (cbv; repeat' (first | (refine ⟨by simp only [Ops.need_eq, needs]; first | rfl | decide, ?_⟩; try cbv) | (refine mt (fun h => ?_) (fun h => ?_) <;> first | (exfalso; simp [Ops.cmp_eq, Ops.not_eq, icmp] at h; done) | (exfalso; simp [Ops.cmp_eq, icmp] at h; omega) | (try cbv))))
  exact hQ _ _ (ReV.ren [0, 1] (.int .i64 (-1)) [S, .cells [.ptr 0 0]] rfl rfl rfl ⟨.inr (by rw [h2]; rfl), .inr rfl, trivial⟩ ⟨rfl, rfl⟩)
theorem contains0_ev {W0 : World} (S : VB) (h2 : ∀ ρ, rnB ρ S = S) : Ev Tryz.prog W0 78 [.nilSl, .fn 77 [] [.ptr 1 0]] [S, .cells [.ptr 0 0]] (fun v V' => v = .bool false ∧ V' = [S, .cells [.ptr 0 0]]) := by
  refine Ev.out fun Q' hQ => ?_
  refine ev78 rfl fun o => ?_
  (cbv; repeat' (first | (refine ⟨by simp only [Ops.need_eq, needs]; first | rfl | decide, ?_⟩; try cbv) | (refine mt (fun h => ?_) (fun h => ?_) <;> first | (exfalso; simp [Ops.cmp_eq, Ops.not_eq, icmp] at h; done) | (exfalso; simp [Ops.cmp_eq, icmp] at h; omega) | (try cbv))))
  refine Ops.call _ [0, 1] (index0_ev S h2) rfl rfl rfl ⟨.inr (by rw [h2]; rfl), .inr rfl, trivial⟩ ?_
  rintro v V' ⟨rfl, rfl⟩
  simp only [layB, lset, lapp, List.map_nil, h2, rn]
  (cbv; repeat' (first | (refine ⟨by simp only [Ops.need_eq, needs]; first | rfl | decide, ?_⟩; try cbv) | (refine mt (fun h => ?_) (fun h => ?_) <;> first | (exfalso; simp [Ops.cmp_eq, Ops.not_eq, icmp] at h; done) | (exfalso; simp [Ops.cmp_eq, icmp] at h; omega) | (try cbv))))
  refine hQ _ _ (ReV.ren [0, 1] (.bool false) [S, .cells [.ptr 0 0]] rfl rfl ?_ ⟨.inr (by rw [h2]; rfl), .inr rfl, trivial⟩ ⟨rfl, rfl⟩)
  simp [Ops.cmp_eq, icmp, rn]
theorem New0_ev {W0 : World} {hs : List Nat} (me : Int) (m0 : 0 ≤ me) (m1 : me < 8) :
    Ev Tryz.prog W0 46 [.int .i64 me, .nilSl, .ptr 0 0] [bx W0 (shelfU hs)] (fun v V' => v = .tup [.ptr 1 0, .int .i64 0] ∧ V' = [.emp, bx W0 (workU W0 (newWorker me []) (some hs))]) := by
  have hCo := contains0_ev (W0 := W0) (bx W0 (shelfU hs)) (fun ρ => rnB_bx W0 _ ρ)
  have hCl := cloneC0_ev (W0 := W0)
  have hqN := qNew_ev (W0 := W0)
  refine Ev.out fun Q' hQ => ?_
  generalize hS : bx W0 (shelfU hs) = S at *
  generalize hK : bx W0 (workU W0 (newWorker me []) (some hs)) = K at *
  refine ev46 rfl fun o => ?_
  (cbv; repeat' (first | (refine ⟨by simp only [Ops.need_eq, needs]; first | rfl | decide, ?_⟩; try cbv) | (refine mt (fun h => ?_) (fun h => ?_) <;> first | (exfalso; simp [Ops.cmp_eq, Ops.not_eq, icmp] at h; done) | (exfalso; simp [Ops.cmp_eq, icmp] at h; omega) | (try cbv))))
  refine Ops.call _ [0, 1] hCo rfl rfl rfl ⟨.inr (by rw [← hS]; rfl), .inr rfl, trivial⟩ ?_
  rintro v V' ⟨rfl, rfl⟩
  simp only [layB, lset, lapp, List.map_nil, ← hS, rnB_bx, rn]
  rw [hS]
  (cbv; repeat' (first | (refine ⟨by simp only [Ops.need_eq, needs]; first | rfl | decide, ?_⟩; try cbv) | (refine mt (fun h => ?_) (fun h => ?_) <;> first | (exfalso; simp [Ops.cmp_eq, Ops.not_eq, icmp] at h; done) | (exfalso; simp [Ops.cmp_eq, icmp] at h; omega) | (try cbv))))
  refine Ops.call _ [] hqN rfl rfl rfl trivial ?_
  rintro v V' ⟨rfl, rfl⟩
  simp only [layB, lset, lapp, List.map_nil, List.map_cons, rnB_bx, rn, rnL]
  generalize hq0 : bx W0 (queueU []) = q0
  (cbv; repeat' (first | (refine ⟨by simp only [Ops.need_eq, needs]; first | rfl | decide, ?_⟩; try cbv) | (refine mt (fun h => ?_) (fun h => ?_) <;> first | (exfalso; simp [Ops.cmp_eq, Ops.not_eq, icmp] at h; done) | (exfalso; simp [Ops.cmp_eq, icmp] at h; omega) | (try cbv))))
  refine ⟨fun k env V => ∃ (r : Nat → Value), env = mix [(0, .int .i64 me), (1, .nilSl), (5, .ptr 1 0), (9, .ptr 2 0), (34, .int .i64 0), (35, .int .i64 0)] r ∧ V = [S, .cells [.ptr 0 0], q0],
    ⟨0, o.reI (Re.ren [0, 1, 2] _ _ rfl rfl ?_ ?_ fun r => ⟨r, rfl, rfl⟩)⟩, ?_⟩
  · exact ⟨rfl, rfl, rfl, rfl, rfl, rfl, trivial⟩
  · exact ⟨.inr (by rw [← hS]; rfl), .inr rfl, .inr (by rw [← hq0]; rfl), trivial⟩
  rintro k env V ⟨r, rfl, rfl⟩
  (cbv; repeat' (first | (refine ⟨by simp only [Ops.need_eq, needs]; first | rfl | decide, ?_⟩; try cbv) | (refine mt (fun h => ?_) (fun h => ?_) <;> first | (exfalso; simp [Ops.cmp_eq, Ops.not_eq, icmp] at h; done) | (exfalso; simp [Ops.cmp_eq, icmp] at h; omega) | (try cbv))))
  refine Ops.call0 _ (hCl) rfl ?_; rintro v V' ⟨rfl, rfl⟩; simp only [lapp, List.map_nil, rn, rnL]
  (refine ⟨by first | (cbv; done) | exact trivial | (cbv; trivial), ?_⟩); (cbv; repeat' (first | (refine ⟨by simp only [Ops.need_eq, needs]; first | rfl | decide, ?_⟩; try cbv) | (refine mt (fun h => ?_) (fun h => ?_) <;> first | (exfalso; simp [Ops.cmp_eq, Ops.not_eq, icmp] at h; done) | (exfalso; simp [Ops.cmp_eq, icmp] at h; omega) | (try cbv))))
  subst hS hq0
  refine hQ _ _ (ReV.shut 3 [20, 21, 2, 22, 23, 24, 0] (workU W0 (newWorker me []) (some hs)) rfl rfl ⟨.inr rfl, .inl rfl, .inl rfl, .inr rfl, .inl rfl, .inl rfl, .inl rfl, .inr rfl, trivial⟩ (ReV.ren [0, 3] (.tup [.ptr 1 0, .int .i64 0]) [.emp, bx W0 (workU W0 (newWorker me []) (some hs))] rfl rfl rfl ⟨.inl rfl, .inr rfl, trivial⟩ ⟨rfl, ?_⟩))
  rw [hK]
end Go.Proofs.YtglghdjpkecngaaGreat

