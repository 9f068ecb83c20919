/- worker: which calls may be: the law. -/
import Derived.Test.YtglghdjpkecngaaGreatEN
import Derived.Test.YtglghdjpkecngaaGreatEP
namespace Go.SL
set_option linter.unusedVariables false
set_option linter.unusedSimpArgs false
/-- Code behind the first n pieces. -/
def dropS : Nat → IC → IC
  | 0, c => c
  | n + 1, .seq _ b => dropS n b
  | _ + 1, c => c
def fstS : IC → IC
  | .seq a _ => a
  | c => c
theorem put_self (e : Env) (t : Nat) {v : VV} (h : e t = v) : put e (some t) v = e := by
  funext x
  simp only [put]
  cases hx : Nat.beq x t with
  | false => rfl
  | true => rw [Nat.eq_of_beq_eq_true hx, h]
end Go.SL
namespace Go.Proofs.YtglghdjpkecngaaGreat
open Go Go.SL Go.FL
set_option maxRecDepth 100000
theorem lists0E_ev {W0 : World} : Ev Tryz.prog W0 43 [.nilPtr] [.emp] (fun v V' => v = .int .i64 ((0 : Nat) : Int) ∧ V' = [.emp]) := by
  refine Ev.out fun Q' hQ => ev43 rfl fun o => ?_
  (cbv; repeat' (first | (refine ⟨by simp only [Ops.need_eq, needs]; first | rfl | decide, ?_⟩; try cbv) | (refine mt (fun _ => ?_) (fun _ => ?_) <;> (try cbv))))
  exact hQ _ _ (ReV.ren [0] (.int .i64 ((0 : Nat) : Int)) [.emp] rfl rfl rfl ⟨.inl rfl, trivial⟩ ⟨rfl, rfl⟩)
def goodW (me : Int) (N : Nat) (ck : Bool) : Bool := decide (0 ≤ me) && decide (me < 8) && decide (N ≤ 64) && (ck || decide (N = 0))
theorem mayW (me : Int) (c : CallS) (N n : Nat) : mayWork me (List.replicate N c) n = (goodW me N (checkCall c) && (decide (c.kind < 6) || decide (n ≠ 0) || decide (N = 0))) := by
  unfold mayWork goodW badCall
  have h := badCall_all (n := n) c N
  simp only [List.length_replicate]
  unfold badCall at h
  rw [h]
  cases checkCall c <;> rw [Bool.eq_iff_iff] <;> simp <;> omega
set_option maxHeartbeats 1000000 in
theorem Checks10p {W0 : World} {N n0 : Nat} (o : Ops (Ev Tryz.prog W0) (Re W0 N n0)) (c : CallS) (Q' : VV → List VB → Prop) (hQ : ∀ (v : VV) (V' : List VB), ReV W0 0 (fun v V' => v = .bool true) v V' → Q' v V') (V : List VB) (p q : Nat) (good bare : Bool) (e : Env) :
    wpI o (dropS 10 ir16) (retK o [.tmp 6] Q') (put (put (put (put (put (put (put (put (put e (some 4) (.ptr 0 0)) (some 8) (.bool (checkCall c))) (some 11) (.bool true)) (some 14) (if good then .ptr p 0 else .nilPtr)) (some 15) (.int .i64 (if good then 0 else 1))) (some 16) (if bare then .ptr q 0 else .nilPtr)) (some 17) (.int .i64 (if bare then 0 else 1)))
      (some 18) (.bool good)) (some 19) (.bool bare)) (.cells c.cs :: V) := by
  have hAw := awake18_ev (W0 := W0)
  have hCk := callCheck_ev (W0 := W0) c
  generalize checkCall c = ck at *
  obtain ⟨k, z, w, a, r, i, x, y, ke⟩ := c
  simp only [CallS.cs] at *
  cases good <;> cases bare
  all_goals
    simp only [if_true, Bool.false_eq_true, if_false]
    (cbv; repeat' (first | (refine ⟨by simp only [Ops.need_eq, needs]; first | rfl | decide, ?_⟩; try cbv) | (refine mt (fun h => ?_) (fun h => ?_) <;> first | (exfalso; simp [Ops.cmp_eq, Ops.not_eq, Ops.beq_eq, icmp] at h; done) | (exfalso; simp [Ops.cmp_eq, Ops.not_eq, Ops.beq_eq, icmp] at h; omega) | (try cbv))))
    refine Ops.call0 _ (hAw) rfl ?_; rintro v V' ⟨rfl, rfl⟩; simp only [lapp, List.map_nil, rn, rnL]
    (cbv; repeat' (first | (refine ⟨by simp only [Ops.need_eq, needs]; first | rfl | decide, ?_⟩; try cbv) | (refine mt (fun h => ?_) (fun h => ?_) <;> first | (exfalso; simp [Ops.cmp_eq, Ops.not_eq, Ops.beq_eq, icmp] at h; done) | (exfalso; simp [Ops.cmp_eq, Ops.not_eq, Ops.beq_eq, icmp] at h; omega) | (try cbv))))
    refine Ops.call0 _ (hCk) rfl ?_; rintro v V' ⟨rfl, rfl⟩; simp only [lapp, List.map_nil, rn, rnL]
    (cbv; repeat' (first | (refine ⟨by simp only [Ops.need_eq, needs]; first | rfl | decide, ?_⟩; try cbv) | (refine mt (fun h => ?_) (fun h => ?_) <;> first | (exfalso; simp [Ops.cmp_eq, Ops.not_eq, Ops.beq_eq, icmp] at h; done) | (exfalso; simp [Ops.cmp_eq, Ops.not_eq, Ops.beq_eq, icmp] at h; omega) | (try cbv))))
    all_goals exact hQ _ _ (ReV.none rfl (by simp [Ops.beq_eq, Ops.not_eq]))
theorem Checks10 {W0 : World} {N n0 : Nat} (o : Ops (Ev Tryz.prog W0) (Re W0 N n0)) (c : CallS) (Q' : VV → List VB → Prop) (hQ : ∀ (v : VV) (V' : List VB), ReV W0 0 (fun v V' => v = .bool true) v V' → Q' v V') (V : List VB) (p q : Nat) (good bare : Bool) (e : Env)
    (h4 : e 4 = .ptr 0 0) (h8 : e 8 = .bool (checkCall c)) (h11 : e 11 = .bool true) (h14 : e 14 = if good then .ptr p 0 else .nilPtr) (h15 : e 15 = .int .i64 (if good then 0 else 1)) (h16 : e 16 = if bare then .ptr q 0 else .nilPtr) (h17 : e 17 = .int .i64 (if bare then 0 else 1))
    (h18 : e 18 = .bool good) (h19 : e 19 = .bool bare) : wpI o (dropS 10 ir16) (retK o [.tmp 6] Q') e (.cells c.cs :: V) := by
  have h := Checks10p o c Q' hQ V p q good bare e
  rw [put_self e 4 h4, put_self e 8 h8, put_self e 11 h11, put_self e 14 h14, put_self e 15 h15, put_self e 16 h16, put_self e 17 h17, put_self e 18 h18, put_self e 19 h19] at h
  exact h
def bareW (me : Int) (n : Nat) (c : CallS) : Bool := goodW me n (checkCall c) && (decide (c.kind < 6) || decide (n = 0))
set_option maxHeartbeats 1000000 in
theorem Checks8p {W0 : World} {N n0 : Nat} (o : Ops (Ev Tryz.prog W0) (Re W0 N n0)) (c : CallS) (Q' : VV → List VB → Prop) (hQ : ∀ (v : VV) (V' : List VB), ReV W0 0 (fun v V' => v = .bool true) v V' → Q' v V') (V : List VB) (p q : Nat) (me : Int) (n id : Nat) (cp : Cap) (e : Env)
    (h11 : e 11 = .bool true) (h14 : e 14 = if goodW me n (checkCall c) then .ptr p 0 else .nilPtr) (h15 : e 15 = .int .i64 (if goodW me n (checkCall c) then 0 else 1)) (h16 : e 16 = if bareW me n c then .ptr q 0 else .nilPtr) (h17 : e 17 = .int .i64 (if bareW me n c then 0 else 1)) :
    wpI o (dropS 8 ir16) (retK o [.tmp 6] Q') (put (put (put (put e (some 0) (.int .i64 me)) (some 4) (.ptr 0 0)) (some 8) (.bool (checkCall c))) (some 12) (.sl id 9 0 n cp)) (.cells c.cs :: V) := by
  have tail := fun e' => Checks10 o c Q' hQ V p q (goodW me n (checkCall c)) (bareW me n c) e'
  have hbw : bareW me n c = (goodW me n (checkCall c) && (decide (c.kind < 6) || decide (n = 0))) := rfl
  generalize bareW me n c = bw at *
  rw [show dropS 8 ir16 = .seq (fstS (dropS 8 ir16)) (.seq (fstS (dropS 9 ir16)) (dropS 10 ir16)) from rfl]
  have hsq : ∀ a b K e V, wpI o (.seq a b) K e V = wpI o a (fun x e V => match x with | .normal => wpI o b K e V | .exit i => K (.exit i) e V | .ret => K .ret e V) e V := fun _ _ _ _ _ => rfl
  simp only [hsq]
  clear hsq
  generalize wpI o (dropS 10 ir16) = R at *
  generalize checkCall c = ck at *
  obtain ⟨k, z, w, a, r, i, x, y, ke⟩ := c
  simp only [CallS.cs] at *
  have hgd : goodW me n ck = (decide (0 ≤ me) && decide (me < 8) && decide (n ≤ 64) && (ck || decide (n = 0))) := rfl
  generalize goodW me n ck = gd at *
  cases ck
  all_goals
    (cbv; repeat' (first | (refine ⟨by simp only [Ops.need_eq, needs]; first | rfl | decide, ?_⟩; try cbv) | (refine mt (fun h => ?_) (fun h => ?_) <;> first | (exfalso; simp [Ops.cmp_eq, Ops.not_eq, Ops.beq_eq, icmp] at h; done) | (exfalso; simp [Ops.cmp_eq, Ops.not_eq, Ops.beq_eq, icmp] at h; omega) | (try cbv))))
    all_goals
      refine tail _ ?_ ?_ h11 h14 h15 h16 h17 ?_ ?_
      · rfl
      · rfl
      all_goals
        refine congrArg VV.bool ?_
        try rw [hbw]
        rw [hgd]
        (try simp only [cfix] at *); (try simp only [Int.ofNat_eq_natCast] at *)
        simp only [Ops.cmp_eq, icmp, decide_eq_true_eq, decide_eq_false_iff_not, beq_iff_eq, beq_eq_false_iff_ne] at *
        rw [Bool.eq_iff_iff]
        simp
        try omega
theorem Checks8 {W0 : World} {N n0 : Nat} (o : Ops (Ev Tryz.prog W0) (Re W0 N n0)) (c : CallS) (Q' : VV → List VB → Prop) (hQ : ∀ (v : VV) (V' : List VB), ReV W0 0 (fun v V' => v = .bool true) v V' → Q' v V') (V : List VB) (p q : Nat) (me : Int) (n id : Nat) (cp : Cap) (e : Env)
    (h0 : e 0 = .int .i64 me) (h4 : e 4 = .ptr 0 0) (h8 : e 8 = .bool (checkCall c)) (h11 : e 11 = .bool true) (h12 : e 12 = .sl id 9 0 n cp) (h14 : e 14 = if goodW me n (checkCall c) then .ptr p 0 else .nilPtr) (h15 : e 15 = .int .i64 (if goodW me n (checkCall c) then 0 else 1)) (h16 : e 16 = if bareW me n c then .ptr q 0 else .nilPtr) (h17 : e 17 = .int .i64 (if bareW me n c then 0 else 1)) :
    wpI o (dropS 8 ir16) (retK o [.tmp 6] Q') e (.cells c.cs :: V) := by
  have h := Checks8p o c Q' hQ V p q me n id cp e h11 h14 h15 h16 h17
  rw [put_self e 0 h0, put_self e 4 h4, put_self e 8 h8, put_self e 12 h12] at h
  exact h
set_option maxHeartbeats 1000000 in
theorem Checks6A {W0 : World} {N n0 : Nat} (o : Ops (Ev Tryz.prog W0) (Re W0 N n0)) (c : CallS) (Q' : VV → List VB → Prop) (hQ : ∀ (v : VV) (V' : List VB), ReV W0 0 (fun v V' => v = .bool true) v V' → Q' v V') (hs : List Nat) (h3 : hs.length = 3) (M0 : VB) (hM : ∀ ρ, rnB ρ M0 = M0) (E0 : VB) (me : Int) (n : Nat) (hn : n ≤ 127) (h0 : n = 0) (e : Env) (h11 : e 11 = .bool true) :
    wpI o (dropS 6 ir16) (retK o [.tmp 6] Q') (put (put (put (put (put e (some 0) (.int .i64 me)) (some 4) (.ptr 0 0)) (some 8) (.bool (checkCall c))) (some 10) (.ptr 2 0)) (some 12) (.sl 4 9 0 n (.n 0))) (.cells c.cs :: [M0, (bx W0 (shelfU hs)), E0, .arr 9 ((List.replicate n c).map CallS.cs) (.n 0)]) := by
  have tail := fun V p q id cp e' => Checks8 o c Q' hQ V p q me n id cp e'
  have hN1 := New_ev2 (W0 := W0) (hs := hs) (N := hs.length) ⟨fun ρ h => by show VV.ptr (ρ 0) 0 = _; rw [h], fun ρ => rnB_bx W0 _ ρ, shelfLists_ev hs⟩ me (List.replicate n c) (fun _ => .n 0) (fun _ => .n 0) (M0) (hM) (fun _ _ => rfl) (fun _ _ => rfl) (by simp; omega)
  have hN2 := NewN_ev2 (W0 := W0) (N := 0) ⟨fun _ _ => rfl, fun _ => rfl, lists0E_ev⟩ me (List.replicate n c) (fun _ => .n 0) (fun _ => .n 0) (M0) (hM) (fun _ _ => rfl) (fun _ _ => rfl) (by simp; omega)
  rw [mayW, h3, show (goodW me n (checkCall c) && (decide (c.kind < 6) || decide (3 ≠ 0) || decide (n = 0))) = goodW me n (checkCall c) by simp] at hN1
  rw [mayW, show (goodW me n (checkCall c) && (decide (c.kind < 6) || decide (0 ≠ 0) || decide (n = 0))) = bareW me n c by simp [bareW]] at hN2
  have hX : ∀ ρ, ((List.replicate n c).map CallS.cs).map (rnL ρ) = (List.replicate n c).map CallS.cs := fun ρ => by simp [CallS.rn_cs]
  simp only [List.length_replicate] at hN1 hN2
  generalize hsb : (bx W0 (shelfU hs) : VB) = S0 at *
  have hS : ∀ ρ, rnB ρ S0 = S0 := fun ρ => by rw [← hsb, rnB_bx]
  have hK1 : ∀ ρ, rnB ρ (bx W0 (workE W0 (newWorker me (List.replicate n c)) (some hs))) = bx W0 (workE W0 (newWorker me (List.replicate n c)) (some hs)) := fun ρ => rnB_bx W0 _ ρ
  have hK2 : ∀ ρ, rnB ρ (bx W0 (workE W0 (newWorker me (List.replicate n c)) none)) = bx W0 (workE W0 (newWorker me (List.replicate n c)) none) := fun ρ => rnB_bx W0 _ ρ
  generalize bx W0 (workE W0 (newWorker me (List.replicate n c)) (some hs)) = K1 at *
  generalize bx W0 (workE W0 (newWorker me (List.replicate n c)) none) = K2 at *
  generalize (List.replicate n c).map CallS.cs = xs at *
  have hr : ∀ (ρ : Nat → Nat) c, rnB ρ (.arr 9 xs c) = .arr 9 xs (c.rn ρ) := by intro ρ c; simp only [rnB, hX]
  generalize bareW me n c = bw at *
  generalize goodW me n (checkCall c) = gw at *
  rw [show dropS 6 ir16 = .seq (fstS (dropS 6 ir16)) (.seq (fstS (dropS 7 ir16)) (dropS 8 ir16)) from rfl]
  have hsq : ∀ a b K e V, wpI o (.seq a b) K e V = wpI o a (fun x e V => match x with | .normal => wpI o b K e V | .exit i => K (.exit i) e V | .ret => K .ret e V) e V := fun _ _ _ _ _ => rfl
  simp only [hsq]
  clear hsq
  generalize wpI o (dropS 8 ir16) = R at *
  generalize checkCall c = ck at *
  generalize c.cs = cs at *
  (cbv; repeat' (first | (refine ⟨by simp only [Ops.need_eq, needs]; first | rfl | decide, ?_⟩; try cbv) | (refine mt (fun _ => ?_) (fun _ => ?_) <;> (try cbv))))
  refine Ops.call _ [2, 4, 1] hN1 rfl rfl rfl ⟨.inr (by rw [hS]; rfl), .inr (by rw [hr]; rfl), .inr (by rw [hM]; rfl), trivial⟩ ?_
  rintro v V' hv
  cases gw
  all_goals
    simp only [if_true, Bool.false_eq_true, if_false] at hv tail
    obtain ⟨rfl, rfl⟩ := hv
    have r2 : ∀ m, rho [2, 4, 1] m 2 = 1 := fun _ => rfl
    simp only [layB, lset, lapp, List.map_nil, List.map_cons, hr, hM, hS, hK1, rnB_emp, rn, rnL, Cap.rn, r2, show ∀ ρ, rnB ρ .num = .num from fun _ => rfl]
    (cbv; repeat' (first | (refine ⟨by simp only [Ops.need_eq, needs]; first | rfl | decide, ?_⟩; try cbv) | (refine mt (fun _ => ?_) (fun _ => ?_) <;> (try cbv))))
    refine Ops.call _ [3, 4, 1] hN2 rfl rfl rfl ⟨.inl rfl, .inr (by rw [hr]; rfl), .inr (by rw [hM]; rfl), trivial⟩ ?_
    rintro v V' hv
    cases bw
    all_goals
      simp only [if_true, Bool.false_eq_true, if_false] at hv tail
      obtain ⟨rfl, rfl⟩ := hv
      have r3 : ∀ m, rho [3, 4, 1] m 2 = 1 := fun _ => rfl
      simp only [layB, lset, lapp, List.map_nil, List.map_cons, hr, hM, hS, hK2, rnB_emp, rn, rnL, Cap.rn, r3, show ∀ ρ, rnB ρ .num = .num from fun _ => rfl]
      (cbv; repeat' (first | (refine ⟨by simp only [Ops.need_eq, needs]; first | rfl | decide, ?_⟩; try cbv) | (refine mt (fun _ => ?_) (fun _ => ?_) <;> (try cbv))))
      first
      | exact tail _ 5 5 4 (.n 0) _ (by rfl) (by rfl) (by rfl) h11 (by rfl) (by rfl) (by rfl) (by rfl) (by rfl)
      | exact tail _ 5 (5 + 1) 4 (.n 0) _ (by rfl) (by rfl) (by rfl) h11 (by rfl) (by rfl) (by rfl) (by rfl) (by rfl)
set_option maxHeartbeats 1000000 in
theorem Checks6B {W0 : World} {N n0 : Nat} (o : Ops (Ev Tryz.prog W0) (Re W0 N n0)) (c : CallS) (Q' : VV → List VB → Prop) (hQ : ∀ (v : VV) (V' : List VB), ReV W0 0 (fun v V' => v = .bool true) v V' → Q' v V') (hs : List Nat) (h3 : hs.length = 3) (M0 : VB) (hM : ∀ ρ, rnB ρ M0 = M0) (E0 : VB) (me : Int) (n : Nat) (hn : n ≤ 127) (e : Env) (h11 : e 11 = .bool true) :
    wpI o (dropS 6 ir16) (retK o [.tmp 6] Q') (put (put (put (put (put e (some 0) (.int .i64 me)) (some 4) (.ptr 0 0)) (some 8) (.bool (checkCall c))) (some 10) (.ptr 2 0)) (some 12) (.sl 5 9 0 n (.v 4))) (.cells c.cs :: [M0, (bx W0 (shelfU hs)), E0, .num, .arr 9 ((List.replicate n c).map CallS.cs) (.v 4)]) := by
  have tail := fun V p q id cp e' => Checks8 o c Q' hQ V p q me n id cp e'
  have hN1 := New_ev2 (W0 := W0) (hs := hs) (N := hs.length) ⟨fun ρ h => by show VV.ptr (ρ 0) 0 = _; rw [h], fun ρ => rnB_bx W0 _ ρ, shelfLists_ev hs⟩ me (List.replicate n c) (fun j => .v j) (fun j => .v j) (.num) (fun _ => rfl) (fun _ _ => rfl) (fun _ _ => rfl) (by simp; omega)
  have hN2 := NewN_ev2 (W0 := W0) (N := 0) ⟨fun _ _ => rfl, fun _ => rfl, lists0E_ev⟩ me (List.replicate n c) (fun j => .v j) (fun j => .v j) (.num) (fun _ => rfl) (fun _ _ => rfl) (fun _ _ => rfl) (by simp; omega)
  rw [mayW, h3, show (goodW me n (checkCall c) && (decide (c.kind < 6) || decide (3 ≠ 0) || decide (n = 0))) = goodW me n (checkCall c) by simp] at hN1
  rw [mayW, show (goodW me n (checkCall c) && (decide (c.kind < 6) || decide (0 ≠ 0) || decide (n = 0))) = bareW me n c by simp [bareW]] at hN2
  have hX : ∀ ρ, ((List.replicate n c).map CallS.cs).map (rnL ρ) = (List.replicate n c).map CallS.cs := fun ρ => by simp [CallS.rn_cs]
  simp only [List.length_replicate] at hN1 hN2
  generalize hsb : (bx W0 (shelfU hs) : VB) = S0 at *
  have hS : ∀ ρ, rnB ρ S0 = S0 := fun ρ => by rw [← hsb, rnB_bx]
  have hK1 : ∀ ρ, rnB ρ (bx W0 (workE W0 (newWorker me (List.replicate n c)) (some hs))) = bx W0 (workE W0 (newWorker me (List.replicate n c)) (some hs)) := fun ρ => rnB_bx W0 _ ρ
  have hK2 : ∀ ρ, rnB ρ (bx W0 (workE W0 (newWorker me (List.replicate n c)) none)) = bx W0 (workE W0 (newWorker me (List.replicate n c)) none) := fun ρ => rnB_bx W0 _ ρ
  generalize bx W0 (workE W0 (newWorker me (List.replicate n c)) (some hs)) = K1 at *
  generalize bx W0 (workE W0 (newWorker me (List.replicate n c)) none) = K2 at *
  generalize (List.replicate n c).map CallS.cs = xs at *
  have hr : ∀ (ρ : Nat → Nat) c, rnB ρ (.arr 9 xs c) = .arr 9 xs (c.rn ρ) := by intro ρ c; simp only [rnB, hX]
  generalize bareW me n c = bw at *
  generalize goodW me n (checkCall c) = gw at *
  rw [show dropS 6 ir16 = .seq (fstS (dropS 6 ir16)) (.seq (fstS (dropS 7 ir16)) (dropS 8 ir16)) from rfl]
  have hsq : ∀ a b K e V, wpI o (.seq a b) K e V = wpI o a (fun x e V => match x with | .normal => wpI o b K e V | .exit i => K (.exit i) e V | .ret => K .ret e V) e V := fun _ _ _ _ _ => rfl
  simp only [hsq]
  clear hsq
  generalize wpI o (dropS 8 ir16) = R at *
  generalize checkCall c = ck at *
  generalize c.cs = cs at *
  (cbv; repeat' (first | (refine ⟨by simp only [Ops.need_eq, needs]; first | rfl | decide, ?_⟩; try cbv) | (refine mt (fun _ => ?_) (fun _ => ?_) <;> (try cbv))))
  refine Ops.call _ [2, 5, 4] hN1 rfl rfl rfl ⟨.inr (by rw [hS]; rfl), .inr (by rw [hr]; rfl), .inr rfl, trivial⟩ ?_
  rintro v V' hv
  cases gw
  all_goals
    simp only [if_true, Bool.false_eq_true, if_false] at hv tail
    obtain ⟨rfl, rfl⟩ := hv
    have r2 : ∀ m, rho [2, 5, 4] m 2 = 4 := fun _ => rfl
    simp only [layB, lset, lapp, List.map_nil, List.map_cons, hr, hM, hS, hK1, rnB_emp, rn, rnL, Cap.rn, r2, show ∀ ρ, rnB ρ .num = .num from fun _ => rfl]
    (cbv; repeat' (first | (refine ⟨by simp only [Ops.need_eq, needs]; first | rfl | decide, ?_⟩; try cbv) | (refine mt (fun _ => ?_) (fun _ => ?_) <;> (try cbv))))
    refine Ops.call _ [3, 5, 4] hN2 rfl rfl rfl ⟨.inl rfl, .inr (by rw [hr]; rfl), .inr rfl, trivial⟩ ?_
    rintro v V' hv
    cases bw
    all_goals
      simp only [if_true, Bool.false_eq_true, if_false] at hv tail
      obtain ⟨rfl, rfl⟩ := hv
      have r3 : ∀ m, rho [3, 5, 4] m 2 = 4 := fun _ => rfl
      simp only [layB, lset, lapp, List.map_nil, List.map_cons, hr, hM, hS, hK2, rnB_emp, rn, rnL, Cap.rn, r3, show ∀ ρ, rnB ρ .num = .num from fun _ => rfl]
      (cbv; repeat' (first | (refine ⟨by simp only [Ops.need_eq, needs]; first | rfl | decide, ?_⟩; try cbv) | (refine mt (fun _ => ?_) (fun _ => ?_) <;> (try cbv))))
      first
      | exact tail _ 6 6 5 (.v 4) _ (by rfl) (by rfl) (by rfl) h11 (by rfl) (by rfl) (by rfl) (by rfl) (by rfl)
      | exact tail _ 6 (6 + 1) 5 (.v 4) _ (by rfl) (by rfl) (by rfl) h11 (by rfl) (by rfl) (by rfl) (by rfl) (by rfl)
def slI : Nat → VV
  | 0 => .sl 4 9 0 0 (.n 0)
  | i + 1 => .sl 5 9 0 (i + 1) (.v 4)
def hI (cs : List VV) (M S E : VB) : Nat → List VB
  | 0 => [.cells cs, M, S, E, .arr 9 [] (.n 0)]
  | i + 1 => [.cells cs, M, S, E, .num, .arr 9 (List.replicate (i + 1) cs) (.v 4)]
set_option maxHeartbeats 1000000 in
theorem Checks3p {W0 : World} {N n0 : Nat} (o : Ops (Ev Tryz.prog W0) (Re W0 N n0)) (hn0 : n0 = 0) (c : CallS) (Q' : VV → List VB → Prop) (hQ : ∀ (v : VV) (V' : List VB), ReV W0 0 (fun v V' => v = .bool true) v V' → Q' v V') (hs : List Nat) (m : MemS) (hb : begun18 = some (hs, m)) (h3 : hs.length = 3) (me many : Int) (e : Env) :
    wpI o (dropS 3 ir16) (retK o [.tmp 6] Q') (put (put (put (put e (some 0) (.int .i64 me)) (some 2) (.int .i64 many)) (some 4) (.ptr 0 0)) (some 8) (.bool (checkCall c))) [.cells c.cs] := by
  subst hn0
  have hB := begun18_ev (W0 := W0) hb
  have hE : arena18.v 0 = .agg [.int .i64 1, .int .i64 30, .int .i64 16, .int .i64 40, .int .i64 100, .int .i64 600, .int .i64 3, .ptr 0 0, .int .i64 0] := rfl
  rw [hE] at hB
  have tA := fun M0 hM E0 e => Checks6A (W0 := W0) o c Q' hQ hs h3 M0 hM E0 me 0 (by omega) rfl e
  have tB := fun M0 hM E0 n hn e => Checks6B (W0 := W0) o c Q' hQ hs h3 M0 hM E0 me n hn e
  have hand : ∃ n : Nat, arith .and .i64 many 127 = n ∧ n ≤ 127 := ⟨u64i many &&& 127, andIo (by decide), Nat.and_le_right⟩
  obtain ⟨n, hn, hn127⟩ := hand
  rw [show dropS 3 ir16 = .seq (fstS (dropS 3 ir16)) (.seq (fstS (dropS 4 ir16)) (.seq (fstS (dropS 5 ir16)) (dropS 6 ir16))) from rfl]
  have hsq : ∀ a b K e V, wpI o (.seq a b) K e V = wpI o a (fun x e V => match x with | .normal => wpI o b K e V | .exit i => K (.exit i) e V | .ret => K .ret e V) e V := fun _ _ _ _ _ => rfl
  simp only [hsq]
  clear hsq
  generalize wpI o (dropS 6 ir16) = R at *
  generalize checkCall c = ck at *
  have hcl : ∃ a1 a2 a3 a4 a5 a6 a7 a8 a9, c.cs = [.int .i64 a1, .int .i64 a2, .int .i64 a3, .int .i64 a4, .int .u64 a5, .int .i64 a6, .int .i64 a7, .int .i64 a8, .int .i64 a9] := ⟨_, _, _, _, _, _, _, _, _, rfl⟩
  have hmap : ∀ n, (List.replicate n c).map CallS.cs = List.replicate n c.cs := fun n => by simp
  simp only [hmap] at tA tB
  clear hmap
  generalize c.cs = cs at *
  obtain ⟨a1, a2, a3, a4, a5, a6, a7, a8, a9, rfl⟩ := hcl
  (cbv; repeat' (first | (refine ⟨by simp only [Ops.need_eq, needs]; first | rfl | decide, ?_⟩; try cbv) | (refine mt (fun _ => ?_) (fun _ => ?_) <;> (try cbv))))
  refine Ops.call _ [] hB rfl rfl rfl trivial ?_
  rintro v V' ⟨rfl, rfl⟩
  simp only [layB, lset, lapp, List.map_cons, List.map_nil, rnB_bx, rn, rnL]
  have hM : ∀ ρ, rnB ρ (bx W0 (memU m)) = bx W0 (memU m) := fun ρ => rnB_bx W0 _ ρ
  have hS : ∀ ρ, rnB ρ (bx W0 (shelfU hs)) = bx W0 (shelfU hs) := fun ρ => rnB_bx W0 _ ρ
  generalize bx W0 (memU m) = M at *
  generalize bx W0 (shelfU hs) = S at *
  (cbv; repeat' (first | (refine ⟨by simp only [Ops.need_eq, needs]; first | rfl | decide, ?_⟩; try cbv) | (refine mt (fun _ => ?_) (fun _ => ?_) <;> (try cbv))))
  have hz : ∀ (E : VB), (∀ ρ, rnB ρ E = E) → True := fun _ _ => trivial
  refine ⟨fun k env V => ∃ (i : Nat) (r : Nat → Value), i + k = n ∧ env = mix [(0, .int .i64 me), (2, .int .i64 many), (4, .ptr 0 0), (8, .bool ck), (10, .ptr 2 0), (11, .bool true), (12, slI i), (13, .int .i64 i)] r ∧
      V = hI [.int .i64 a1, .int .i64 a2, .int .i64 a3, .int .i64 a4, .int .u64 a5, .int .i64 a6, .int .i64 a7, .int .i64 a8, .int .i64 a9] M S .emp i,
    ⟨n, o.reI (Re.ren [0, 1, 2, 3, 4] _ _ rfl rfl ?_ ?_ fun r => ⟨0, r, by omega, rfl, rfl⟩)⟩, ?_⟩
  · exact ⟨rfl, rfl, rfl, rfl, rfl, rfl, rfl, rfl, trivial⟩
  · exact ⟨.inr rfl, .inr (by rw [hM]; rfl), .inr (by rw [hS]; rfl), .inl rfl, .inr rfl, trivial⟩
  rintro k env V ⟨i, r, hik, rfl, rfl⟩
  have tA2 : ∀ e : Env, e 0 = .int .i64 me → e 4 = .ptr 0 0 → e 8 = .bool ck → e 10 = .ptr 2 0 → e 11 = .bool true → e 12 = .sl 4 9 0 0 (.n 0) → R (retK o [.tmp 6] Q') e [.cells [.int .i64 a1, .int .i64 a2, .int .i64 a3, .int .i64 a4, .int .u64 a5, .int .i64 a6, .int .i64 a7, .int .i64 a8, .int .i64 a9], M, S, .emp, .arr 9 [] (.n 0)] := by
    intro e h0 h4 h8 h10 h11 h12
    have h := tA M hM .emp e h11
    rw [put_self e 0 h0, put_self e 4 h4, put_self e 8 h8, put_self e 10 h10, put_self e 12 h12] at h
    exact h
  have tB2 : ∀ n, n ≤ 127 → ∀ e : Env, e 0 = .int .i64 me → e 4 = .ptr 0 0 → e 8 = .bool ck → e 10 = .ptr 2 0 → e 11 = .bool true → e 12 = .sl 5 9 0 n (.v 4) → R (retK o [.tmp 6] Q') e [.cells [.int .i64 a1, .int .i64 a2, .int .i64 a3, .int .i64 a4, .int .u64 a5, .int .i64 a6, .int .i64 a7, .int .i64 a8, .int .i64 a9], M, S, .emp, .num, .arr 9 (List.replicate n [.int .i64 a1, .int .i64 a2, .int .i64 a3, .int .i64 a4, .int .u64 a5, .int .i64 a6, .int .i64 a7, .int .i64 a8, .int .i64 a9]) (.v 4)] := by
    intro n hn e h0 h4 h8 h10 h11 h12
    have h := tB M hM .emp n hn e h11
    rw [put_self e 0 h0, put_self e 4 h4, put_self e 8 h8, put_self e 10 h10, put_self e 12 h12] at h
    exact h
  clear tA tB
  rcases i with _ | i
  · simp only [slI, hI]
    (cbv; repeat' (first | (refine ⟨by simp only [Ops.need_eq, needs]; first | rfl | decide, ?_⟩; try cbv) | (refine mt (fun _ => ?_) (fun _ => ?_) <;> (try cbv))))
    · have hlt : 0 < n := by rename_i h; (try simp only [cfix] at *); (try simp only [Int.ofNat_eq_natCast] at *); simp [Ops.cmp_eq, icmp, Ops.ar_eq, hn] at h; omega
      refine ⟨by simp [o.ll_eq, o.sub_eq], by simp [o.all1_eq, o.sub_eq, allOne, VV.one], ⟨by simp [o.ll_eq], by simp [o.nmul_eq], by simp [o.nle_eq, o.nmul_eq, o.nadd_eq]⟩, .inr fun _ => ?_⟩
      (cbv; repeat' (first | (refine ⟨by simp only [Ops.need_eq, needs]; first | rfl | decide, ?_⟩; try cbv) | (refine mt (fun _ => ?_) (fun _ => ?_) <;> (try cbv))))
      refine ⟨k - 1, by omega, o.reI (Re.ren [0, 1, 2, 3, 6, 7] _ _ rfl rfl ?_ ?_ fun r => ⟨1, r, by omega, rfl, rfl⟩)⟩
      · exact ⟨rfl, rfl, rfl, rfl, rfl, rfl, by simp only [Ops.nadd_eq]; rfl, congrArg (VV.int .i64) (by simp only [Ops.ar_eq]; exact add1 (i := 0) (by omega)), trivial⟩
      · exact ⟨.inr rfl, .inr (by rw [hM]; rfl), .inr (by rw [hS]; rfl), .inl rfl, .inr rfl, .inr (by simp only [Ops.cat_eq, Ops.sub_eq]; rfl), trivial⟩
    · have hz0 : n = 0 := by rename_i h; (try simp only [cfix] at *); (try simp only [Int.ofNat_eq_natCast] at *); simp [Ops.cmp_eq, icmp, Ops.ar_eq, hn] at h; omega
      exact tA2 _ (by rfl) (by rfl) (by rfl) (by rfl) (by rfl) (by rfl)
  · simp only [slI, hI]
    generalize hxs : List.replicate (i + 1) [VV.int .i64 a1, .int .i64 a2, .int .i64 a3, .int .i64 a4, .int .u64 a5, .int .i64 a6, .int .i64 a7, .int .i64 a8, .int .i64 a9] = xs
    have hxl : xs.length = i + 1 := by rw [← hxs]; simp
    have hx1 : xs ++ [[VV.int .i64 a1, .int .i64 a2, .int .i64 a3, .int .i64 a4, .int .u64 a5, .int .i64 a6, .int .i64 a7, .int .i64 a8, .int .i64 a9]] = List.replicate (i + 2) [VV.int .i64 a1, .int .i64 a2, .int .i64 a3, .int .i64 a4, .int .u64 a5, .int .i64 a6, .int .i64 a7, .int .i64 a8, .int .i64 a9] := by
      rw [← hxs, ← List.replicate_succ' (n := i + 1)]
    have hX : ∀ ρ, (List.replicate (i + 2) [VV.int .i64 a1, .int .i64 a2, .int .i64 a3, .int .i64 a4, .int .u64 a5, .int .i64 a6, .int .i64 a7, .int .i64 a8, .int .i64 a9]).map (rnL ρ) = List.replicate (i + 2) [VV.int .i64 a1, .int .i64 a2, .int .i64 a3, .int .i64 a4, .int .u64 a5, .int .i64 a6, .int .i64 a7, .int .i64 a8, .int .i64 a9] := fun ρ => by rw [List.map_replicate]; rfl
    (cbv; repeat' (first | (refine ⟨by simp only [Ops.need_eq, needs]; first | rfl | decide, ?_⟩; try cbv) | (refine mt (fun _ => ?_) (fun _ => ?_) <;> (try cbv))))
    · have hlt : i + 1 < n := by rename_i h; (try simp only [cfix] at *); (try simp only [Int.ofNat_eq_natCast] at *); simp [Ops.cmp_eq, icmp, Ops.ar_eq, hn] at h; omega
      refine ⟨by simp [o.ll_eq, o.sub_eq], by simp [o.all1_eq, o.sub_eq, allOne, VV.one], ⟨by simp [o.ll_eq, hxl], by simp [o.nle_eq, o.nmul_eq, o.nadd_eq]; omega⟩, ?_⟩
      refine ⟨k - 1, by omega, o.reI (Re.ren [0, 1, 2, 3, 7, 8] _ _ rfl rfl ?_ ?_ fun r => ⟨i + 2, r, by omega, rfl, rfl⟩)⟩
      · exact ⟨rfl, rfl, rfl, rfl, rfl, rfl, by simp only [Ops.nadd_eq]; rfl, congrArg (VV.int .i64) (by simp only [Ops.ar_eq]; exact add1 (i := i + 1) (by omega)), trivial⟩
      · refine ⟨.inr rfl, .inr (by rw [hM]; rfl), .inr (by rw [hS]; rfl), .inl rfl, .inr rfl, .inr ?_, trivial⟩
        simp only [Ops.cat_eq, Ops.sub_eq, List.drop_zero, List.take_succ_cons, List.take_zero]
        rw [hx1]
        show _ = some (VB.arr 9 (List.map (rnL _) (List.replicate (i + 2) _)) _)
        rw [hX]; rfl
    · have hz0 : n = i + 1 := by rename_i h; (try simp only [cfix] at *); (try simp only [Int.ofNat_eq_natCast] at *); simp [Ops.cmp_eq, icmp, Ops.ar_eq, hn] at h; omega
      rw [← hxs]
      exact tB2 (i + 1) (by omega) _ (by rfl) (by rfl) (by rfl) (by rfl) (by rfl) (by rfl)
theorem WorkerChecks_ev {W0 : World} (me : Int) (c : CallS) (many : Int) : Ev Tryz.prog W0 16 [.int .i64 me, .agg c.cs, .int .i64 many] [] (fun v V' => v = .bool true) := by
  have hok := awake18_ok
  unfold awake18 at hok
  cases hb : begun18 with
  | none => rw [hb] at hok; cases hok
  | some r =>
  clear hok
  obtain ⟨hs, m⟩ := r
  obtain ⟨_, _, _, _, _, _, _, h3, _⟩ := later_all 2 0 (.inl rfl) hb
  have hCe := checkCall_eq c
  refine Ev.out fun Q' hQ => ?_
  refine ev16 rfl fun o => ?_
  have tail' : ∀ e : Env, e 0 = .int .i64 me → e 2 = .int .i64 many → e 4 = .ptr 0 0 → e 8 = .bool (checkCall c) → wpI o (dropS 3 ir16) (retK o [.tmp 6] Q') e [.cells c.cs] := by
    intro e h0 h2 h4 h8
    have := Checks3p o rfl c Q' hQ hs m hb h3 me many e
    rw [put_self e 0 h0, put_self e 2 h2, put_self e 4 h4, put_self e 8 h8] at this
    exact this
  rw [show ir16 = .seq (fstS ir16) (.seq (fstS (dropS 1 ir16)) (.seq (fstS (dropS 2 ir16)) (dropS 3 ir16))) from rfl]
  have hsq : ∀ a b K e V, wpI o (.seq a b) K e V = wpI o a (fun x e V => match x with | .normal => wpI o b K e V | .exit i => K (.exit i) e V | .ret => K .ret e V) e V := fun _ _ _ _ _ => rfl
  simp only [hsq]
  clear hsq
  generalize wpI o (dropS 3 ir16) = R at *
  obtain ⟨k, z, w, a, r, i, x, y, ke⟩ := c
  simp only [CallS.cs] at *
  clear hb hQ
  (cbv; repeat' (first | (refine ⟨by simp only [Ops.need_eq, needs]; first | rfl | decide, ?_⟩; try cbv) | (refine mt (fun _ => ?_) (fun _ => ?_) <;> (try cbv))))
  all_goals
    refine tail' _ ?_ ?_ ?_ ?_
    · rfl
    · rfl
    · rfl
    rw [hCe]
    refine congrArg VV.bool ?_
    simp only [Ops.cmp_eq, icmp, decide_eq_true_eq, decide_eq_false_iff_not] at *
    clear tail' hCe
    rw [Bool.eq_iff_iff]
    simp only [Bool.or_eq_true, Bool.and_eq_true, decide_eq_true_eq, Bool.false_eq_true, true_iff, false_iff]
    omega
end Go.Proofs.YtglghdjpkecngaaGreat
