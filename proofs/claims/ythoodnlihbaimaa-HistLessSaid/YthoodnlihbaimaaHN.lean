/- hist: the library's merge: its third case, behind its search. -/
import Derived.Test.YthoodnlihbaimaaHL
import Derived.Test.YthoodnlihbaimaaIRr
namespace Go.Proofs.Ythoodnlihbaimaa
set_option linter.unusedVariables false
set_option linter.unusedSimpArgs false
open Go Go.SL Go.FL
set_option maxRecDepth 100000
theorem put_self (e : Env) (t : Nat) {v : VV} (h : e t = v) : put e (some t) v = e := by
  funext x
  simp only [put]
  cases hx : Nat.beq x t with
  | false => rfl
  | true => rw [Nat.eq_of_beq_eq_true hx, h]
abbrev ArrP (xs : List (List VV)) : Prop := ∀ (ρ : Nat → Nat) c, rnB ρ (.arr 18 xs c) = .arr 18 xs (c.rn ρ)
abbrev EvM (W0 : World) (f : FuncId) (N cap : Nat) (p q r : Nat) (xs : List (List VV)) (tot : Nat) (ys : List (List VV)) : Prop :=
  Ev Try.prog W0 f [.sl 0 18 0 N cap, .int .i64 p, .int .i64 q, .int .i64 r, .fn 28 [] []] [.arr 18 xs tot] (fun v V' => v = .tup [] ∧ V' = [.arr 18 ys tot])
abbrev OutM (W0 : World) (Q' : VV → List VB → Prop) (xs : List (List VV)) (tot : Nat) : Prop := ∀ (v : VV) (V' : List VB), ReV W0 1 (fun v V' => v = .tup [] ∧ V' = [.arr 18 xs tot]) v V' → Q' v V'
theorem symT11p {W0 : World} {K0 : Nat} (o : Ops (Ev Try.prog W0) (Re W0 K0 1)) (Q' : VV → List VB → Prop) (N cap tot b mid e : Nat) (x0 x1 : List (List VV)) (p0 : ArrP x0) (p1 : ArrP x1)
    (h1 : mid < e → e < b → EvM W0 56 N cap mid e b x0 tot x1) (h2 : ¬ (mid < e ∧ e < b) → x0 = x1) (hQ : OutM W0 Q' x1 tot) (env : Env) :
    wpI o (dropS 11 ir56) (retK o [] Q') (put (put (put (put (put env (some 0) (.sl 0 18 0 N cap)) (some 3) (.int .i64 b)) (some 4) (.fn 28 [] [])) (some 18) (.int .i64 mid)) (some 24) (.int .i64 e)) [.arr 18 x0 tot] := by
  by_cases c1 : mid < e
  · by_cases c2 : e < b
    · have hE := h1 c1 c2
      clear h1 h2
      (cbv; repeat' (first | (refine ⟨by simp only [Ops.need_eq, needs]; first | rfl | decide, ?_⟩; try cbv) | (refine mt (fun h => ?_) (fun h => ?_) <;> first | (exfalso; simp [Ops.cmp_eq, Ops.not_eq, icmp] at h; done) | (exfalso; simp [Ops.cmp_eq, icmp] at h; omega) | (try cbv))))
      refine Ops.call _ [0] hE rfl rfl rfl ⟨.inr (by rw [p0]; rfl), trivial⟩ ?_
      rintro v V' ⟨rfl, rfl⟩
      simp only [layB, lset, lapp, List.map_nil, List.map_cons, p1, rn, rnL, Cap.rn]
      (cbv; repeat' (first | (refine ⟨by simp only [Ops.need_eq, needs]; first | rfl | decide, ?_⟩; try cbv) | (refine mt (fun h => ?_) (fun h => ?_) <;> first | (exfalso; simp [Ops.cmp_eq, Ops.not_eq, icmp] at h; done) | (exfalso; simp [Ops.cmp_eq, icmp] at h; omega) | (try cbv))))
      exact hQ _ _ (ReV.ren [0] (.tup []) [.arr 18 x1 tot] rfl rfl rfl ⟨.inr (by rw [p1]; rfl), trivial⟩ ⟨rfl, rfl⟩)
    · have := h2 (fun h => c2 h.2)
      subst this
      clear h1 h2
      (cbv; repeat' (first | (refine ⟨by simp only [Ops.need_eq, needs]; first | rfl | decide, ?_⟩; try cbv) | (refine mt (fun h => ?_) (fun h => ?_) <;> first | (exfalso; simp [Ops.cmp_eq, Ops.not_eq, icmp] at h; done) | (exfalso; simp [Ops.cmp_eq, icmp] at h; omega) | (try cbv))))
      exact hQ _ _ (ReV.ren [0] (.tup []) [.arr 18 x0 tot] rfl rfl rfl ⟨.inr (by rw [p0]; rfl), trivial⟩ ⟨rfl, rfl⟩)
  · have := h2 (fun h => c1 h.1)
    subst this
    clear h1 h2
    (cbv; repeat' (first | (refine ⟨by simp only [Ops.need_eq, needs]; first | rfl | decide, ?_⟩; try cbv) | (refine mt (fun h => ?_) (fun h => ?_) <;> first | (exfalso; simp [Ops.cmp_eq, Ops.not_eq, icmp] at h; done) | (exfalso; simp [Ops.cmp_eq, icmp] at h; omega) | (try cbv))))
    exact hQ _ _ (ReV.ren [0] (.tup []) [.arr 18 x0 tot] rfl rfl rfl ⟨.inr (by rw [p0]; rfl), trivial⟩ ⟨rfl, rfl⟩)
theorem symT11 {W0 : World} {K0 : Nat} (o : Ops (Ev Try.prog W0) (Re W0 K0 1)) (Q' : VV → List VB → Prop) (N cap tot b mid e : Nat) (x0 x1 : List (List VV)) (p0 : ArrP x0) (p1 : ArrP x1)
    (h1 : mid < e → e < b → EvM W0 56 N cap mid e b x0 tot x1) (h2 : ¬ (mid < e ∧ e < b) → x0 = x1) (hQ : OutM W0 Q' x1 tot) (env : Env)
    (e0 : env 0 = .sl 0 18 0 N cap) (e3 : env 3 = .int .i64 b) (e4 : env 4 = .fn 28 [] []) (e18 : env 18 = .int .i64 mid) (e24 : env 24 = .int .i64 e) :
    wpI o (dropS 11 ir56) (retK o [] Q') env [.arr 18 x0 tot] := by
  have h := symT11p o Q' N cap tot b mid e x0 x1 p0 p1 h1 h2 hQ env
  rw [put_self env 0 e0, put_self env 3 e3, put_self env 4 e4, put_self env 18 e18, put_self env 24 e24] at h
  exact h
theorem symT10p {W0 : World} {K0 : Nat} (o : Ops (Ev Try.prog W0) (Re W0 K0 1)) (Q' : VV → List VB → Prop) (N cap tot a b mid s e : Nat) (x0 x1 x2 : List (List VV)) (p0 : ArrP x0) (p1 : ArrP x1) (p2 : ArrP x2)
    (g1 : a < s → s < mid → EvM W0 56 N cap a s mid x0 tot x1) (g2 : ¬ (a < s ∧ s < mid) → x0 = x1)
    (h1 : mid < e → e < b → EvM W0 56 N cap mid e b x1 tot x2) (h2 : ¬ (mid < e ∧ e < b) → x1 = x2) (hQ : OutM W0 Q' x2 tot) (env : Env) 
    (e3 : env 3 = .int .i64 b) (e24 : env 24 = .int .i64 e) :
    wpI o (dropS 10 ir56) (retK o [] Q') (put (put (put (put (put env (some 0) (.sl 0 18 0 N cap)) (some 1) (.int .i64 a)) (some 4) (.fn 28 [] [])) (some 18) (.int .i64 mid)) (some 20) (.int .i64 s)) [.arr 18 x0 tot] := by
  have tail := fun env' => symT11 o Q' N cap tot b mid e x1 x2 p1 p2 h1 h2 hQ env'
  rw [show dropS 10 ir56 = .seq (fstS (dropS 10 ir56)) (dropS 11 ir56) from rfl]
  have hsq : ∀ a b K e V, wpI o (.seq a b) K e V = wpI o a (fun x e V => match x with | .normal => wpI o b K e V | .exit i => K (.exit i) e V | .ret => K .ret e V) e V := fun _ _ _ _ _ => rfl
  simp only [hsq]
  clear hsq h1 h2 hQ
  generalize wpI o (dropS 11 ir56) = R at *
  by_cases c1 : a < s
  · by_cases c2 : s < mid
    · have hE := g1 c1 c2
      clear g1 g2
      (cbv; repeat' (first | (refine ⟨by simp only [Ops.need_eq, needs]; first | rfl | decide, ?_⟩; try cbv) | (refine mt (fun h => ?_) (fun h => ?_) <;> first | (exfalso; simp [Ops.cmp_eq, Ops.not_eq, icmp] at h; done) | (exfalso; simp [Ops.cmp_eq, icmp] at h; omega) | (try cbv))))
      refine Ops.call _ [0] hE rfl rfl rfl ⟨.inr (by rw [p0]; rfl), trivial⟩ ?_
      rintro v V' ⟨rfl, rfl⟩
      simp only [layB, lset, lapp, List.map_nil, List.map_cons, p1, rn, rnL, Cap.rn]
      (cbv; repeat' (first | (refine ⟨by simp only [Ops.need_eq, needs]; first | rfl | decide, ?_⟩; try cbv) | (refine mt (fun h => ?_) (fun h => ?_) <;> first | (exfalso; simp [Ops.cmp_eq, Ops.not_eq, icmp] at h; done) | (exfalso; simp [Ops.cmp_eq, icmp] at h; omega) | (try cbv))))
      refine tail _ ?_ ?_ ?_ ?_ ?_
      · rfl
      · exact e3
      · rfl
      · rfl
      · exact e24
    · have := g2 (fun h => c2 h.2)
      subst this
      clear g1 g2
      (cbv; repeat' (first | (refine ⟨by simp only [Ops.need_eq, needs]; first | rfl | decide, ?_⟩; try cbv) | (refine mt (fun h => ?_) (fun h => ?_) <;> first | (exfalso; simp [Ops.cmp_eq, Ops.not_eq, icmp] at h; done) | (exfalso; simp [Ops.cmp_eq, icmp] at h; omega) | (try cbv))))
      refine tail _ ?_ ?_ ?_ ?_ ?_
      · rfl
      · exact e3
      · rfl
      · rfl
      · exact e24
  · have := g2 (fun h => c1 h.1)
    subst this
    clear g1 g2
    (cbv; repeat' (first | (refine ⟨by simp only [Ops.need_eq, needs]; first | rfl | decide, ?_⟩; try cbv) | (refine mt (fun h => ?_) (fun h => ?_) <;> first | (exfalso; simp [Ops.cmp_eq, Ops.not_eq, icmp] at h; done) | (exfalso; simp [Ops.cmp_eq, icmp] at h; omega) | (try cbv))))
    refine tail _ ?_ ?_ ?_ ?_ ?_
    · rfl
    · exact e3
    · rfl
    · rfl
    · exact e24
theorem symT10 {W0 : World} {K0 : Nat} (o : Ops (Ev Try.prog W0) (Re W0 K0 1)) (Q' : VV → List VB → Prop) (N cap tot a b mid s e : Nat) (x0 x1 x2 : List (List VV)) (p0 : ArrP x0) (p1 : ArrP x1) (p2 : ArrP x2)
    (g1 : a < s → s < mid → EvM W0 56 N cap a s mid x0 tot x1) (g2 : ¬ (a < s ∧ s < mid) → x0 = x1)
    (h1 : mid < e → e < b → EvM W0 56 N cap mid e b x1 tot x2) (h2 : ¬ (mid < e ∧ e < b) → x1 = x2) (hQ : OutM W0 Q' x2 tot) (env : Env) 
    (e0 : env 0 = .sl 0 18 0 N cap) (e1 : env 1 = .int .i64 a) (e3 : env 3 = .int .i64 b) (e4 : env 4 = .fn 28 [] []) (e18 : env 18 = .int .i64 mid) (e20 : env 20 = .int .i64 s) (e24 : env 24 = .int .i64 e) :
    wpI o (dropS 10 ir56) (retK o [] Q') env [.arr 18 x0 tot] := by
  have h := symT10p o Q' N cap tot a b mid s e x0 x1 x2 p0 p1 p2 g1 g2 h1 h2 hQ env e3 e24
  rw [put_self env 0 e0, put_self env 1 e1, put_self env 4 e4, put_self env 18 e18, put_self env 20 e20] at h
  exact h
theorem symT8p {W0 : World} {K0 : Nat} (o : Ops (Ev Try.prog W0) (Re W0 K0 1)) (Q' : VV → List VB → Prop) (N cap tot a m b mid n s e : Nat) (x x0 x1 x2 : List (List VV)) (p : ArrP x) (p0 : ArrP x0) (p1 : ArrP x1) (p2 : ArrP x2)
    (he : arith .sub .i64 (n : Int) (s : Int) = ((e : Nat) : Int))
    (f1 : s < m → m < e → EvM W0 62 N cap s m e x tot x0) (f2 : ¬ (s < m ∧ m < e) → x = x0)
    (g1 : a < s → s < mid → EvM W0 56 N cap a s mid x0 tot x1) (g2 : ¬ (a < s ∧ s < mid) → x0 = x1)
    (h1 : mid < e → e < b → EvM W0 56 N cap mid e b x1 tot x2) (h2 : ¬ (mid < e ∧ e < b) → x1 = x2) (hQ : OutM W0 Q' x2 tot) (env : Env) 
    (e1 : env 1 = .int .i64 a) (e3 : env 3 = .int .i64 b) (e18 : env 18 = .int .i64 mid) :
    wpI o (dropS 8 ir56) (retK o [] Q') (put (put (put (put (put env (some 0) (.sl 0 18 0 N cap)) (some 2) (.int .i64 m)) (some 4) (.fn 28 [] [])) (some 19) (.int .i64 n)) (some 20) (.int .i64 s)) [.arr 18 x tot] := by
  have tail := fun env' => symT10 o Q' N cap tot a b mid s e x0 x1 x2 p0 p1 p2 g1 g2 h1 h2 hQ env'
  rw [show dropS 8 ir56 = .seq (fstS (dropS 8 ir56)) (.seq (fstS (dropS 9 ir56)) (dropS 10 ir56)) from rfl]
  have hsq : ∀ a b K e V, wpI o (.seq a b) K e V = wpI o a (fun x e V => match x with | .normal => wpI o b K e V | .exit i => K (.exit i) e V | .ret => K .ret e V) e V := fun _ _ _ _ _ => rfl
  simp only [hsq]
  clear hsq h1 h2 hQ g1 g2
  generalize wpI o (dropS 10 ir56) = R at *
  by_cases c1 : s < m
  · by_cases c2 : m < e
    · have hE := f1 c1 c2
      clear f1 f2
      (cbv; repeat' (first | (refine ⟨by simp only [Ops.need_eq, needs]; first | rfl | decide, ?_⟩; try cbv) | (refine mt (fun h => ?_) (fun h => ?_) <;> first | (exfalso; simp [Ops.cmp_eq, Ops.not_eq, Ops.beq_eq, icmp, o.ar_eq, he] at h; done) | (exfalso; simp [Ops.cmp_eq, Ops.not_eq, Ops.beq_eq, icmp, o.ar_eq, he] at h; omega) | (try cbv))))
      simp only [o.ar_eq, Int.ofNat_eq_natCast, he]
      refine Ops.call _ [0] hE rfl rfl rfl ⟨.inr (by rw [p]; rfl), trivial⟩ ?_
      rintro v V' ⟨rfl, rfl⟩
      simp only [layB, lset, lapp, List.map_nil, List.map_cons, p0, rn, rnL, Cap.rn]
      (cbv; repeat' (first | (refine ⟨by simp only [Ops.need_eq, needs]; first | rfl | decide, ?_⟩; try cbv) | (refine mt (fun h => ?_) (fun h => ?_) <;> first | (exfalso; simp [Ops.cmp_eq, Ops.not_eq, icmp] at h; done) | (exfalso; simp [Ops.cmp_eq, icmp] at h; omega) | (try cbv))))
      refine tail _ ?_ ?_ ?_ ?_ ?_ ?_ ?_
      · rfl
      · exact e1
      · exact e3
      · rfl
      · exact e18
      · rfl
      · rfl
    · have := f2 (fun h => c2 h.2)
      subst this
      clear f1 f2
      (cbv; repeat' (first | (refine ⟨by simp only [Ops.need_eq, needs]; first | rfl | decide, ?_⟩; try cbv) | (refine mt (fun h => ?_) (fun h => ?_) <;> first | (exfalso; simp [Ops.cmp_eq, Ops.not_eq, Ops.beq_eq, icmp, o.ar_eq, he] at h; done) | (exfalso; simp [Ops.cmp_eq, Ops.not_eq, Ops.beq_eq, icmp, o.ar_eq, he] at h; omega) | (try cbv))))
      refine tail _ ?_ ?_ ?_ ?_ ?_ ?_ ?_
      · rfl
      · exact e1
      · exact e3
      · rfl
      · exact e18
      · rfl
      · exact congrArg (VV.int .i64) (by simp only [Ops.ar_eq]; exact he)
  · have := f2 (fun h => c1 h.1)
    subst this
    clear f1 f2
    (cbv; repeat' (first | (refine ⟨by simp only [Ops.need_eq, needs]; first | rfl | decide, ?_⟩; try cbv) | (refine mt (fun h => ?_) (fun h => ?_) <;> first | (exfalso; simp [Ops.cmp_eq, Ops.not_eq, Ops.beq_eq, icmp, o.ar_eq, he] at h; done) | (exfalso; simp [Ops.cmp_eq, Ops.not_eq, Ops.beq_eq, icmp, o.ar_eq, he] at h; omega) | (try cbv))))
    refine tail _ ?_ ?_ ?_ ?_ ?_ ?_ ?_
    · rfl
    · exact e1
    · exact e3
    · rfl
    · exact e18
    · rfl
    · exact congrArg (VV.int .i64) (by simp only [Ops.ar_eq]; exact he)
theorem symT8 {W0 : World} {K0 : Nat} (o : Ops (Ev Try.prog W0) (Re W0 K0 1)) (Q' : VV → List VB → Prop) (N cap tot a m b mid n s e : Nat) (x x0 x1 x2 : List (List VV)) (p : ArrP x) (p0 : ArrP x0) (p1 : ArrP x1) (p2 : ArrP x2)
    (he : arith .sub .i64 (n : Int) (s : Int) = ((e : Nat) : Int))
    (f1 : s < m → m < e → EvM W0 62 N cap s m e x tot x0) (f2 : ¬ (s < m ∧ m < e) → x = x0)
    (g1 : a < s → s < mid → EvM W0 56 N cap a s mid x0 tot x1) (g2 : ¬ (a < s ∧ s < mid) → x0 = x1)
    (h1 : mid < e → e < b → EvM W0 56 N cap mid e b x1 tot x2) (h2 : ¬ (mid < e ∧ e < b) → x1 = x2) (hQ : OutM W0 Q' x2 tot) (env : Env) 
    (e0 : env 0 = .sl 0 18 0 N cap) (e1 : env 1 = .int .i64 a) (e2 : env 2 = .int .i64 m) (e3 : env 3 = .int .i64 b) (e4 : env 4 = .fn 28 [] []) (e18 : env 18 = .int .i64 mid) (e19 : env 19 = .int .i64 n) (e20 : env 20 = .int .i64 s) :
    wpI o (dropS 8 ir56) (retK o [] Q') env [.arr 18 x tot] := by
  have h := symT8p o Q' N cap tot a m b mid n s e x x0 x1 x2 p p0 p1 p2 he f1 f2 g1 g2 h1 h2 hQ env e1 e3 e18
  rw [put_self env 0 e0, put_self env 2 e2, put_self env 4 e4, put_self env 19 e19, put_self env 20 e20] at h
  exact h
end Go.Proofs.Ythoodnlihbaimaa
