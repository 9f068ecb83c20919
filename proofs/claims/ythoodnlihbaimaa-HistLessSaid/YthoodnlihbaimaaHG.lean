/- hist: the library's swapRange and rotate. -/
import Derived.Test.YthoodnlihbaimaaHT
import Derived.Test.YthoodnlihbaimaaIRr
namespace Go.Proofs.Ythoodnlihbaimaa
set_option linter.unusedVariables false
set_option linter.unusedSimpArgs false
open Go Go.SL
set_option maxRecDepth 100000
def sw2 (l : List Told) (p q : Nat) : List Told := (l.set p (tat l q)).set q (tat l p)
def swN (l : List Told) (a b : Nat) : Nat → List Told
  | 0 => l
  | i + 1 => sw2 (swN l a b i) (a + i) (b + i)
theorem sw2_len (l : List Told) (p q : Nat) : (sw2 l p q).length = l.length := by simp [sw2]
theorem swN_len (l : List Told) (a b : Nat) : ∀ i, (swN l a b i).length = l.length
  | 0 => rfl
  | i + 1 => by rw [swN, sw2_len, swN_len l a b i]
theorem sw2_map (l : List Told) (p q : Nat) : (sw2 l p q).map Told.cs = ((l.map Told.cs).set p (tat l q).cs).set q (tat l p).cs := by simp [sw2]
theorem addN {a b : Nat} (h : a + b < 4611686018427387904) : arith .add .i64 (a : Int) (b : Int) = ((a + b : Nat) : Int) := by
  have : arith .add .i64 (a : Int) (b : Int) = (a : Int) + b := wrap64 (by omega) (by omega)
  rw [this]; omega
set_option maxHeartbeats 2000000 in
theorem swapRange_ev {W0 : World} (l : List Told) (a b n cap tot : Nat) (ha : a + n ≤ l.length) (hb : b + n ≤ l.length) (hab : a + n ≤ b) (hlen : l.length ≤ 1000000) :
    Ev Try.prog W0 83 [.sl 0 18 0 l.length cap, .int .i64 a, .int .i64 b, .int .i64 n, .fn 28 [] []] [.arr 18 (l.map Told.cs) tot] (fun v V' => v = .tup [] ∧ V' = [.arr 18 ((swN l a b n).map Told.cs) tot]) := by
  have hl := swN_len l a b
  obtain ⟨X, hX⟩ : ∃ X : Nat → List (List VV), ∀ i, X i = (swN l a b i).map Told.cs := ⟨_, fun _ => rfl⟩
  have hst : ∀ i, X (i + 1) = ((X i).set (a + i) (tat (swN l a b i) (b + i)).cs).set (b + i) (tat (swN l a b i) (a + i)).cs := fun i => by rw [hX, hX]; exact sw2_map _ _ _
  have hg : ∀ i j, j < l.length → (X i)[j]? = some (tat (swN l a b i) j).cs := fun i j hj => by rw [hX]; exact tat_get _ _ (by rw [hl]; exact hj)
  have hp : ∀ i, Plain (X i) := fun i => by rw [hX]; exact Told.plain _
  have h0 : l.map Told.cs = X 0 := (hX 0).symm
  rw [h0, ← hX n]
  clear h0 hX hl
  refine Ev.out fun Q' hQ => ev83 rfl fun o => ?_
  generalize l.length = N at *
  generalize swN l a b = L at *
  have hr : ∀ i (ρ : Nat → Nat) c, rnB ρ (.arr 18 (X i) c) = .arr 18 (X i) (c.rn ρ) := by intro i ρ c; simp only [rnB, hp i _]
  (cbv; repeat' (first | (refine ⟨by simp only [Ops.need_eq, needs]; first | rfl | decide, ?_⟩; try cbv) | (refine mt (fun h => ?_) (fun h => ?_) <;> first | (exfalso; simp [Ops.cmp_eq, Ops.not_eq, icmp] at h; done) | (exfalso; simp [Ops.cmp_eq, icmp] at h; omega) | (try cbv))))
  refine ⟨fun m env V => ∃ (i : Nat) (r : Nat → Value), i + m = n ∧ env = mix [(0, .sl 0 18 0 N cap), (1, .int .i64 a), (2, .int .i64 b), (3, .int .i64 n), (10, .int .i64 i)] r ∧ V = [.arr 18 (X i) tot],
    ⟨n, o.reI (Re.ren [0] _ _ rfl rfl ?_ ?_ fun r => ⟨0, r, by omega, rfl, rfl⟩)⟩, ?_⟩
  · exact ⟨rfl, rfl, rfl, rfl, rfl, trivial⟩
  · exact ⟨.inr (by rw [hr]; rfl), trivial⟩
  rintro m env V ⟨i, r, him, rfl, rfl⟩
  have hst := hst i
  have hr1 := hr (i + 1)
  have hr := hr i
  by_cases hi : i < n
  · have hg1 := hg i (a + i) (by omega)
    have hg2 := hg i (b + i) (by omega)
    have hai := addN (a := a) (b := i) (by omega)
    have hbi := addN (a := b) (b := i) (by omega)
    have hii := add1 (i := i) (by omega)
    clear hg
    have hpN : a + i < N := by omega
    have hqN : b + i < N := by omega
    have hpq : a + i ≠ b + i := by omega
    generalize tat (L i) (a + i) = u at *
    generalize tat (L i) (b + i) = w at *
    generalize hxi : X i = xs at *
    generalize a + i = p at *
    generalize b + i = q at *
    obtain ⟨u1, u2, u3, u4, u5, u6, u7, u8, u9, u10, u11, u12, u13, u14, u15, u16, u17, u18⟩ := u
    obtain ⟨w1, w2, w3, w4, w5, w6, w7, w8, w9, w10, w11, w12, w13, w14, w15, w16, w17, w18⟩ := w
    simp only [Told.cs] at hg1 hg2 hst
    have hgs : ∀ row, o.get (o.set xs p row) q = some [.int .i64 w1, .int .i64 w2, .int .i64 w3, .int .i64 w4, .int .i64 w5, .int .i64 w6, .int .u64 w7, .int .i64 w8, .int .i64 w9, .int .i64 w10, .int .i64 w11, .int .u64 w12, .int .i64 w13, .int .u64 w14, .int .i64 w15, .int .i64 w16, .int .i64 w17, .int .i64 w18] := fun row => by simp only [o.get_eq, o.set_eq, List.getElem?_set_ne hpq, hg2]
    (cbv; repeat' (first | (refine ⟨by simp only [Ops.need_eq, needs]; first | rfl | decide, ?_⟩; try cbv) | (refine mt (fun h => ?_) (fun h => ?_) <;> first | (exfalso; simp [Ops.cmp_eq, Ops.not_eq, icmp] at h; done) | (exfalso; simp [Ops.cmp_eq, icmp] at h; omega) | (try cbv))))
    simp only [o.ar_eq, Int.ofNat_eq_natCast, hai, hbi]
    refine ⟨by simp only [Ops.inb_eq]; exact decide_eq_true ⟨by first | exact (Int.natCast_nonneg q) | (simp only [Int.ofNat_eq_natCast]; exact (Int.natCast_nonneg q)), by first | exact (show (q : Int) < N by omega) | (simp only [Int.ofNat_eq_natCast]; exact (show (q : Int) < N by omega))⟩, ?_⟩
    simp only [Int.toNat_natCast, Int.ofNat_eq_natCast, Ops.get_eq, Ops.nadd_eq, Ops.nat_eq, Nat.zero_add, hg2]
    (cbv; repeat' (first | (refine ⟨by simp only [Ops.need_eq, needs]; first | rfl | decide, ?_⟩; try cbv) | (refine mt (fun h => ?_) (fun h => ?_) <;> first | (exfalso; simp [Ops.cmp_eq, Ops.not_eq, icmp] at h; done) | (exfalso; simp [Ops.cmp_eq, icmp] at h; omega) | (try cbv))))
    simp only [o.ar_eq, Int.ofNat_eq_natCast, hai, hbi]
    refine ⟨by simp only [Ops.inb_eq]; exact decide_eq_true ⟨by first | exact (Int.natCast_nonneg p) | (simp only [Int.ofNat_eq_natCast]; exact (Int.natCast_nonneg p)), by first | exact (show (p : Int) < N by omega) | (simp only [Int.ofNat_eq_natCast]; exact (show (p : Int) < N by omega))⟩, ?_⟩
    simp only [Int.toNat_natCast, Int.ofNat_eq_natCast, Ops.get_eq, Ops.nadd_eq, Ops.nat_eq, Nat.zero_add, hg1]
    (cbv; repeat' (first | (refine ⟨by simp only [Ops.need_eq, needs]; first | rfl | decide, ?_⟩; try cbv) | (refine mt (fun h => ?_) (fun h => ?_) <;> first | (exfalso; simp [Ops.cmp_eq, Ops.not_eq, icmp] at h; done) | (exfalso; simp [Ops.cmp_eq, icmp] at h; omega) | (try cbv))))
    simp only [o.ar_eq, Int.ofNat_eq_natCast, hai, hbi]
    refine ⟨by simp only [Ops.inb_eq]; exact decide_eq_true ⟨by first | exact (Int.natCast_nonneg p) | (simp only [Int.ofNat_eq_natCast]; exact (Int.natCast_nonneg p)), by first | exact (show (p : Int) < N by omega) | (simp only [Int.ofNat_eq_natCast]; exact (show (p : Int) < N by omega))⟩, ?_⟩
    simp only [Int.toNat_natCast, Int.ofNat_eq_natCast, Ops.get_eq, Ops.nadd_eq, Ops.nat_eq, Nat.zero_add, hg1]
    (cbv; repeat' (first | (refine ⟨by simp only [Ops.need_eq, needs]; first | rfl | decide, ?_⟩; try cbv) | (refine mt (fun h => ?_) (fun h => ?_) <;> first | (exfalso; simp [Ops.cmp_eq, Ops.not_eq, icmp] at h; done) | (exfalso; simp [Ops.cmp_eq, icmp] at h; omega) | (try cbv))))
    simp only [o.ar_eq, Int.ofNat_eq_natCast, hai, hbi]
    refine ⟨by simp only [Ops.inb_eq]; exact decide_eq_true ⟨by first | exact (Int.natCast_nonneg q) | (simp only [Int.ofNat_eq_natCast]; exact (Int.natCast_nonneg q)), by first | exact (show (q : Int) < N by omega) | (simp only [Int.ofNat_eq_natCast]; exact (show (q : Int) < N by omega))⟩, ?_⟩
    simp only [Int.toNat_natCast, Int.ofNat_eq_natCast, Ops.nadd_eq, Ops.nat_eq, Nat.zero_add, hgs]
    (cbv; repeat' (first | (refine ⟨by simp only [Ops.need_eq, needs]; first | rfl | decide, ?_⟩; try cbv) | (refine mt (fun h => ?_) (fun h => ?_) <;> first | (exfalso; simp [Ops.cmp_eq, Ops.not_eq, icmp] at h; done) | (exfalso; simp [Ops.cmp_eq, icmp] at h; omega) | (try cbv))))
    refine ⟨m - 1, by omega, o.reI (Re.ren [0] _ _ rfl rfl ?_ ?_ fun r => ⟨i + 1, r, by omega, rfl, rfl⟩)⟩
    · exact ⟨rfl, rfl, rfl, rfl, congrArg (VV.int .i64) (by simp only [Ops.ar_eq]; exact hii), trivial⟩
    · refine ⟨.inr ?_, trivial⟩
      rw [hr1, hst]
      simp only [Ops.set_eq]
      rfl
  · (cbv; repeat' (first | (refine ⟨by simp only [Ops.need_eq, needs]; first | rfl | decide, ?_⟩; try cbv) | (refine mt (fun h => ?_) (fun h => ?_) <;> first | (exfalso; simp [Ops.cmp_eq, Ops.not_eq, icmp] at h; done) | (exfalso; simp [Ops.cmp_eq, icmp] at h; omega) | (try cbv))))
    have : i = n := by omega
    subst this
    exact hQ _ _ (ReV.ren [0] (.tup []) [.arr 18 (X i) tot] rfl rfl rfl ⟨.inr (by rw [hr]; rfl), trivial⟩ ⟨rfl, rfl⟩)
/-! Plainly: a stretch of a list changes places with another one. -/
theorem tat_app (P : List Told) (x : Told) (S : List Told) : tat (P ++ x :: S) P.length = x := by simp [tat]
theorem set_app (P : List Told) (x y : Told) (S : List Told) : (P ++ x :: S).set P.length y = P ++ y :: S := by simp
theorem sw2_app (P : List Told) (x : Told) (M : List Told) (y : Told) (S : List Told) : sw2 (P ++ x :: (M ++ y :: S)) P.length (P.length + 1 + M.length) = P ++ y :: (M ++ x :: S) := by
  have e : ∀ z : Told, P ++ z :: (M ++ y :: S) = (P ++ z :: M) ++ y :: S := fun z => by simp
  have hl : ∀ z : Told, P.length + 1 + M.length = (P ++ z :: M).length := fun z => by simp; omega
  unfold sw2
  rw [tat_app, set_app, e x]
  rw [show tat ((P ++ x :: M) ++ y :: S) (P.length + 1 + M.length) = y by rw [hl x, tat_app]]
  rw [e y, hl y, set_app]
  simp
theorem swN_appN : ∀ (n : Nat) (A B P M S : List Told), A.length = n → B.length = n → swN (P ++ A ++ M ++ B ++ S) P.length (P.length + n + M.length) n = P ++ B ++ M ++ A ++ S
  | 0, A, B, P, M, S, h1, h2 => by
    rw [List.eq_nil_of_length_eq_zero h1, List.eq_nil_of_length_eq_zero h2]; rfl
  | n + 1, A, B, P, M, S, h1, h2 => by
    rcases List.eq_nil_or_concat A with h | ⟨A', x, h⟩
    · rw [h] at h1; simp at h1
    rcases List.eq_nil_or_concat B with h' | ⟨B', y, h'⟩
    · rw [h'] at h2; simp at h2
    rw [h] at h1 ⊢
    rw [h'] at h2 ⊢
    simp only [List.length_concat, List.length_append, List.length_cons, List.length_nil, Nat.zero_add, Nat.add_right_cancel_iff] at h1 h2
    have ih := swN_appN n A' B' P (x :: M) (y :: S) h1 h2
    rw [List.concat_eq_append, List.concat_eq_append]
    have e1 : P ++ (A' ++ [x]) ++ M ++ (B' ++ [y]) ++ S = P ++ A' ++ (x :: M) ++ B' ++ (y :: S) := by simp
    have e2 : P.length + (n + 1) + M.length = P.length + n + (x :: M).length := by simp only [List.length_cons]; omega
    rw [e1, e2, swN, ih]
    have e3 : P ++ B' ++ (x :: M) ++ A' ++ (y :: S) = (P ++ B') ++ x :: ((M ++ A') ++ y :: S) := by simp
    have e4 : P.length + n = (P ++ B').length := by rw [List.length_append]; omega
    have e5 : P.length + n + (x :: M).length + n = (P ++ B').length + 1 + (M ++ A').length := by simp only [List.length_append, List.length_cons]; omega
    rw [e3, e5, e4, sw2_app]
    simp
theorem swN_app (A B P M S : List Told) (h : A.length = B.length) : swN (P ++ A ++ M ++ B ++ S) P.length (P.length + A.length + M.length) A.length = P ++ B ++ M ++ A ++ S := swN_appN _ A B P M S rfl h.symm
theorem subN {a b : Nat} (h : a < 4611686018427387904) (hb : b ≤ a) : arith .sub .i64 (a : Int) (b : Int) = ((a - b : Nat) : Int) := by
  have : arith .sub .i64 (a : Int) (b : Int) = (a : Int) - b := wrap64 (by omega) (by omega)
  rw [this]; omega
theorem swap_ev {W0 : World} (P A M B S : List Told) (h : A.length = B.length) (a b n N cap tot : Nat) (ha : a = P.length) (hb : b = P.length + A.length + M.length) (hn : n = A.length) (hN : N = (P ++ A ++ M ++ B ++ S).length) (hlen : N ≤ 1000000) :
    Ev Try.prog W0 83 [.sl 0 18 0 N cap, .int .i64 a, .int .i64 b, .int .i64 n, .fn 28 [] []] [.arr 18 ((P ++ A ++ M ++ B ++ S).map Told.cs) tot] (fun v V' => v = .tup [] ∧ V' = [.arr 18 ((P ++ B ++ M ++ A ++ S).map Told.cs) tot]) := by
  subst ha hb hn hN
  have := swapRange_ev (W0 := W0) (P ++ A ++ M ++ B ++ S) P.length (P.length + A.length + M.length) A.length cap tot (by simp only [List.length_append]; omega) (by simp only [List.length_append]; omega) (by omega) hlen
  rw [swN_app A B P M S h] at this
  exact this
set_option maxHeartbeats 2000000 in
/-- rotate: two stretches, one behind the other, change places. -/
theorem rotate_ev {W0 : World} (P X Y S : List Told) (N cap tot : Nat) (hN : N = (P ++ X ++ Y ++ S).length) (hlen : N ≤ 1000000) (a mm b : Nat) (ha : a = P.length) (hm : mm = P.length + X.length) (hb : b = P.length + X.length + Y.length) (hx : 0 < X.length) (hy : 0 < Y.length) :
    Ev Try.prog W0 62 [.sl 0 18 0 N cap, .int .i64 a, .int .i64 mm, .int .i64 b, .fn 28 [] []] [.arr 18 ((P ++ X ++ Y ++ S).map Told.cs) tot] (fun v V' => v = .tup [] ∧ V' = [.arr 18 ((P ++ Y ++ X ++ S).map Told.cs) tot]) := by
  have hXr : ∀ (l : List Told) (ρ : Nat → Nat) c, rnB ρ (.arr 18 (l.map Told.cs) c) = .arr 18 (l.map Told.cs) (c.rn ρ) := by
    intro l ρ c
    have := Told.plain l
    simp only [rnB, this _]
  refine Ev.out fun Q' hQ => ev62 rfl fun o => ?_
  have hi : arith .sub .i64 (mm : Int) (a : Int) = ((X.length : Nat) : Int) := by rw [subN (by simp only [List.length_append] at hN; omega) (by omega)]; congr 1; omega
  have hj : arith .sub .i64 (b : Int) (mm : Int) = ((Y.length : Nat) : Int) := by rw [subN (by simp only [List.length_append] at hN; omega) (by omega)]; congr 1; omega
  generalize hR : (P ++ Y ++ X ++ S).map Told.cs = R at *
  generalize hx0 : (P ++ X ++ Y ++ S).map Told.cs = x0 at *
  generalize hnx : X.length = nx at *
  generalize hny : Y.length = ny at *
  have hr0 : ∀ (ρ : Nat → Nat) c, rnB ρ (.arr 18 x0 c) = .arr 18 x0 (c.rn ρ) := fun ρ c => by rw [← hx0]; exact hXr _ _ _
  have hrR : ∀ (ρ : Nat → Nat) c, rnB ρ (.arr 18 R c) = .arr 18 R (c.rn ρ) := fun ρ c => by rw [← hR]; exact hXr _ _ _
  (cbv; repeat' (first | (refine ⟨by simp only [Ops.need_eq, needs]; first | rfl | decide, ?_⟩; try cbv) | (refine mt (fun h => ?_) (fun h => ?_) <;> first | (exfalso; simp [Ops.cmp_eq, Ops.not_eq, icmp] at h; done) | (exfalso; simp [Ops.cmp_eq, icmp] at h; omega) | (try cbv))))
  simp only [o.ar_eq, Int.ofNat_eq_natCast, hi, hj]
  refine ⟨fun k env V => ∃ (P1 X1 Y1 S1 : List Told) (x1 : List (List VV)) (i j : Nat) (r : Nat → Value), i = X1.length ∧ j = Y1.length ∧ 0 < i ∧ 0 < j ∧ k = i + j ∧ mm = P1.length + i ∧ N = (P1 ++ X1 ++ Y1 ++ S1).length ∧ (P1 ++ Y1 ++ X1 ++ S1).map Told.cs = R ∧ (P1 ++ X1 ++ Y1 ++ S1).map Told.cs = x1 ∧
      env = mix [(0, .sl 0 18 0 N cap), (2, .int .i64 mm), (4, .fn 28 [] []), (10, .int .i64 i), (11, .int .i64 j)] r ∧ V = [.arr 18 x1 tot],
    ⟨nx + ny, o.reI (Re.ren [0] _ _ rfl rfl ?_ ?_ fun r => ⟨P, X, Y, S, x0, nx, ny, r, hnx.symm, hny.symm, hx, hy, rfl, hm, hN, hR, hx0, rfl, rfl⟩)⟩, ?_⟩
  · exact ⟨rfl, rfl, rfl, rfl, rfl, trivial⟩
  · exact ⟨.inr (by rw [hr0]; rfl), trivial⟩
  rintro k env V ⟨P1, X1, Y1, S1, x1, i, j, r, hi1, hj1, hi0, hj0, hk, hmm, hN1, hR1, hx1, rfl, rfl⟩
  have hr1 : ∀ (ρ : Nat → Nat) c, rnB ρ (.arr 18 x1 c) = .arr 18 x1 (c.rn ρ) := fun ρ c => by rw [← hx1]; exact hXr _ _ _
  have hsub := subN (a := mm) (b := i) (by simp only [List.length_append] at hN1; omega) (by omega)
  have hNl : N = P1.length + i + j + S1.length := by rw [hN1, hi1, hj1]; simp only [List.length_append]
  rcases (by omega : i = j ∨ j < i ∨ i < j) with h | h | h
  · subst h
    have hsw := swap_ev (W0 := W0) P1 X1 [] Y1 S1 (by omega) (mm - i) mm i N cap tot (by omega) (by simp only [List.length_nil]; omega) hi1 (by rw [List.append_nil]; exact hN1) hlen
    simp only [List.append_nil] at hsw
    rw [hx1, hR1] at hsw
    (cbv; repeat' (first | (refine ⟨by simp only [Ops.need_eq, needs]; first | rfl | decide, ?_⟩; try cbv) | (refine mt (fun h => ?_) (fun h => ?_) <;> first | (exfalso; simp [Ops.cmp_eq, Ops.not_eq, icmp] at h; done) | (exfalso; simp [Ops.cmp_eq, icmp] at h; omega) | (try cbv))))
    simp only [o.ar_eq, Int.ofNat_eq_natCast, hsub]
    refine Ops.call _ [0] hsw rfl rfl rfl ⟨.inr (by rw [hr1]; rfl), trivial⟩ ?_
    rintro v V' ⟨rfl, rfl⟩
    simp only [layB, lset, lapp, List.map_nil, List.map_cons, hrR, rn, rnL, Cap.rn]
    (cbv; repeat' (first | (refine ⟨by simp only [Ops.need_eq, needs]; first | rfl | decide, ?_⟩; try cbv) | (refine mt (fun h => ?_) (fun h => ?_) <;> first | (exfalso; simp [Ops.cmp_eq, Ops.not_eq, icmp] at h; done) | (exfalso; simp [Ops.cmp_eq, icmp] at h; omega) | (try cbv))))
    exact hQ _ _ (ReV.ren [0] (.tup []) [.arr 18 R tot] rfl rfl rfl ⟨.inr (by rw [hrR]; rfl), trivial⟩ ⟨rfl, rfl⟩)
  · obtain ⟨Xa, Xb, hX, hXa⟩ : ∃ Xa Xb, X1 = Xa ++ Xb ∧ Xa.length = j := ⟨X1.take j, X1.drop j, (List.take_append_drop j X1).symm, by rw [List.length_take]; omega⟩
    have hXb : Xb.length = i - j := by rw [hX, List.length_append] at hi1; omega
    have e1 : P1 ++ X1 ++ Y1 ++ S1 = P1 ++ Xa ++ Xb ++ Y1 ++ S1 := by rw [hX]; simp
    have hsw := swap_ev (W0 := W0) P1 Xa Xb Y1 S1 (by omega) (mm - i) mm j N cap tot (by omega) (by omega) hXa.symm (by rw [← e1]; exact hN1) hlen
    rw [← e1, hx1] at hsw
    have hij := subN (a := i) (b := j) (by omega) (by omega)
    generalize hx2 : (P1 ++ Y1 ++ Xb ++ Xa ++ S1).map Told.cs = x2 at *
    have hr2 : ∀ (ρ : Nat → Nat) c, rnB ρ (.arr 18 x2 c) = .arr 18 x2 (c.rn ρ) := fun ρ c => by rw [← hx2]; exact hXr _ _ _
    (cbv; repeat' (first | (refine ⟨by simp only [Ops.need_eq, needs]; first | rfl | decide, ?_⟩; try cbv) | (refine mt (fun h => ?_) (fun h => ?_) <;> first | (exfalso; simp [Ops.cmp_eq, Ops.not_eq, icmp] at h; done) | (exfalso; simp [Ops.cmp_eq, icmp] at h; omega) | (try cbv))))
    simp only [o.ar_eq, Int.ofNat_eq_natCast, hsub]
    refine Ops.call _ [0] hsw rfl rfl rfl ⟨.inr (by rw [hr1]; rfl), trivial⟩ ?_
    rintro v V' ⟨rfl, rfl⟩
    simp only [layB, lset, lapp, List.map_nil, List.map_cons, hr2, rn, rnL, Cap.rn]
    (cbv; repeat' (first | (refine ⟨by simp only [Ops.need_eq, needs]; first | rfl | decide, ?_⟩; try cbv) | (refine mt (fun h => ?_) (fun h => ?_) <;> first | (exfalso; simp [Ops.cmp_eq, Ops.not_eq, icmp] at h; done) | (exfalso; simp [Ops.cmp_eq, icmp] at h; omega) | (try cbv))))
    refine ⟨i - j + j, by omega, o.reI (Re.ren [0] _ _ rfl rfl ?_ ?_ fun r => ⟨P1 ++ Y1, Xb, Xa, S1, x2, i - j, j, r, hXb.symm, hXa.symm, by omega, hj0, rfl, by rw [List.length_append]; omega, ?_, ?_, hx2, rfl, rfl⟩)⟩
    · exact ⟨rfl, rfl, rfl, congrArg (VV.int .i64) (by simp only [Ops.ar_eq]; exact hij), rfl, trivial⟩
    · exact ⟨.inr (by rw [hr2]; rfl), trivial⟩
    · simp only [List.length_append]; omega
    · rw [← hR1, hX]; simp
  · obtain ⟨Ya, Yb, hY, hYa⟩ : ∃ Ya Yb, Y1 = Ya ++ Yb ∧ Ya.length = j - i := ⟨Y1.take (j - i), Y1.drop (j - i), (List.take_append_drop _ Y1).symm, by rw [List.length_take]; omega⟩
    have hYb : Yb.length = i := by rw [hY, List.length_append] at hj1; omega
    have e1 : P1 ++ X1 ++ Y1 ++ S1 = P1 ++ X1 ++ Ya ++ Yb ++ S1 := by rw [hY]; simp
    have hsw := swap_ev (W0 := W0) P1 X1 Ya Yb S1 (by omega) (mm - i) (mm + j - i) i N cap tot (by omega) (by omega) hi1 (by rw [← e1]; exact hN1) hlen
    rw [← e1, hx1] at hsw
    have hij := subN (a := j) (b := i) (by omega) (by omega)
    have hadd := addN (a := mm) (b := j) (by omega)
    have hsub2 := subN (a := mm + j) (b := i) (by omega) (by omega)
    generalize hmj : mm + j = mj at *
    generalize hx2 : (P1 ++ Yb ++ Ya ++ X1 ++ S1).map Told.cs = x2 at *
    have hr2 : ∀ (ρ : Nat → Nat) c, rnB ρ (.arr 18 x2 c) = .arr 18 x2 (c.rn ρ) := fun ρ c => by rw [← hx2]; exact hXr _ _ _
    (cbv; repeat' (first | (refine ⟨by simp only [Ops.need_eq, needs]; first | rfl | decide, ?_⟩; try cbv) | (refine mt (fun h => ?_) (fun h => ?_) <;> first | (exfalso; simp [Ops.cmp_eq, Ops.not_eq, icmp] at h; done) | (exfalso; simp [Ops.cmp_eq, icmp] at h; omega) | (try cbv))))
    simp only [o.ar_eq, Int.ofNat_eq_natCast, hsub, hadd, hsub2]
    refine Ops.call _ [0] hsw rfl rfl rfl ⟨.inr (by rw [hr1]; rfl), trivial⟩ ?_
    rintro v V' ⟨rfl, rfl⟩
    simp only [layB, lset, lapp, List.map_nil, List.map_cons, hr2, rn, rnL, Cap.rn]
    (cbv; repeat' (first | (refine ⟨by simp only [Ops.need_eq, needs]; first | rfl | decide, ?_⟩; try cbv) | (refine mt (fun h => ?_) (fun h => ?_) <;> first | (exfalso; simp [Ops.cmp_eq, Ops.not_eq, icmp] at h; done) | (exfalso; simp [Ops.cmp_eq, icmp] at h; omega) | (try cbv))))
    refine ⟨i + (j - i), by omega, o.reI (Re.ren [0] _ _ rfl rfl ?_ ?_ fun r => ⟨P1, Yb, Ya, X1 ++ S1, x2, i, j - i, r, hYb.symm, hYa.symm, hi0, by omega, rfl, hmm, ?_, ?_, ?_, rfl, rfl⟩)⟩
    · exact ⟨rfl, rfl, rfl, rfl, congrArg (VV.int .i64) (by simp only [Ops.ar_eq]; exact hij), trivial⟩
    · exact ⟨.inr (by rw [hr2]; rfl), trivial⟩
    · simp only [List.length_append]; omega
    · rw [← hR1, hY]; simp
    · rw [← hx2]; simp
end Go.Proofs.Ythoodnlihbaimaa
