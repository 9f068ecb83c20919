/- hist: the library's merge: its second case. -/
import Derived.Test.YthoodnlihbaimaaHJ
namespace Go.Proofs.Ythoodnlihbaimaa
set_option linter.unusedVariables false
set_option linter.unusedSimpArgs false
open Go Go.SL Go.FL
set_option maxRecDepth 100000
/-- What is left of a search among the first's: below i all go ahead of y, from j on none does. -/
def Half2 (y : Told) (X : List Told) (i j : Nat) : Prop := i ≤ j ∧ j ≤ X.length ∧ (∀ x ∈ X.take i, key x ≤ key y) ∧ (∀ x ∈ X.drop j, key y < key x)
theorem Half2.up {y : Told} {X : List Told} {i j h : Nat} (H : Half2 y X i j) (hs : Srt key X) (hi : i ≤ h) (hj : h < j) {x : Told} (hx : X[h]? = some x) (hk : ¬ key y < key x) : Half2 y X (h + 1) j := by
  refine ⟨by omega, H.2.1, fun z hz => ?_, H.2.2.2⟩
  have := srt_take key hs hz (w := x) (by simpa using hx)
  omega
theorem Half2.down {y : Told} {X : List Told} {i j h : Nat} (H : Half2 y X i j) (hs : Srt key X) (hi : i ≤ h) (hj : h < j) {x : Told} (hx : X[h]? = some x) (hk : key y < key x) : Half2 y X i h := by
  refine ⟨hi, by have := H.2.1; omega, H.2.2.1, fun z hz => ?_⟩
  have := srt_drop key hs hz hx
  omega
theorem Half2.end_ {y : Told} {X : List Told} {i : Nat} (H : Half2 y X i i) : mg key X [y] = X.take i ++ y :: X.drop i := by
  have h := mg_one2 key H.2.2.1 H.2.2.2
  rwa [List.take_append_drop] at h
theorem nb2 (Q : List Told) (x y : Told) (Z : List Told) : ((Q ++ x :: y :: Z).map Told.cs)[Q.length]? = some x.cs ∧ ((Q ++ x :: y :: Z).map Told.cs)[Q.length + 1]? = some y.cs ∧
    (((Q ++ x :: y :: Z).map Told.cs).set (Q.length + 1) x.cs).set Q.length y.cs = (Q ++ y :: x :: Z).map Told.cs := by
  refine ⟨by simp, by simp, ?_⟩
  have e : (Q ++ x :: y :: Z).map Told.cs = Q.map Told.cs ++ x.cs :: y.cs :: Z.map Told.cs := by simp
  have e2 : (Q ++ y :: x :: Z).map Told.cs = Q.map Told.cs ++ y.cs :: x.cs :: Z.map Told.cs := by simp
  have hl : Q.length = (Q.map Told.cs).length := by simp
  rw [e, e2, hl]
  simp
set_option maxHeartbeats 2000000 in
theorem symB_ev {W0 : World} (P : List Told) (Y : List Told) (x : Told) (S : List Told) (N cap tot a m b : Nat) (hN : N = (P ++ Y ++ [x] ++ S).length) (hlen : N ≤ 1000000) (ha : a = P.length) (hm : m = a + Y.length) (hb : b = m + 1) (h1 : Y.length ≠ 1) (hs : Srt key Y) (hB : Low (P ++ Y ++ [x] ++ S)) :
    Ev Try.prog W0 56 [.sl 0 18 0 N cap, .int .i64 a, .int .i64 m, .int .i64 b, .fn 28 [] []] [.arr 18 ((P ++ Y ++ [x] ++ S).map Told.cs) tot] (fun v V' => v = .tup [] ∧ V' = [.arr 18 ((P ++ mg key Y [x] ++ S).map Told.cs) tot]) := by
  have hXr : ∀ (l : List Told) (ρ : Nat → Nat) c, rnB ρ (.arr 18 (l.map Told.cs) c) = .arr 18 (l.map Told.cs) (c.rn ρ) := by
    intro l ρ c
    have := Told.plain l
    simp only [rnB, this _]
  have hNl : N = P.length + Y.length + 1 + S.length := by rw [hN]; simp only [List.length_append, List.length_cons, List.length_nil]
  have hgx : ((P ++ Y ++ [x] ++ S).map Told.cs)[m]? = some x.cs := by
    have e : P ++ Y ++ [x] ++ S = (P ++ Y) ++ x :: S := by simp
    rw [List.getElem?_map, e, show m = (P ++ Y).length by rw [List.length_append]; omega]; simp
  have hgY : ∀ h y, Y[h]? = some y → ((P ++ Y ++ [x] ++ S).map Told.cs)[a + h]? = some y.cs := by
    intro h y hy
    have hh : h < Y.length := (List.getElem?_eq_some_iff.1 hy).1
    have e : P ++ Y ++ [x] ++ S = P ++ (Y ++ ([x] ++ S)) := by simp only [List.append_assoc]
    rw [List.getElem?_map, e, List.getElem?_append_right (by omega), List.getElem?_append_left (by omega), show a + h - P.length = h by omega, hy]; rfl
  have hlx := hB x (by simp)
  have hlY : ∀ y ∈ Y, 0 ≤ y.stamp ∧ y.stamp ≤ 65535 := fun y hy => hB y (by simp [hy])
  have hma : arith .sub .i64 (m : Int) (a : Int) = ((Y.length : Nat) : Int) := by rw [subN (by omega) (by omega), show m - a = Y.length by omega]
  have hmb : arith .sub .i64 (b : Int) (m : Int) = 1 := by rw [subN (by omega) (by omega), show b - m = 1 by omega]; rfl
  refine Ev.out fun Q' hQ => ev56 rfl fun o => ?_
  generalize hxs : (P ++ Y ++ [x] ++ S).map Told.cs = xs at *
  have hr0 : ∀ (ρ : Nat → Nat) c, rnB ρ (.arr 18 xs c) = .arr 18 xs (c.rn ρ) := fun ρ c => by rw [← hxs]; exact hXr _ _ _
  rw [show ir56 = .seq (fstS ir56) (.seq (fstS (dropS 1 ir56)) (dropS 2 ir56)) from rfl]
  have hsq : ∀ a b K e V, wpI o (.seq a b) K e V = wpI o a (fun x e V => match x with | .normal => wpI o b K e V | .exit i => K (.exit i) e V | .ret => K .ret e V) e V := fun _ _ _ _ _ => rfl
  simp only [hsq]
  clear hsq
  generalize wpI o (dropS 2 ir56) = R
  (cbv; repeat' (first | (refine ⟨by simp only [Ops.need_eq, needs]; first | rfl | decide, ?_⟩; try cbv) | (refine mt (fun _ => ?_) (fun _ => ?_) <;> (try cbv))))
  · exfalso
    rename_i h
    simp only [o.ar_eq, Int.ofNat_eq_natCast, hma, o.cmp_eq, icmp, beq_iff_eq] at h
    have h2 : ((Y.length : Nat) : Int) = 1 := h
    omega
  rotate_left
  · exfalso
    rename_i h0 h
    simp only [o.ar_eq, Int.ofNat_eq_natCast, hmb, o.cmp_eq, icmp] at h
    simp at h
  rename_i h0 h0'
  clear h0 h0'
  refine ⟨fun k env V => ∃ (p q i j : Nat) (r : Nat → Value), p = a + i ∧ q = a + j ∧ Half2 x Y i j ∧ k = j - i ∧ env = mix [(0, .sl 0 18 0 N cap), (2, .int .i64 m), (4, .fn 28 [] []), (14, .int .i64 p), (15, .int .i64 q)] r ∧ V = [.arr 18 xs tot],
    ⟨Y.length, o.reI (Re.ren [0] _ _ rfl rfl ?_ ?_ fun r => ⟨a, m, 0, Y.length, r, rfl, hm, ⟨Nat.zero_le _, Nat.le_refl _, fun y hy => by simp at hy, fun y hy => by simp at hy⟩, rfl, rfl, rfl⟩)⟩, ?_⟩
  · exact ⟨rfl, rfl, rfl, rfl, rfl, trivial⟩
  · exact ⟨.inr (by rw [hr0]; rfl), trivial⟩
  rintro k env V ⟨p, q, i, j, r, hp, hq, HH, hk, rfl, rfl⟩
  by_cases hpq : p < q
  · obtain ⟨g, hh⟩ : ∃ g, g = (p + q) / 2 := ⟨_, rfl⟩
    have hhalf := halfN (i := p) (j := q) (by have := HH.2.1; omega)
    rw [← hh] at hhalf
    have hj := HH.2.1
    obtain ⟨y, hy⟩ : ∃ y, Y[g - a]? = some y := ⟨_, List.getElem?_eq_getElem (by omega)⟩
    have hgy := hgY (g - a) y hy
    rw [show a + (g - a) = g by omega] at hgy
    have hly := hlY y (List.mem_of_getElem? hy)
    have hcl := cmpLt hlx hly
    have hup := fun hk => HH.up hs (h := g - a) (by omega) (by omega) hy hk
    have hdn := fun hk => HH.down hs (h := g - a) (by omega) (by omega) hy hk
    have hgN : g < N := by omega
    have hmN : m < N := by omega
    have hgm : a ≤ g := by omega
    have hgq : g < q := by omega
    have hpg : p ≤ g := by omega
    have hg1 := add1 (i := g) (by omega)
    clear hgY hh
    (cbv; repeat' (first | (refine ⟨by simp only [Ops.need_eq, needs]; first | rfl | decide, ?_⟩; try cbv) | (refine mt (fun h => ?_) (fun h => ?_) <;> first | (exfalso; simp [Ops.cmp_eq, Ops.not_eq, icmp] at h; done) | (exfalso; simp [Ops.cmp_eq, icmp] at h; omega) | (try cbv))))
    simp only [o.wr_eq, o.ar_eq, Int.ofNat_eq_natCast, hhalf]
    refine ⟨by simp only [Ops.inb_eq]; exact decide_eq_true ⟨by first | exact (Int.natCast_nonneg m) | (simp only [Int.ofNat_eq_natCast]; exact (Int.natCast_nonneg m)), by first | exact (show (m : Int) < N by omega) | (simp only [Int.ofNat_eq_natCast]; exact (show (m : Int) < N by omega))⟩, ?_⟩
    simp only [Int.toNat_natCast, Int.ofNat_eq_natCast, Ops.get_eq, Ops.nadd_eq, Ops.nat_eq, Nat.zero_add, hgx]
    (cbv; repeat' (first | (refine ⟨by simp only [Ops.need_eq, needs]; first | rfl | decide, ?_⟩; try cbv) | (refine mt (fun h => ?_) (fun h => ?_) <;> first | (exfalso; simp [Ops.cmp_eq, Ops.not_eq, icmp] at h; done) | (exfalso; simp [Ops.cmp_eq, icmp] at h; omega) | (try cbv))))
    simp only [o.wr_eq, o.ar_eq, Int.ofNat_eq_natCast, hhalf]
    refine ⟨by simp only [Ops.inb_eq]; exact decide_eq_true ⟨by first | exact (Int.natCast_nonneg g) | (simp only [Int.ofNat_eq_natCast]; exact (Int.natCast_nonneg g)), by first | exact (show (g : Int) < N by omega) | (simp only [Int.ofNat_eq_natCast]; exact (show (g : Int) < N by omega))⟩, ?_⟩
    simp only [Int.toNat_natCast, Int.ofNat_eq_natCast, Ops.get_eq, Ops.nadd_eq, Ops.nat_eq, Nat.zero_add, hgy]
    (cbv; repeat' (first | (refine ⟨by simp only [Ops.need_eq, needs]; first | rfl | decide, ?_⟩; try cbv) | (refine mt (fun h => ?_) (fun h => ?_) <;> first | (exfalso; simp [Ops.cmp_eq, Ops.not_eq, icmp] at h; done) | (exfalso; simp [Ops.cmp_eq, icmp] at h; omega) | (try cbv))))
    simp only [o.wr_eq, o.ar_eq, Int.ofNat_eq_natCast, hhalf]
    refine o.call0 (cmp_ev x y) rfl ?_
    rintro v V' ⟨rfl, rfl⟩
    generalize arith .sub .i64 x.stamp y.stamp = D at *
    (cbv; repeat' (first | (refine ⟨by simp only [Ops.need_eq, needs]; first | rfl | decide, ?_⟩; try cbv) | (refine mt (fun _ => ?_) (fun _ => ?_) <;> (try cbv))))
    · rename_i h1
      have h2 : ¬ D < 0 := by simpa [o.cmp_eq, o.not_eq, icmp] using h1
      have h3 := hup (fun hk => h2 (hcl.2 hk))
      refine ⟨j - (g - a + 1), by omega, o.reI (Re.ren [0] _ _ rfl rfl ?_ ?_ fun r => ⟨g + 1, q, g - a + 1, j, r, by omega, hq, h3, rfl, rfl, rfl⟩)⟩
      · exact ⟨rfl, rfl, rfl, congrArg (VV.int .i64) (by first | exact hg1 | (simp only [Ops.ar_eq, Ops.wr_eq, hhalf]; exact hg1)), rfl, trivial⟩
      · exact ⟨.inr (by rw [hr0]; rfl), trivial⟩
    · rename_i h1
      have h2 : D < 0 := by simpa [o.cmp_eq, o.not_eq, icmp] using h1
      have h3 := hdn (hcl.1 h2)
      refine ⟨g - a - i, by omega, o.reI (Re.ren [0] _ _ rfl rfl ?_ ?_ fun r => ⟨p, g, i, g - a, r, hp, by omega, h3, rfl, rfl, rfl⟩)⟩
      · exact ⟨rfl, rfl, rfl, rfl, congrArg (VV.int .i64) (by first | rfl | simp only [Ops.ar_eq, Ops.wr_eq, hhalf]), trivial⟩
      · exact ⟨.inr (by rw [hr0]; rfl), trivial⟩
  · have hij : i = j := by have := HH.1; omega
    subst hij
    have hfin := HH.end_
    rw [hfin] at hQ
    have hiY := HH.2.1
    obtain ⟨X, hX⟩ : ∃ X : Nat → List (List VV), ∀ t, X t = (P ++ (Y.take t ++ x :: Y.drop t) ++ S).map Told.cs := ⟨_, fun _ => rfl⟩
    have hX0 : xs = X Y.length := by rw [← hxs, hX]; simp
    have hXr2 : ∀ t (ρ : Nat → Nat) c, rnB ρ (.arr 18 (X t) c) = .arr 18 (X t) (c.rn ρ) := fun t ρ c => by rw [hX]; exact hXr _ _ _
    have hXs : ∀ t, t < Y.length → ∃ y : Told, (X (t + 1))[a + t]? = some y.cs ∧ (X (t + 1))[a + t + 1]? = some x.cs ∧ ((X (t + 1)).set (a + t + 1) y.cs).set (a + t) x.cs = X t := by
      intro t ht
      have hd : Y.drop t = Y[t] :: Y.drop (t + 1) := List.drop_eq_getElem_cons ht
      have e1 : P ++ (Y.take t ++ x :: Y.drop t) ++ S = (P ++ Y.take t) ++ x :: Y[t] :: (Y.drop (t + 1) ++ S) := by rw [hd]; simp only [List.append_assoc, List.cons_append]
      have e2 : P ++ (Y.take (t + 1) ++ x :: Y.drop (t + 1)) ++ S = (P ++ Y.take t) ++ Y[t] :: x :: (Y.drop (t + 1) ++ S) := by rw [List.take_add_one, List.getElem?_eq_getElem ht]; simp only [Option.toList, List.append_assoc, List.cons_append, List.nil_append]
      have hq : a + t = (P ++ Y.take t).length := by rw [List.length_append, List.length_take]; omega
      refine ⟨Y[t], ?_⟩
      rw [hX, hX, e1, e2, hq]
      exact nb2 _ _ _ _
    rw [← hX i] at hQ
    rw [hX0]
    clear hX hX0 hgx hgY hxs hr0 hfin HH
    (cbv; repeat' (first | (refine ⟨by simp only [Ops.need_eq, needs]; first | rfl | decide, ?_⟩; try cbv) | (refine mt (fun h => ?_) (fun h => ?_) <;> first | (exfalso; simp [Ops.cmp_eq, Ops.not_eq, icmp] at h; done) | (exfalso; simp [Ops.cmp_eq, icmp] at h; omega) | (try cbv))))
    refine ⟨fun k env V => ∃ (t c : Nat) (r : Nat → Value), i ≤ t ∧ t ≤ Y.length ∧ c = a + t ∧ k = t ∧ env = mix [(0, .sl 0 18 0 N cap), (14, .int .i64 p), (17, .int .i64 c)] r ∧ V = [.arr 18 (X t) tot],
      ⟨Y.length, o.reI (Re.ren [0] _ _ rfl rfl ?_ ?_ fun r => ⟨Y.length, m, r, hiY, Nat.le_refl _, hm, rfl, rfl, rfl⟩)⟩, ?_⟩
    · exact ⟨rfl, rfl, rfl, trivial⟩
    · exact ⟨.inr (by rw [hXr2]; rfl), trivial⟩
    rintro k env V ⟨t, c, r, hti, htY, hc, hkt, rfl, rfl⟩
    by_cases htl : i < t
    · obtain ⟨y, hg1, hg2, hg3⟩ := hXs (t - 1) (by omega)
      rw [show t - 1 + 1 = t by omega] at hg1 hg2 hg3
      obtain ⟨d, hd⟩ : ∃ d, d = a + (t - 1) := ⟨_, rfl⟩
      have hdc : a + (t - 1) + 1 = c := by omega
      rw [hdc] at hg2 hg3
      rw [← hd] at hg1 hg3
      have hr1 := hXr2 t
      have hr2 := hXr2 (t - 1)
      have hc1 : arith .sub .i64 (c : Int) 1 = ((d : Nat) : Int) := by rw [show c = d + 1 by omega]; exact sub1 (by omega)
      have hdN : d < N := by omega
      have hcN : c < N := by omega
      have hcd : c ≠ d := by omega
      have hpc : p < c := by omega
      generalize hx2 : X (t - 1) = x2 at *
      generalize X t = x1 at *
      have hgs : ∀ row, o.get (o.set x1 c row) d = some y.cs := fun row => by simp only [o.get_eq, o.set_eq, List.getElem?_set_ne hcd, hg1]
      (cbv; repeat' (first | (refine ⟨by simp only [Ops.need_eq, needs]; first | rfl | decide, ?_⟩; try cbv) | (refine mt (fun _ => ?_) (fun _ => ?_) <;> (try cbv))))
      rotate_left
      · exfalso
        rename_i h1
        simp only [o.ar_eq, Int.ofNat_eq_natCast, o.cmp_eq, icmp, decide_eq_false_iff_not] at h1
        exact h1 (show ((c : Nat) : Int) > ((p : Nat) : Int) by omega)
      simp only [o.ar_eq, Int.ofNat_eq_natCast, hc1]
      refine ⟨by simp only [Ops.inb_eq]; exact decide_eq_true ⟨by first | exact (Int.natCast_nonneg d) | (simp only [Int.ofNat_eq_natCast]; exact (Int.natCast_nonneg d)), by first | exact (show (d : Int) < N by omega) | (simp only [Int.ofNat_eq_natCast]; exact (show (d : Int) < N by omega))⟩, ?_⟩
      simp only [Int.toNat_natCast, Int.ofNat_eq_natCast, Ops.get_eq, Ops.nadd_eq, Ops.nat_eq, Nat.zero_add, hg1]
      (cbv; repeat' (first | (refine ⟨by simp only [Ops.need_eq, needs]; first | rfl | decide, ?_⟩; try cbv) | (refine mt (fun h => ?_) (fun h => ?_) <;> first | (exfalso; simp [Ops.cmp_eq, Ops.not_eq, icmp] at h; done) | (exfalso; simp [Ops.cmp_eq, icmp] at h; omega) | (try cbv))))
      simp only [o.ar_eq, Int.ofNat_eq_natCast, hc1]
      refine ⟨by simp only [Ops.inb_eq]; exact decide_eq_true ⟨by first | exact (Int.natCast_nonneg c) | (simp only [Int.ofNat_eq_natCast]; exact (Int.natCast_nonneg c)), by first | exact (show (c : Int) < N by omega) | (simp only [Int.ofNat_eq_natCast]; exact (show (c : Int) < N by omega))⟩, ?_⟩
      simp only [Int.toNat_natCast, Int.ofNat_eq_natCast, Ops.get_eq, Ops.nadd_eq, Ops.nat_eq, Nat.zero_add, hg2]
      (cbv; repeat' (first | (refine ⟨by simp only [Ops.need_eq, needs]; first | rfl | decide, ?_⟩; try cbv) | (refine mt (fun h => ?_) (fun h => ?_) <;> first | (exfalso; simp [Ops.cmp_eq, Ops.not_eq, icmp] at h; done) | (exfalso; simp [Ops.cmp_eq, icmp] at h; omega) | (try cbv))))
      simp only [o.ar_eq, Int.ofNat_eq_natCast, hc1]
      refine ⟨by simp only [Ops.inb_eq]; exact decide_eq_true ⟨by first | exact (Int.natCast_nonneg c) | (simp only [Int.ofNat_eq_natCast]; exact (Int.natCast_nonneg c)), by first | exact (show (c : Int) < N by omega) | (simp only [Int.ofNat_eq_natCast]; exact (show (c : Int) < N by omega))⟩, ?_⟩
      simp only [Int.toNat_natCast, Int.ofNat_eq_natCast, Ops.get_eq, Ops.nadd_eq, Ops.nat_eq, Nat.zero_add, hg2]
      (cbv; repeat' (first | (refine ⟨by simp only [Ops.need_eq, needs]; first | rfl | decide, ?_⟩; try cbv) | (refine mt (fun h => ?_) (fun h => ?_) <;> first | (exfalso; simp [Ops.cmp_eq, Ops.not_eq, icmp] at h; done) | (exfalso; simp [Ops.cmp_eq, icmp] at h; omega) | (try cbv))))
      simp only [o.ar_eq, Int.ofNat_eq_natCast, hc1]
      refine ⟨by simp only [Ops.inb_eq]; exact decide_eq_true ⟨by first | exact (Int.natCast_nonneg d) | (simp only [Int.ofNat_eq_natCast]; exact (Int.natCast_nonneg d)), by first | exact (show (d : Int) < N by omega) | (simp only [Int.ofNat_eq_natCast]; exact (show (d : Int) < N by omega))⟩, ?_⟩
      simp only [Int.toNat_natCast, Int.ofNat_eq_natCast, Ops.nadd_eq, Ops.nat_eq, Nat.zero_add, hgs]
      (cbv; repeat' (first | (refine ⟨by simp only [Ops.need_eq, needs]; first | rfl | decide, ?_⟩; try cbv) | (refine mt (fun h => ?_) (fun h => ?_) <;> first | (exfalso; simp [Ops.cmp_eq, Ops.not_eq, icmp] at h; done) | (exfalso; simp [Ops.cmp_eq, icmp] at h; omega) | (try cbv))))
      refine ⟨t - 1, by omega, o.reI (Re.ren [0] _ [.arr 18 x2 tot] rfl rfl ?_ ?_ fun r => ⟨t - 1, d, r, by omega, by omega, hd, rfl, rfl, by rw [hx2]⟩)⟩
      · exact ⟨rfl, rfl, congrArg (VV.int .i64) (by simp only [Ops.ar_eq]; exact hc1), trivial⟩
      · refine ⟨.inr ?_, trivial⟩
        rw [hr2, ← hg3]
        simp only [Ops.set_eq]
        rfl
    · (cbv; repeat' (first | (refine ⟨by simp only [Ops.need_eq, needs]; first | rfl | decide, ?_⟩; try cbv) | (refine mt (fun _ => ?_) (fun _ => ?_) <;> (try cbv))))
      · exfalso
        rename_i h1
        simp only [o.ar_eq, Int.ofNat_eq_natCast, o.cmp_eq, icmp, decide_eq_true_eq] at h1
        have h2 : ((c : Nat) : Int) > ((p : Nat) : Int) := h1
        omega
      · have hti2 : t = i := by omega
        subst hti2
        exact hQ _ _ (ReV.ren [0] (.tup []) [.arr 18 (X t) tot] rfl rfl rfl ⟨.inr (by rw [hXr2]; rfl), trivial⟩ ⟨rfl, rfl⟩)
end Go.Proofs.Ythoodnlihbaimaa
