/- hist: the library's merge: its third case. -/
import Derived.Test.YthoodnlihbaimaaHN
namespace Go.Proofs.Ythoodnlihbaimaa
set_option linter.unusedVariables false
set_option linter.unusedSimpArgs false
open Go Go.SL Go.FL
set_option maxRecDepth 100000
set_option maxHeartbeats 2000000 in
theorem symC_ev {W0 : World} (P X Y S : List Told) (N cap tot a m b : Nat)
    (IH : ∀ (P' X' Y' S' : List Told) (p q r : Nat), X'.length + Y'.length < X.length + Y.length → N = (P' ++ X' ++ Y' ++ S').length → p = P'.length → q = p + X'.length → r = q + Y'.length → 0 < X'.length → 0 < Y'.length → Srt key X' → Srt key Y' → Low (P' ++ X' ++ Y' ++ S') →
      EvM W0 56 N cap p q r ((P' ++ X' ++ Y' ++ S').map Told.cs) tot ((P' ++ FL.mg key X' Y' ++ S').map Told.cs))
    (hN : N = (P ++ X ++ Y ++ S).length) (hlen : N ≤ 1000000) (ha : a = P.length) (hm : m = a + X.length) (hb : b = m + Y.length) (x1 : 1 < X.length) (y1 : 1 < Y.length) (hX : Srt key X) (hY : Srt key Y) (hB : Low (P ++ X ++ Y ++ S)) :
    Ev Try.prog W0 56 [.sl 0 18 0 N cap, .int .i64 a, .int .i64 m, .int .i64 b, .fn 28 [] []] [.arr 18 ((P ++ X ++ Y ++ S).map Told.cs) tot] (fun v V' => v = .tup [] ∧ V' = [.arr 18 ((P ++ FL.mg key X Y ++ S).map Told.cs) tot]) := by
  have hXr : ∀ (l : List Told) (ρ : Nat → Nat) c, rnB ρ (.arr 18 (l.map Told.cs) c) = .arr 18 (l.map Told.cs) (c.rn ρ) := by
    intro l ρ c
    have := Told.plain l
    simp only [rnB, this _]
  have hNl : N = P.length + X.length + Y.length + S.length := by rw [hN]; simp only [List.length_append]
  have hma : arith .sub .i64 (m : Int) (a : Int) = ((X.length : Nat) : Int) := by rw [subN (by omega) (by omega), show m - a = X.length by omega]
  have hmb : arith .sub .i64 (b : Int) (m : Int) = ((Y.length : Nat) : Int) := by rw [subN (by omega) (by omega), show b - m = Y.length by omega]
  have hgX : ∀ h x, X[h]? = some x → ((P ++ X ++ Y ++ S).map Told.cs)[a + h]? = some x.cs := by
    intro h x hx
    have hh : h < X.length := (List.getElem?_eq_some_iff.1 hx).1
    have e : P ++ X ++ Y ++ S = P ++ (X ++ (Y ++ S)) := by simp only [List.append_assoc]
    rw [List.getElem?_map, e, List.getElem?_append_right (by omega), List.getElem?_append_left (by omega), show a + h - P.length = h by omega, hx]; rfl
  have hgY : ∀ h y, Y[h]? = some y → ((P ++ X ++ Y ++ S).map Told.cs)[m + h]? = some y.cs := by
    intro h y hy
    have hh : h < Y.length := (List.getElem?_eq_some_iff.1 hy).1
    have hl : (P ++ X).length = m := by rw [List.length_append]; omega
    have e : P ++ X ++ Y ++ S = (P ++ X) ++ (Y ++ S) := by simp only [List.append_assoc]
    rw [List.getElem?_map, e, List.getElem?_append_right (by omega), List.getElem?_append_left (by omega), show m + h - (P ++ X).length = h by omega, hy]; rfl
  have hlX : ∀ x ∈ X, 0 ≤ x.stamp ∧ x.stamp ≤ 65535 := fun x hx => hB x (by simp [hx])
  have hlY : ∀ y ∈ Y, 0 ≤ y.stamp ∧ y.stamp ≤ 65535 := fun y hy => hB y (by simp [hy])
  refine Ev.out fun Q' hQ => ev56 rfl fun o => ?_
  generalize hxs : (P ++ X ++ Y ++ S).map Told.cs = xs at *
  have hr0 : ∀ (ρ : Nat → Nat) c, rnB ρ (.arr 18 xs c) = .arr 18 xs (c.rn ρ) := fun ρ c => by rw [← hxs]; exact hXr _ _ _
  obtain ⟨mid, hmid⟩ : ∃ mid, mid = (a + b) / 2 := ⟨_, rfl⟩
  have hhalf := halfN (i := a) (j := b) (by omega)
  rw [← hmid] at hhalf
  obtain ⟨n, hn⟩ : ∃ n, n = mid + m := ⟨_, rfl⟩
  have hadd := addN (a := mid) (b := m) (by omega)
  rw [← hn] at hadd
  have hnb : mid < m → arith .sub .i64 (n : Int) (b : Int) = ((n - b : Nat) : Int) := fun h => subN (by omega) (by omega)
  have hn1 : arith .sub .i64 (n : Int) 1 = ((n - 1 : Nat) : Int) := subN (a := n) (b := 1) (by omega) (by omega)
  obtain ⟨p, hp⟩ : ∃ p, p = n - 1 := ⟨_, rfl⟩
  rw [← hp] at hn1
  obtain ⟨nb, hnb'⟩ : ∃ nb, nb = n - b := ⟨_, rfl⟩
  rw [← hnb'] at hnb
  have hG : ∃ s0 r0, Geo X Y a m b mid n s0 r0 ∧ s0 = (if mid < m then nb else a) ∧ r0 = (if mid < m then mid else m) := by
    by_cases h : mid < m
    · exact ⟨nb, mid, ⟨hm, hb, by omega, hn, .inr ⟨h, hnb', rfl⟩, by omega, by omega⟩, by rw [if_pos h], by rw [if_pos h]⟩
    · exact ⟨a, m, ⟨hm, hb, by omega, hn, .inl ⟨by omega, rfl, rfl⟩, by omega, by omega⟩, by rw [if_neg h], by rw [if_neg h]⟩
  obtain ⟨s0, r0, G, hs0, hr0'⟩ := hG
  have tail : ∀ (s : Nat), Cut X Y a m n s0 r0 s s → ∀ env : Env, env 0 = .sl 0 18 0 N cap → env 1 = .int .i64 a → env 2 = .int .i64 m → env 3 = .int .i64 b → env 4 = .fn 28 [] [] → env 18 = .int .i64 mid → env 19 = .int .i64 n → env 20 = .int .i64 s →
      wpI o (dropS 8 ir56) (retK o [] Q') env [.arr 18 xs tot] := by
    intro s C env e0 e1 e2 e3 e4 e18 e19 e20
    obtain ⟨g1, g2, g3, g4, g5, g6⟩ := G.out C.lo C.hi
    have hcut := Cut.cuts G C hX hY
    obtain ⟨sA, sB⟩ := srt_takes key hX (s - a)
    obtain ⟨sC, sD⟩ := srt_takes key hY (n - s - m)
    have eX : X.take (s - a) ++ X.drop (s - a) = X := List.take_append_drop ..
    have eY : Y.take (n - s - m) ++ Y.drop (n - s - m) = Y := List.take_append_drop ..
    have lA : (X.take (s - a)).length = s - a := by rw [List.length_take]; omega
    have lB : (X.drop (s - a)).length = m - s := by rw [List.length_drop]; omega
    have lC : (Y.take (n - s - m)).length = n - s - m := by rw [List.length_take]; omega
    have lD : (Y.drop (n - s - m)).length = b - (n - s) := by rw [List.length_drop]; omega
    have gd := G.gd
    have hBA : ∀ l : List Told, (∀ x ∈ l, x ∈ P ∨ x ∈ X ∨ x ∈ Y ∨ x ∈ S) → Low l := fun l h x hx => hB x (by
      rcases h x hx with h | h | h | h <;> simp [h])
    have mA : ∀ x ∈ X.take (s - a), x ∈ X := fun x h => List.mem_of_mem_take h
    have mB : ∀ x ∈ X.drop (s - a), x ∈ X := fun x h => List.mem_of_mem_drop h
    have mC : ∀ x ∈ Y.take (n - s - m), x ∈ Y := fun x h => List.mem_of_mem_take h
    have mD : ∀ x ∈ Y.drop (n - s - m), x ∈ Y := fun x h => List.mem_of_mem_drop h
    generalize X.take (s - a) = A at *
    generalize X.drop (s - a) = B at *
    generalize Y.take (n - s - m) = C1 at *
    generalize Y.drop (n - s - m) = D at *
    have hmgl : (mg key A C1).length = A.length + C1.length := mg_len key A C1
    have hxs2 : xs = (P ++ A ++ B ++ C1 ++ (D ++ S)).map Told.cs := by rw [← hxs, ← eX, ← eY]; simp only [List.append_assoc]
    have hQ2 : OutM W0 Q' ((P ++ mg key A C1 ++ mg key B D ++ S).map Told.cs) tot := by
      have e : P ++ mg key X Y ++ S = P ++ mg key A C1 ++ mg key B D ++ S := by rw [hcut]; simp only [List.append_assoc]
      rw [← e]; exact hQ
    have nils : ∀ {l : List Told}, l.length = 0 → l = [] := fun h => List.eq_nil_of_length_eq_zero h
    refine symT8 o Q' N cap tot a m b mid n s (n - s) xs ((P ++ A ++ C1 ++ B ++ (D ++ S)).map Told.cs) ((P ++ mg key A C1 ++ (B ++ D ++ S)).map Told.cs) ((P ++ mg key A C1 ++ mg key B D ++ S).map Told.cs) hr0 (hXr _) (hXr _) (hXr _) (subN (by omega) (by omega)) (fun c1 c2 => ?_) (fun c => ?_) (fun c1 c2 => ?_) (fun c => ?_) (fun c1 c2 => ?_) (fun c => ?_) hQ2 env e0 e1 e2 e3 e4 e18 e19 e20
    · rw [hxs2]
      exact rotate_ev (P ++ A) B C1 (D ++ S) N cap tot (by simp only [List.length_append]; omega) hlen s m (n - s) (by simp only [List.length_append]; omega) (by simp only [List.length_append]; omega) (by simp only [List.length_append]; omega) (by omega) (by omega)
    · rw [hxs2]
      rcases (by omega : B.length = 0 ∨ C1.length = 0) with h | h <;> rw [nils h] <;> simp only [List.append_nil, List.append_assoc]
    · have h := IH P A C1 (B ++ D ++ S) a s mid (by omega) (by simp only [List.length_append]; omega) ha (by omega) (by omega) (by omega) (by omega) sA sC (hBA _ (by
        intro x hx
        simp only [List.mem_append] at hx
        rcases hx with ((h | h) | h) | ((h | h) | h)
        · exact .inl h
        · exact .inr (.inl (mA x h))
        · exact .inr (.inr (.inl (mC x h)))
        · exact .inr (.inl (mB x h))
        · exact .inr (.inr (.inl (mD x h)))
        · exact .inr (.inr (.inr h))))
      rw [show P ++ A ++ C1 ++ B ++ (D ++ S) = P ++ A ++ C1 ++ (B ++ D ++ S) by simp only [List.append_assoc]]
      exact h
    · rcases (by omega : A.length = 0 ∨ C1.length = 0) with h | h
      · rw [nils h, mg_nil]; simp only [List.append_nil, List.append_assoc]
      · rw [nils h, mg_nil2]; simp only [List.append_nil, List.append_assoc]
    · have h := IH (P ++ mg key A C1) B D S mid (n - s) b (by omega) (by simp only [List.length_append]; omega) (by simp only [List.length_append]; omega) (by omega) (by omega) (by omega) (by omega) sB sD (hBA _ (by
        intro x hx
        simp only [List.mem_append] at hx
        rcases hx with (((h | h) | h) | h) | h
        · exact .inl h
        · rcases mg_mem key h with h | h
          · exact .inr (.inl (mA x h))
          · exact .inr (.inr (.inl (mC x h)))
        · exact .inr (.inl (mB x h))
        · exact .inr (.inr (.inl (mD x h)))
        · exact .inr (.inr (.inr h))))
      rw [show P ++ mg key A C1 ++ (B ++ D ++ S) = P ++ mg key A C1 ++ B ++ D ++ S by simp only [List.append_assoc]]
      exact h
    · rcases (by omega : B.length = 0 ∨ D.length = 0) with h | h
      · rw [nils h, mg_nil]; simp only [List.append_nil, List.append_assoc]; rfl
      · rw [nils h, mg_nil2]; simp only [List.append_nil, List.append_assoc]
  rw [show ir56 = .seq (fstS ir56) (.seq (fstS (dropS 1 ir56)) (.seq (fstS (dropS 2 ir56)) (.seq (fstS (dropS 3 ir56)) (.seq (fstS (dropS 4 ir56)) (.seq (fstS (dropS 5 ir56)) (.seq (fstS (dropS 6 ir56)) (.seq (fstS (dropS 7 ir56)) (dropS 8 ir56)))))))) from rfl]
  have hsq : ∀ a b K e V, wpI o (.seq a b) K e V = wpI o a (fun x e V => match x with | .normal => wpI o b K e V | .exit i => K (.exit i) e V | .ret => K .ret e V) e V := fun _ _ _ _ _ => rfl
  simp only [hsq]
  clear hsq
  generalize wpI o (dropS 8 ir56) = R at *
  (cbv; repeat' (first | (refine ⟨by simp only [Ops.need_eq, needs]; first | rfl | decide, ?_⟩; try cbv) | (refine mt (fun _ => ?_) (fun _ => ?_) <;> (try cbv))))
  · exfalso
    rename_i h
    simp only [o.ar_eq, Int.ofNat_eq_natCast, hma, o.cmp_eq, icmp, beq_iff_eq] at h
    have h2 : ((X.length : Nat) : Int) = 1 := h
    omega
  · exfalso
    rename_i h0 h
    simp only [o.ar_eq, Int.ofNat_eq_natCast, hmb, o.cmp_eq, icmp, beq_iff_eq] at h
    have h2 : ((Y.length : Nat) : Int) = 1 := h
    omega
  focus
    rename_i h1 h2 h3
    simp only [o.cmp_eq, icmp, o.wr_eq, o.ar_eq, Int.ofNat_eq_natCast, hhalf, decide_eq_true_eq] at h3
    have h4 : ((m : Nat) : Int) > ((mid : Nat) : Int) := h3
    have hlt : mid < m := by omega
    have hnb2 := hnb hlt
    have e1 : s0 = nb := by rw [hs0, if_pos hlt]
    have e2 : r0 = mid := by rw [hr0', if_pos hlt]
    have hsr : s0 ≤ r0 := by omega
    simp only [o.wr_eq, o.ar_eq, Int.ofNat_eq_natCast, hhalf, hadd, hnb2, hn1]
    refine ⟨fun k env V => ∃ (s r : Nat) (r' : Nat → Value), Cut X Y a m n s0 r0 s r ∧ k = r - s ∧ env = mix [(0, .sl 0 18 0 N cap), (1, .int .i64 a), (2, .int .i64 m), (3, .int .i64 b), (4, .fn 28 [] []), (18, .int .i64 mid), (19, .int .i64 n), (20, .int .i64 s), (21, .int .i64 r), (22, .int .i64 p)] r' ∧ V = [.arr 18 xs tot],
      ⟨r0 - s0, o.reI (Re.ren [0] _ _ rfl rfl ?_ ?_ fun r' => ⟨s0, r0, r', ⟨Nat.le_refl _, hsr, Nat.le_refl _, fun _ _ h => absurd h (Nat.lt_irrefl _), fun _ _ h => absurd h (Nat.lt_irrefl _)⟩, rfl, rfl, rfl⟩)⟩, ?_⟩
    · exact ⟨rfl, rfl, rfl, rfl, rfl, rfl, rfl, (by rw [e1]; rfl), (by rw [e2]; rfl), rfl, trivial⟩
    · exact ⟨.inr (by rw [hr0]; rfl), trivial⟩
    clear h1 h2 h3 h4 hlt hnb2 e1 e2 hsr
  rotate_left
  focus
    rename_i h1 h2 h3
    simp only [o.cmp_eq, icmp, o.wr_eq, o.ar_eq, Int.ofNat_eq_natCast, hhalf, decide_eq_false_iff_not] at h3
    have h4 : ¬ ((m : Nat) : Int) > ((mid : Nat) : Int) := h3
    have hlt : ¬ mid < m := by omega
    have e1 : s0 = a := by rw [hs0, if_neg hlt]
    have e2 : r0 = m := by rw [hr0', if_neg hlt]
    have hsr : s0 ≤ r0 := by omega
    simp only [o.wr_eq, o.ar_eq, Int.ofNat_eq_natCast, hhalf, hadd, hn1]
    refine ⟨fun k env V => ∃ (s r : Nat) (r' : Nat → Value), Cut X Y a m n s0 r0 s r ∧ k = r - s ∧ env = mix [(0, .sl 0 18 0 N cap), (1, .int .i64 a), (2, .int .i64 m), (3, .int .i64 b), (4, .fn 28 [] []), (18, .int .i64 mid), (19, .int .i64 n), (20, .int .i64 s), (21, .int .i64 r), (22, .int .i64 p)] r' ∧ V = [.arr 18 xs tot],
      ⟨r0 - s0, o.reI (Re.ren [0] _ _ rfl rfl ?_ ?_ fun r' => ⟨s0, r0, r', ⟨Nat.le_refl _, hsr, Nat.le_refl _, fun _ _ h => absurd h (Nat.lt_irrefl _), fun _ _ h => absurd h (Nat.lt_irrefl _)⟩, rfl, rfl, rfl⟩)⟩, ?_⟩
    · exact ⟨rfl, rfl, rfl, rfl, rfl, rfl, rfl, (by rw [e1]; rfl), (by rw [e2]; rfl), rfl, trivial⟩
    · exact ⟨.inr (by rw [hr0]; rfl), trivial⟩
    clear h1 h2 h3 h4 hlt e1 e2 hsr
  all_goals
    rintro k env V ⟨s, r, r', C, hk, rfl, rfl⟩
    by_cases hsr : s < r
    · obtain ⟨c, hc⟩ : ∃ c, c = (s + r) / 2 := ⟨_, rfl⟩
      have hch := halfN (i := s) (j := r) (by have := G.out (C.lo) (by have := C.hi; omega); have := C.hi; have := G.out (s := r) (by have := C.lo; omega) C.hi; omega)
      rw [← hc] at hch
      have hsc : s ≤ c := by omega
      have hcr : c < r := by omega
      obtain ⟨g1, g2, g3, g4⟩ := G.in_ (c := c) (by have := C.lo; omega) (by have := C.hi; omega)
      obtain ⟨q, hq⟩ : ∃ q, q = n - 1 - c := ⟨_, rfl⟩
      rw [← hq] at g3 g4
      have hpc : arith .sub .i64 (p : Int) (c : Int) = ((q : Nat) : Int) := by rw [subN (by omega) (by omega), show p - c = q by omega]
      obtain ⟨x, hx⟩ : ∃ x, X[c - a]? = some x := ⟨_, List.getElem?_eq_getElem (by omega)⟩
      obtain ⟨y, hy⟩ : ∃ y, Y[q - m]? = some y := ⟨_, List.getElem?_eq_getElem (by omega)⟩
      have hgx := hgX _ _ hx
      rw [show a + (c - a) = c by omega] at hgx
      have hgy := hgY _ _ hy
      rw [show m + (q - m) = q by omega] at hgy
      have hcl := cmpLt (hlY y (List.mem_of_getElem? hy)) (hlX x (List.mem_of_getElem? hx))
      have hup := fun hk => C.stepUp hsc hcr hx (by rw [← hq]; exact hy) hk
      have hdn := fun hk => C.stepDn hsc hcr hx (by rw [← hq]; exact hy) hk
      have hcN : c < N := by omega
      have hqN : q < N := by omega
      have hc1 := add1 (i := c) (by omega)
      clear hgX hgY hc hq
      (cbv; repeat' (first | (refine ⟨by simp only [Ops.need_eq, needs]; first | rfl | decide, ?_⟩; try cbv) | (refine mt (fun h => ?_) (fun h => ?_) <;> first | (exfalso; simp [Ops.cmp_eq, Ops.not_eq, icmp] at h; done) | (exfalso; simp [Ops.cmp_eq, icmp] at h; omega) | (try cbv))))
      simp only [o.wr_eq, o.ar_eq, Int.ofNat_eq_natCast, hch, hpc]
      refine ⟨by simp only [Ops.inb_eq]; exact decide_eq_true ⟨by first | exact (Int.natCast_nonneg q) | (simp only [Int.ofNat_eq_natCast]; exact (Int.natCast_nonneg q)), by first | exact (show (q : Int) < N by omega) | (simp only [Int.ofNat_eq_natCast]; exact (show (q : Int) < N by omega))⟩, ?_⟩
      simp only [Int.toNat_natCast, Int.ofNat_eq_natCast, Ops.get_eq, Ops.nadd_eq, Ops.nat_eq, Nat.zero_add, hgy]
      (cbv; repeat' (first | (refine ⟨by simp only [Ops.need_eq, needs]; first | rfl | decide, ?_⟩; try cbv) | (refine mt (fun h => ?_) (fun h => ?_) <;> first | (exfalso; simp [Ops.cmp_eq, Ops.not_eq, icmp] at h; done) | (exfalso; simp [Ops.cmp_eq, icmp] at h; omega) | (try cbv))))
      simp only [o.wr_eq, o.ar_eq, Int.ofNat_eq_natCast, hch, hpc]
      refine ⟨by simp only [Ops.inb_eq]; exact decide_eq_true ⟨by first | exact (Int.natCast_nonneg c) | (simp only [Int.ofNat_eq_natCast]; exact (Int.natCast_nonneg c)), by first | exact (show (c : Int) < N by omega) | (simp only [Int.ofNat_eq_natCast]; exact (show (c : Int) < N by omega))⟩, ?_⟩
      simp only [Int.toNat_natCast, Int.ofNat_eq_natCast, Ops.get_eq, Ops.nadd_eq, Ops.nat_eq, Nat.zero_add, hgx]
      (cbv; repeat' (first | (refine ⟨by simp only [Ops.need_eq, needs]; first | rfl | decide, ?_⟩; try cbv) | (refine mt (fun h => ?_) (fun h => ?_) <;> first | (exfalso; simp [Ops.cmp_eq, Ops.not_eq, icmp] at h; done) | (exfalso; simp [Ops.cmp_eq, icmp] at h; omega) | (try cbv))))
      simp only [o.wr_eq, o.ar_eq, Int.ofNat_eq_natCast, hch, hpc]
      refine o.call0 (cmp_ev y x) rfl ?_
      rintro v V' ⟨rfl, rfl⟩
      generalize arith .sub .i64 y.stamp x.stamp = D at *
      (cbv; repeat' (first | (refine ⟨by simp only [Ops.need_eq, needs]; first | rfl | decide, ?_⟩; try cbv) | (refine mt (fun _ => ?_) (fun _ => ?_) <;> (try cbv))))
      · rename_i h1
        have h2 : ¬ D < 0 := by simpa [o.cmp_eq, o.not_eq, icmp] using h1
        have h3 := hup (fun hk => h2 (hcl.2 hk))
        refine ⟨r - (c + 1), by omega, o.reI (Re.ren [0] _ _ rfl rfl ?_ ?_ fun r' => ⟨c + 1, r, r', h3, rfl, rfl, rfl⟩)⟩
        · exact ⟨rfl, rfl, rfl, rfl, rfl, rfl, rfl, congrArg (VV.int .i64) (by first | exact hc1 | (simp only [Ops.ar_eq, Ops.wr_eq, hch]; exact hc1)), rfl, rfl, trivial⟩
        · exact ⟨.inr (by rw [hr0]; rfl), trivial⟩
      · rename_i h1
        have h2 : D < 0 := by simpa [o.cmp_eq, o.not_eq, icmp] using h1
        have h3 := hdn (hcl.1 h2)
        refine ⟨c - s, by omega, o.reI (Re.ren [0] _ _ rfl rfl ?_ ?_ fun r' => ⟨s, c, r', h3, rfl, rfl, rfl⟩)⟩
        · exact ⟨rfl, rfl, rfl, rfl, rfl, rfl, rfl, rfl, congrArg (VV.int .i64) (by first | rfl | simp only [Ops.ar_eq, Ops.wr_eq, hch]), rfl, trivial⟩
        · exact ⟨.inr (by rw [hr0]; rfl), trivial⟩
    · have : s = r := by have := C.le; omega
      subst this
      have tl := tail s C
      clear hgX hgY tail
      (cbv; repeat' (first | (refine ⟨by simp only [Ops.need_eq, needs]; first | rfl | decide, ?_⟩; try cbv) | (refine mt (fun h => ?_) (fun h => ?_) <;> first | (exfalso; simp [Ops.cmp_eq, Ops.not_eq, icmp] at h; done) | (exfalso; simp [Ops.cmp_eq, icmp] at h; omega) | (try cbv))))
      refine tl _ ?_ ?_ ?_ ?_ ?_ ?_ ?_ ?_ <;> rfl
end Go.Proofs.Ythoodnlihbaimaa
