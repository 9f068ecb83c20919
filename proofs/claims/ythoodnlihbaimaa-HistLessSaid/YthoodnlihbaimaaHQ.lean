/- hist: the library's stable sort of 40 and fewer. -/
import Derived.Test.YthoodnlihbaimaaHP
namespace Go.Proofs.Ythoodnlihbaimaa
set_option linter.unusedVariables false
set_option linter.unusedSimpArgs false
open Go Go.SL Go.FL
set_option maxRecDepth 100000
abbrev EvI (W0 : World) (N cap : Nat) (p q : Nat) (xs : List (List VV)) (tot : Nat) (ys : List (List VV)) : Prop :=
  Ev Try.prog W0 55 [.sl 0 18 0 N cap, .int .i64 p, .int .i64 q, .fn 28 [] []] [.arr 18 xs tot] (fun v V' => v = .tup [] ∧ V' = [.arr 18 ys tot])
set_option maxHeartbeats 1000000 in
theorem stableA_ev {W0 : World} (n cap tot : Nat) (hn : n ≤ 40) (y : Nat → List (List VV)) (z z1 : List (List VV)) (py : ∀ j, ArrP (y j)) (pz : ArrP z) (pz1 : ArrP z1)
    (h1 : ∀ j, 20 * j + 20 ≤ n → EvI W0 n cap (20 * j) (20 * j + 20) (y j) tot (y (j + 1))) (h2 : ∀ j, 20 * j ≤ n → n < 20 * j + 20 → EvI W0 n cap (20 * j) n (y j) tot z)
    (h3 : 20 < n → EvM W0 56 n cap 0 20 n z tot z1) (h4 : n ≤ 20 → z = z1) :
    Ev Try.prog W0 45 [.sl 0 18 0 n cap, .int .i64 n, .fn 28 [] []] [.arr 18 (y 0) tot] (fun v V' => v = .tup [] ∧ V' = [.arr 18 z1 tot]) := by
  refine Ev.out fun Q' hQ => ev45 rfl fun o => ?_
  (cbv; repeat' (first | (refine ⟨by simp only [Ops.need_eq, needs]; first | rfl | decide, ?_⟩; try cbv) | (refine mt (fun h => ?_) (fun h => ?_) <;> first | (exfalso; simp [Ops.cmp_eq, Ops.not_eq, icmp] at h; done) | (exfalso; simp [Ops.cmp_eq, icmp] at h; omega) | (try cbv))))
  refine ⟨fun k env V => ∃ (j a b : Nat) (r : Nat → Value), a = 20 * j ∧ b = a + 20 ∧ a ≤ n ∧ k = n - a ∧ env = mix [(0, .sl 0 18 0 n cap), (1, .int .i64 n), (2, .fn 28 [] []), (6, .int .i64 20), (7, .int .i64 a), (8, .int .i64 b)] r ∧ V = [.arr 18 (y j) tot],
    ⟨n, o.reI (Re.ren [0] _ _ rfl rfl ?_ ?_ fun r => ⟨0, 0, 20, r, rfl, rfl, Nat.zero_le _, rfl, rfl, rfl⟩)⟩, ?_⟩
  · exact ⟨rfl, rfl, rfl, rfl, rfl, rfl, trivial⟩
  · exact ⟨.inr (by rw [py]; rfl), trivial⟩
  rintro k env V ⟨j, a, b, r, ha, hb, han, hk, rfl, rfl⟩
  have py0 := py j
  have py1 := py (j + 1)
  by_cases hbn : b ≤ n
  · have hc := h1 j (by omega)
    rw [← ha, ← hb] at hc
    clear h1 h2 h3 h4 hQ
    have hb2 := addN (a := b) (b := 20) (by omega)
    generalize hY : y (j + 1) = Y at *
    generalize y j = X at *
    (cbv; repeat' (first | (refine ⟨by simp only [Ops.need_eq, needs]; first | rfl | decide, ?_⟩; try cbv) | (refine mt (fun h => ?_) (fun h => ?_) <;> first | (exfalso; simp [Ops.cmp_eq, Ops.not_eq, icmp] at h; done) | (exfalso; simp [Ops.cmp_eq, icmp] at h; omega) | (try cbv))))
    refine Ops.call _ [0] hc rfl rfl rfl ⟨.inr (by rw [py0]; rfl), trivial⟩ ?_
    rintro v V' ⟨rfl, rfl⟩
    simp only [layB, lset, lapp, List.map_nil, List.map_cons, py1, rn, rnL, Cap.rn]
    (cbv; repeat' (first | (refine ⟨by simp only [Ops.need_eq, needs]; first | rfl | decide, ?_⟩; try cbv) | (refine mt (fun h => ?_) (fun h => ?_) <;> first | (exfalso; simp [Ops.cmp_eq, Ops.not_eq, icmp] at h; done) | (exfalso; simp [Ops.cmp_eq, icmp] at h; omega) | (try cbv))))
    refine ⟨n - b, by omega, o.reI (Re.ren [0] _ _ rfl rfl ?_ ?_ fun r => ⟨j + 1, b, b + 20, r, by omega, rfl, hbn, rfl, rfl, by rw [hY]⟩)⟩
    · exact ⟨rfl, rfl, rfl, rfl, rfl, congrArg (VV.int .i64) (by simp only [Ops.ar_eq]; exact hb2), trivial⟩
    · exact ⟨.inr (by rw [py1]; rfl), trivial⟩
  · have hc := h2 j (by omega) (by omega)
    rw [← ha] at hc
    clear h1 h2 py1
    generalize y j = X at *
    (cbv; repeat' (first | (refine ⟨by simp only [Ops.need_eq, needs]; first | rfl | decide, ?_⟩; try cbv) | (refine mt (fun h => ?_) (fun h => ?_) <;> first | (exfalso; simp [Ops.cmp_eq, Ops.not_eq, icmp] at h; done) | (exfalso; simp [Ops.cmp_eq, icmp] at h; omega) | (try cbv))))
    refine Ops.call _ [0] hc rfl rfl rfl ⟨.inr (by rw [py0]; rfl), trivial⟩ ?_
    rintro v V' ⟨rfl, rfl⟩
    simp only [layB, lset, lapp, List.map_nil, List.map_cons, pz, rn, rnL, Cap.rn]
    clear hc py0 py
    (cbv; repeat' (first | (refine ⟨by simp only [Ops.need_eq, needs]; first | rfl | decide, ?_⟩; try cbv) | (refine mt (fun h => ?_) (fun h => ?_) <;> first | (exfalso; simp [Ops.cmp_eq, Ops.not_eq, icmp] at h; done) | (exfalso; simp [Ops.cmp_eq, icmp] at h; omega) | (try cbv))))
    refine ⟨fun k env V => ∃ (q : Nat) (x : List (List VV)) (r : Nat → Value), ArrP x ∧ (q = 20 ∧ x = z ∨ q = 40 ∧ x = z1 ∧ 20 < n) ∧ k = 41 - q ∧ env = mix [(0, .sl 0 18 0 n cap), (1, .int .i64 n), (2, .fn 28 [] []), (6, .int .i64 q)] r ∧ V = [.arr 18 x tot],
      ⟨21, o.reI (Re.ren [0] _ _ rfl rfl ?_ ?_ fun r => ⟨20, z, r, pz, .inl ⟨rfl, rfl⟩, rfl, rfl, rfl⟩)⟩, ?_⟩
    · exact ⟨rfl, rfl, rfl, rfl, trivial⟩
    · exact ⟨.inr (by rw [pz]; rfl), trivial⟩
    rintro k env V ⟨q, x, r, px, hq, hk, rfl, rfl⟩
    by_cases hqn : q < n
    · obtain ⟨rfl, rfl⟩ : q = 20 ∧ x = z := by
        rcases hq with h | ⟨h, _, _⟩
        · exact h
        · omega
      have hs := h3 hqn
      clear h3 h4 hq hQ
      (cbv; repeat' (first | (refine ⟨by simp only [Ops.need_eq, needs]; first | rfl | decide, ?_⟩; try cbv) | (refine mt (fun h => ?_) (fun h => ?_) <;> first | (exfalso; simp [Ops.cmp_eq, Ops.not_eq, icmp] at h; done) | (exfalso; simp [Ops.cmp_eq, icmp] at h; omega) | (try cbv))))
      refine ⟨fun k env V => ∃ (a b : Nat) (w : List (List VV)) (r : Nat → Value), ArrP w ∧ (a = 0 ∧ b = 40 ∧ w = x ∨ a = 40 ∧ b = 80 ∧ n = 40 ∧ w = z1) ∧ k = 41 - a ∧ env = mix [(0, .sl 0 18 0 n cap), (1, .int .i64 n), (2, .fn 28 [] []), (6, .int .i64 20), (7, .int .i64 a), (8, .int .i64 b)] r ∧ V = [.arr 18 w tot],
        ⟨41, o.reI (Re.ren [0] _ _ rfl rfl ?_ ?_ fun r => ⟨0, 40, x, r, px, .inl ⟨rfl, rfl, rfl⟩, rfl, rfl, rfl⟩)⟩, ?_⟩
      · exact ⟨rfl, rfl, rfl, rfl, rfl, congrArg (VV.int .i64) (by simp only [Ops.ar_eq]; rfl), trivial⟩
      · exact ⟨.inr (by rw [px]; rfl), trivial⟩
      rintro k' env V ⟨a', b', w, r, pw, hw, hk', rfl, rfl⟩
      by_cases hbn' : b' ≤ n
      · obtain ⟨rfl, rfl, rfl⟩ : a' = 0 ∧ b' = 40 ∧ w = x := by
          rcases hw with h | ⟨_, h, _, _⟩
          · exact h
          · omega
        have hn40 : n = 40 := by omega
        subst hn40
        clear hw
        (cbv; repeat' (first | (refine ⟨by simp only [Ops.need_eq, needs]; first | rfl | decide, ?_⟩; try cbv) | (refine mt (fun h => ?_) (fun h => ?_) <;> first | (exfalso; simp [Ops.cmp_eq, Ops.not_eq, icmp] at h; done) | (exfalso; simp [Ops.cmp_eq, icmp] at h; omega) | (try cbv))))
        simp only [o.ar_eq, Int.ofNat_eq_natCast, show arith .add .i64 0 20 = 20 from rfl]
        refine Ops.call _ [0] hs rfl rfl rfl ⟨.inr (by rw [pw]; rfl), trivial⟩ ?_
        rintro v V' ⟨rfl, rfl⟩
        simp only [layB, lset, lapp, List.map_nil, List.map_cons, pz1, rn, rnL, Cap.rn]
        (cbv; repeat' (first | (refine ⟨by simp only [Ops.need_eq, needs]; first | rfl | decide, ?_⟩; try cbv) | (refine mt (fun h => ?_) (fun h => ?_) <;> first | (exfalso; simp [Ops.cmp_eq, Ops.not_eq, icmp] at h; done) | (exfalso; simp [Ops.cmp_eq, icmp] at h; omega) | (try cbv))))
        refine ⟨1, by omega, o.reI (Re.ren [0] _ _ rfl rfl ?_ ?_ fun r => ⟨40, 80, z1, r, pz1, .inr ⟨rfl, rfl, by trivial, rfl⟩, rfl, rfl, rfl⟩)⟩
        · exact ⟨rfl, rfl, rfl, rfl, rfl, congrArg (VV.int .i64) (by simp only [Ops.ar_eq]; rfl), trivial⟩
        · exact ⟨.inr (by rw [pz1]; rfl), trivial⟩
      · rcases hw with ⟨rfl, rfl, rfl⟩ | ⟨rfl, rfl, rfl, rfl⟩
        · have e20 : arith .add .i64 0 20 = 20 := rfl
          (cbv; repeat' (first | (refine ⟨by simp only [Ops.need_eq, needs]; first | rfl | decide, ?_⟩; try cbv) | (refine mt (fun h => ?_) (fun h => ?_) <;> first | (exfalso; simp [Ops.cmp_eq, Ops.not_eq, Ops.beq_eq, icmp, o.ar_eq, e20] at h; done) | (exfalso; simp [Ops.cmp_eq, Ops.not_eq, Ops.beq_eq, icmp, o.ar_eq, e20] at h; omega) | (try cbv))))
          simp only [o.ar_eq, Int.ofNat_eq_natCast, e20]
          refine Ops.call _ [0] hs rfl rfl rfl ⟨.inr (by rw [pw]; rfl), trivial⟩ ?_
          rintro v V' ⟨rfl, rfl⟩
          simp only [layB, lset, lapp, List.map_nil, List.map_cons, pz1, rn, rnL, Cap.rn]
          (cbv; repeat' (first | (refine ⟨by simp only [Ops.need_eq, needs]; first | rfl | decide, ?_⟩; try cbv) | (refine mt (fun h => ?_) (fun h => ?_) <;> first | (exfalso; simp [Ops.cmp_eq, Ops.not_eq, icmp] at h; done) | (exfalso; simp [Ops.cmp_eq, icmp] at h; omega) | (try cbv))))
          refine ⟨1, by omega, o.reI (Re.ren [0] _ _ rfl rfl ?_ ?_ fun r => ⟨40, z1, r, pz1, .inr ⟨rfl, rfl, hqn⟩, rfl, rfl, rfl⟩)⟩
          · exact ⟨rfl, rfl, rfl, congrArg (VV.int .i64) (by simp only [Ops.ar_eq]; rfl), trivial⟩
          · exact ⟨.inr (by rw [pz1]; rfl), trivial⟩
        · have e60 : arith .add .i64 40 20 = 60 := rfl
          (cbv; repeat' (first | (refine ⟨by simp only [Ops.need_eq, needs]; first | rfl | decide, ?_⟩; try cbv) | (refine mt (fun h => ?_) (fun h => ?_) <;> first | (exfalso; simp [Ops.cmp_eq, Ops.not_eq, Ops.beq_eq, icmp, o.ar_eq, e60] at h; done) | (exfalso; simp [Ops.cmp_eq, Ops.not_eq, Ops.beq_eq, icmp, o.ar_eq, e60] at h; omega) | (try cbv))))
          refine ⟨1, by omega, o.reI (Re.ren [0] _ _ rfl rfl ?_ ?_ fun r => ⟨40, w, r, pw, .inr ⟨rfl, rfl, hqn⟩, rfl, rfl, rfl⟩)⟩
          · exact ⟨rfl, rfl, rfl, congrArg (VV.int .i64) (by simp only [Ops.ar_eq]; rfl), trivial⟩
          · exact ⟨.inr (by rw [pw]; rfl), trivial⟩
    · have hx : x = z1 := by
        rcases hq with ⟨h, h'⟩ | ⟨_, h, _⟩
        · rw [h']; exact h4 (by omega)
        · exact h
      subst hx
      (cbv; repeat' (first | (refine ⟨by simp only [Ops.need_eq, needs]; first | rfl | decide, ?_⟩; try cbv) | (refine mt (fun h => ?_) (fun h => ?_) <;> first | (exfalso; simp [Ops.cmp_eq, Ops.not_eq, icmp] at h; done) | (exfalso; simp [Ops.cmp_eq, icmp] at h; omega) | (try cbv))))
      exact hQ _ _ (ReV.ren [0] (.tup []) [.arr 18 x tot] rfl rfl rfl ⟨.inr (by rw [px]; rfl), trivial⟩ ⟨rfl, rfl⟩)
/-- What the blocks ahead come to. -/
def blkS (l : List Told) : Nat → List Told
  | 0 => []
  | j + 1 => blkS l j ++ st key ((l.drop (20 * j)).take 20)
theorem blkS_len (l : List Told) : ∀ j, 20 * j ≤ l.length → (blkS l j).length = 20 * j
  | 0, _ => rfl
  | j + 1, h => by
    rw [blkS, List.length_append, blkS_len l j (by omega), st_len, List.length_take, List.length_drop]; omega
def blkY (l : List Told) (j : Nat) : List Told := blkS l j ++ l.drop (20 * j)
theorem stable40_ev {W0 : World} (l : List Told) (cap tot : Nat) (hn : l.length ≤ 40) (lo : Low l) : Ev Try.prog W0 45 [.sl 0 18 0 l.length cap, .int .i64 l.length, .fn 28 [] []] [.arr 18 (l.map Told.cs) tot] (fun v V' =>
      v = .tup [] ∧ V' = [.arr 18 ((st key l).map Told.cs) tot]) := by
  have hXr : ∀ (l : List Told), ArrP (l.map Told.cs) := by
    intro l ρ c
    have := Told.plain l
    simp only [rnB, this _]
  have low2 : ∀ a b, Low ((l.drop a).take b) := fun a b x hx => lo x (List.mem_of_mem_drop (List.mem_of_mem_take hx))
  have low1 : ∀ a, Low (l.drop a) := fun a x hx => lo x (List.mem_of_mem_drop hx)
  obtain ⟨J, hJ1, hJ2⟩ : ∃ J, 20 * J ≤ l.length ∧ l.length < 20 * J + 20 := ⟨l.length / 20, by omega, by omega⟩
  have h0 : blkY l 0 = l := by simp [blkY, blkS]
  have hz : ∀ b : List Told, b.length = 20 * J → True := fun _ _ => trivial
  have hstJ : ∀ j, 20 * j ≤ l.length → isrt (20 * j) (20 * j + 1) (l.length - (20 * j + 1)) (blkY l j) = blkS l j ++ st key (l.drop (20 * j)) := by
    intro j hj
    have h := isrt_st (blkS l j) (l.drop (20 * j)) [] (low1 _)
    rw [blkS_len l j hj, List.length_drop, List.append_nil, List.append_nil] at h
    rw [show l.length - (20 * j + 1) = l.length - 20 * j - 1 by omega]
    exact h
  have hlenY : ∀ j, 20 * j ≤ l.length → (blkY l j).length = l.length := fun j hj => by rw [blkY, List.length_append, blkS_len l j hj, List.length_drop]; omega
  have hst20 : ∀ j, 20 * j + 20 ≤ l.length → isrt (20 * j) (20 * j + 1) (20 * j + 20 - (20 * j + 1)) (blkY l j) = blkY l (j + 1) := by
    intro j hj
    have h := isrt_st (blkS l j) ((l.drop (20 * j)).take 20) (l.drop (20 * (j + 1))) (low2 _ _)
    rw [blkS_len l j (by omega), List.length_take, List.length_drop] at h
    rw [show 20 * j + 20 - (20 * j + 1) = min 20 (l.length - 20 * j) - 1 by omega]
    have e : blkS l j ++ (l.drop (20 * j)).take 20 ++ l.drop (20 * (j + 1)) = blkY l j := by
      rw [blkY, List.append_assoc, show 20 * (j + 1) = 20 * j + 20 by omega, ← List.drop_drop, List.take_append_drop]
    rw [e] at h
    rw [h]; rfl
  have hfin : ∀ j, 20 * j ≤ l.length → l.length < 20 * j + 20 → blkS l j ++ st key (l.drop (20 * j)) = (if 20 < l.length then st key (l.take 20) ++ st key (l.drop 20) else st key l) := by
    intro j h1 h2
    have hn0 : st key ([] : List Told) = [] := rfl
    rcases (by omega : j = 0 ∨ j = 1 ∨ (j = 2 ∧ l.length = 40)) with rfl | rfl | ⟨rfl, h40⟩
    · rw [if_neg (by omega)]; simp [blkS]
    · by_cases h : 20 < l.length
      · rw [if_pos h]; simp [blkS]
      · rw [if_neg h]
        have : l.length = 20 := by omega
        simp only [blkS, Nat.mul_zero, List.drop_zero, List.nil_append, Nat.mul_one]
        rw [List.drop_of_length_le (by omega), List.take_of_length_le (by omega), hn0, List.append_nil]
    · rw [if_pos (by omega)]
      simp only [blkS, Nat.mul_zero, List.drop_zero, List.nil_append, Nat.mul_one]
      have e1 : l.drop (20 * 2) = [] := List.drop_of_length_le (by omega)
      have e2 : (l.drop 20).take 20 = l.drop 20 := List.take_of_length_le (by rw [List.length_drop]; omega)
      rw [e1, e2, hn0, List.append_nil]
  have h := stableA_ev (W0 := W0) l.length cap tot hn (fun j => (blkY l j).map Told.cs) ((if 20 < l.length then st key (l.take 20) ++ st key (l.drop 20) else st key l).map Told.cs) ((st key l).map Told.cs) (fun j => hXr _) (hXr _) (hXr _) (fun j hj => ?_) (fun j h1 h2 => ?_) (fun h => ?_) (fun h => ?_)
  · simp only [h0] at h
    exact h
  · have h := insSort_ev (W0 := W0) (blkY l j) (20 * j) (20 * j + 20) cap tot (by rw [hlenY j (by omega)]; omega) (by rw [hlenY j (by omega)]; omega) (by omega)
    rw [hlenY j (by omega), hst20 j hj] at h
    exact h
  · have h := insSort_ev (W0 := W0) (blkY l j) (20 * j) l.length cap tot (by rw [hlenY j (by omega)]; omega) (by rw [hlenY j (by omega)]; omega) (by omega)
    rw [hlenY j (by omega), hstJ j h1, hfin j h1 h2] at h
    exact h
  · rw [if_pos h]
    have hs := sym_ev (W0 := W0) l.length cap tot (by omega) _ [] (st key (l.take 20)) (st key (l.drop 20)) [] 0 20 l.length (Nat.le_refl _) (by simp only [List.nil_append, List.append_nil, List.length_append, st_len, List.length_take, List.length_drop]; omega) rfl (by rw [st_len, List.length_take]; omega) (by rw [st_len, List.length_drop]; omega) (by rw [st_len, List.length_take]; omega) (by rw [st_len, List.length_drop]; omega) (st_srt key _) (st_srt key _) (by
      intro x hx
      simp only [List.nil_append, List.append_nil, List.mem_append] at hx
      rcases hx with hx | hx
      · exact lo x (List.mem_of_mem_take (st_mem hx))
      · exact lo x (List.mem_of_mem_drop (st_mem hx)))
    rw [← st_append, List.take_append_drop] at hs
    simpa using hs
  · rw [if_neg (by omega)]
end Go.Proofs.Ythoodnlihbaimaa
