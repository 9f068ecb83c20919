/- hist: what was told; the library's stable sort, its insertion sort. -/
import Derived.Test.YthoodnlihbaimaaSLz
import Derived.Test.YthoodnlihbaimaaSLt
import Derived.Test.YthoodnlihbaimaaSLq
import Derived.Test.YthoodnlihbaimaaIRh
namespace Go.Proofs.Ythoodnlihbaimaa
set_option linter.unusedVariables false
set_option linter.unusedSimpArgs false
open Go Go.SL
set_option maxRecDepth 100000
structure Told where
  thread : Int
  at_ : Int
  kind : Int
  size : Int
  rthread : Int
  rat : Int
  raw : Int
  index : Int
  value : Int
  old : Int
  key : Int
  handle : Int
  e : Int
  dhandle : Int
  dvalue : Int
  stamp : Int
  began : Int
  ended : Int
instance : Inhabited Told := ⟨⟨0, 0, 0, 0, 0, 0, 0, 0, 0, 0, 0, 0, 0, 0, 0, 0, 0, 0⟩⟩
def Told.cs (t : Told) : List VV := [.int .i64 t.thread, .int .i64 t.at_, .int .i64 t.kind, .int .i64 t.size, .int .i64 t.rthread, .int .i64 t.rat, .int .u64 t.raw, .int .i64 t.index, .int .i64 t.value, .int .i64 t.old, .int .i64 t.key,
  .int .u64 t.handle, .int .i64 t.e, .int .u64 t.dhandle, .int .i64 t.dvalue, .int .i64 t.stamp, .int .i64 t.began, .int .i64 t.ended]
theorem Told.plain (l : List Told) : Plain (l.map Told.cs) := Plain.of (fun _ _ => rfl) l
def tat (l : List Told) (i : Nat) : Told := l.getD i default
theorem tat_get (l : List Told) (i : Nat) (h : i < l.length) : (l.map Told.cs)[i]? = some (tat l i).cs := by
  simp [tat, List.getElem?_eq_getElem h, List.getD_eq_getElem?_getD]
/-- The comparison that the sort is handed. -/
theorem cmp_ev {W0 : World} (a b : Told) : Ev Try.prog W0 28 [.agg a.cs, .agg b.cs] [] (fun v V' => v = .int .i64 (arith .sub .i64 a.stamp b.stamp) ∧ V' = []) := by
  refine Ev.out fun Q' hQ => ev28 rfl fun o => ?_
  obtain ⟨a1, a2, a3, a4, a5, a6, a7, a8, a9, a10, a11, a12, a13, a14, a15, a16, a17, a18⟩ := a
  obtain ⟨b1, b2, b3, b4, b5, b6, b7, b8, b9, b10, b11, b12, b13, b14, b15, b16, b17, b18⟩ := b
  (cbv; repeat' (refine mt (fun _ => ?_) (fun _ => ?_) <;> cbv))
  refine hQ _ _ (ReV.none rfl ⟨?_, rfl⟩)
  simp only [o.ar_eq]
/-- Two neighbours change places. -/
def swp (l : List Told) (j : Nat) : List Told := (l.set (j + 1) (tat l j)).set j (tat l (j + 1))
def bub (a : Nat) : Nat → List Told → List Told
  | 0, l => l
  | j + 1, l => if a < j + 1 ∧ arith .sub .i64 (tat l (j + 1)).stamp (tat l j).stamp < 0 then bub a j (swp l j) else l
def isrt (a : Nat) : Nat → Nat → List Told → List Told
  | _, 0, l => l
  | i, k + 1, l => isrt a (i + 1) k (bub a i l)
theorem swp_len (l : List Told) (j : Nat) : (swp l j).length = l.length := by simp [swp]
theorem bub_len (a : Nat) : ∀ (j : Nat) (l : List Told), (bub a j l).length = l.length
  | 0, l => rfl
  | j + 1, l => by
    simp only [bub]
    split
    · rw [bub_len a j, swp_len]
    · rfl
theorem isrt_len (a : Nat) : ∀ (k i : Nat) (l : List Told), (isrt a i k l).length = l.length
  | 0, i, l => rfl
  | k + 1, i, l => by rw [isrt, isrt_len a k, bub_len]
theorem swp_map (l : List Told) (j : Nat) : (swp l j).map Told.cs = ((l.map Told.cs).set (j + 1) (tat l j).cs).set j (tat l (j + 1)).cs := by simp [swp]
theorem bub_step {a j : Nat} {l : List Told} (h1 : a < j + 1) (h2 : arith .sub .i64 (tat l (j + 1)).stamp (tat l j).stamp < 0) : bub a (j + 1) l = bub a j (swp l j) := by
  rw [bub, if_pos ⟨h1, h2⟩]
theorem bub_stop {a j : Nat} {l : List Told} (h : ¬ (a < j + 1 ∧ arith .sub .i64 (tat l (j + 1)).stamp (tat l j).stamp < 0)) : bub a (j + 1) l = l := by
  rw [bub, if_neg h]
theorem bub_end {a j : Nat} {l : List Told} (h : ¬ a < j) : bub a j l = l := by
  cases j with
  | zero => rfl
  | succ j => exact bub_stop fun hh => h hh.1
theorem sub1 {i : Nat} (h : i + 1 < 281474976710656) : arith .sub .i64 ((i + 1 : Nat) : Int) 1 = (i : Int) := by
  have : arith .sub .i64 ((i + 1 : Nat) : Int) 1 = ((i + 1 : Nat) : Int) - 1 := wrap64 (by omega) (by omega)
  rw [this]; omega
set_option maxHeartbeats 4000000 in
theorem insSort_ev {W0 : World} (l : List Told) (a b cap tot : Nat) (hb : b ≤ l.length) (hlen : l.length ≤ 1000000) (ha : a ≤ 1000000) :
    Ev Try.prog W0 55 [.sl 0 18 0 l.length cap, .int .i64 a, .int .i64 b, .fn 28 [] []] [.arr 18 (l.map Told.cs) tot] (fun v V' =>
      v = .tup [] ∧ V' = [.arr 18 ((isrt a (a + 1) (b - (a + 1)) l).map Told.cs) tot]) := by
  refine Ev.out fun Q' hQ => ev55 rfl fun o => ?_
  generalize hR : isrt a (a + 1) (b - (a + 1)) l = R at hQ
  have hpR := Told.plain R
  generalize hRs : R.map Told.cs = Rs at *
  have hpl := Told.plain l
  generalize hn : l.length = n at *
  generalize hxs : l.map Told.cs = xs at *
  (cbv; repeat' (refine mt (fun _ => ?_) (fun _ => ?_) <;> cbv))
  refine ⟨fun m env V => ∃ (i : Nat) (l' : List Told) (r : Nat → Value), a + 1 ≤ i ∧ (i ≤ b ∨ i = a + 1) ∧ l'.length = n ∧ isrt a i (b - i) l' = R ∧ m = b - i ∧
    env = mix [(0, .sl 0 18 0 n cap), (1, .int .i64 a), (2, .int .i64 b), (3, .fn 28 [] []), (8, .int .i64 i)] r ∧
    V = [.arr 18 (l'.map Told.cs) tot], ⟨b - (a + 1), o.reI (Re.ren [0] _ _ rfl rfl ?_ ?_ fun r => ⟨a + 1, l, r, Nat.le_refl _, .inr rfl, hn, hR, rfl, rfl, rfl⟩)⟩, ?_⟩
  · clear hR hRs hxs hQ; simp_all [Cap.rn, fitB, mixOk, rnB, lget, rnL, rn, rho, llen, Plain, assoc, mix, envOf, o.ar_eq, add1 (i := a) (by omega)]
  · rw [hxs]; clear hR hRs hxs hQ; simp_all [Cap.rn, fitB, mixOk, rnB, lget, rnL, rn, rho, llen, Plain, assoc, mix, envOf]
  rintro m env V ⟨i, l', r, hi, hib, hl', hRi, rfl, rfl, rfl⟩
  have hg := tat_get l'
  have hpl' := Told.plain l'
  generalize hxs' : l'.map Told.cs = xs' at *
  (cbv; repeat' (refine mt (fun _ => ?_) (fun _ => ?_) <;> cbv))
  · rename_i h1
    have h2 : i < b := by
      have : (i : Int) < b := by simpa [o.cmp_eq, icmp] using h1
      omega
    clear h1
    obtain ⟨k, hk⟩ : ∃ k, b - i = k + 1 := ⟨b - i - 1, by omega⟩
    rw [hk, isrt] at hRi
    have hk' : b - (i + 1) = k := by omega
    generalize hB : bub a i l' = B at hRi
    have hBl : B.length = n := by rw [← hB, bub_len, hl']
    have hpB := Told.plain B
    generalize hBs : B.map Told.cs = Bs at *
    refine ⟨fun m env V => ∃ (j : Nat) (l2 : List Told) (r : Nat → Value), a ≤ j ∧ j ≤ i ∧ l2.length = n ∧ bub a j l2 = B ∧ m = j ∧
      env = mix [(0, .sl 0 18 0 n cap), (1, .int .i64 a), (2, .int .i64 b), (3, .fn 28 [] []), (8, .int .i64 i), (9, .int .i64 j)] r ∧
      V = [.arr 18 (l2.map Told.cs) tot], ⟨i, o.reI (Re.ren [0] _ _ rfl rfl ?_ ?_ fun r => ⟨i, l', r, by omega, Nat.le_refl _, hl', hB, rfl, rfl, rfl⟩)⟩, ?_⟩
    · clear hR hRs hxs hQ hB hBs hRi hxs' hg; simp_all [Cap.rn, fitB, mixOk, rnB, lget, rnL, rn, rho, llen, Plain, assoc, mix, envOf]
    · rw [hxs']; clear hR hRs hxs hQ hB hBs hRi hxs' hg; simp_all [Cap.rn, fitB, mixOk, rnB, lget, rnL, rn, rho, llen, Plain, assoc, mix, envOf]
    clear hg hpl' hxs' xs' hB hl' l'
    rintro m env V ⟨j, l2, r2, haj, hji, hl2, hBj, hmj, rfl, rfl⟩
    obtain rfl : j = m := hmj.symm
    have hg := tat_get l2
    have hpl2 := Told.plain l2
    have hsm := swp_map l2
    generalize hx2 : l2.map Told.cs = x2 at *
    by_cases haj2 : a < j
    · obtain ⟨j', hj'⟩ : ∃ j', j = j' + 1 := ⟨j - 1, by omega⟩
      have hs1 : arith .sub .i64 (j : Int) 1 = (j' : Int) := by rw [hj']; exact sub1 (by omega)
      have hg1 := hg j (by omega)
      have hg2 := hg j' (by omega)
      have hst : bub a j l2 = if arith .sub .i64 (tat l2 j).stamp (tat l2 j').stamp < 0 then bub a j' (swp l2 j') else l2 := by
        rw [hj', bub]
        by_cases hc : arith .sub .i64 (tat l2 (j' + 1)).stamp (tat l2 j').stamp < 0
        · rw [if_pos ⟨by omega, hc⟩, if_pos hc]
        · rw [if_neg (fun h => hc h.2), if_neg hc]
      have hsmj := hsm j'
      rw [← hj'] at hsmj
      generalize tat l2 j = u at *
      generalize tat l2 j' = w at *
      (cbv; repeat' (refine mt (fun _ => ?_) (fun _ => ?_) <;> first | (exfalso; rename_i hc; simp [o.cmp_eq, icmp, o.not_eq, o.beq_eq] at hc; first | done | omega) | cbv))
      refine ⟨by simp only [Ops.inb_eq]; exact decide_eq_true ⟨by first | exact (Int.natCast_nonneg j) | (simp only [Int.ofNat_eq_natCast]; exact (Int.natCast_nonneg j)), by first | exact (show (j : Int) < n by omega) | (simp only [Int.ofNat_eq_natCast]; exact (show (j : Int) < n by omega))⟩, ?_⟩
      simp only [Int.toNat_natCast, Int.ofNat_eq_natCast, Ops.get_eq, Ops.nadd_eq, Ops.nat_eq, Nat.zero_add, hg1]
      (cbv; repeat' (refine mt (fun _ => ?_) (fun _ => ?_) <;> cbv))
      simp only [o.ar_eq, Int.ofNat_eq_natCast, hs1]
      refine ⟨by simp only [Ops.inb_eq]; exact decide_eq_true ⟨by first | exact (Int.natCast_nonneg j') | (simp only [Int.ofNat_eq_natCast]; exact (Int.natCast_nonneg j')), by first | exact (show (j' : Int) < n by omega) | (simp only [Int.ofNat_eq_natCast]; exact (show (j' : Int) < n by omega))⟩, ?_⟩
      simp only [Int.toNat_natCast, Int.ofNat_eq_natCast, Ops.get_eq, Ops.nadd_eq, Ops.nat_eq, Nat.zero_add, hg2]
      (cbv; repeat' (refine mt (fun _ => ?_) (fun _ => ?_) <;> cbv))
      refine o.call0 (cmp_ev u w) rfl ?_
      rintro v V' ⟨rfl, rfl⟩
      generalize arith .sub .i64 u.stamp w.stamp = D at *
      (cbv; repeat' (refine mt (fun _ => ?_) (fun _ => ?_) <;> cbv))
      · rename_i hD
        have hD2 : D < 0 := by simpa [o.cmp_eq, icmp] using hD
        rw [if_pos hD2] at hst
        have hjj : j ≠ j' := by omega
        simp only [o.ar_eq, Int.ofNat_eq_natCast, hs1]
        refine ⟨by simp only [Ops.inb_eq]; exact decide_eq_true ⟨by first | exact (Int.natCast_nonneg j') | (simp only [Int.ofNat_eq_natCast]; exact (Int.natCast_nonneg j')), by first | exact (show (j' : Int) < n by omega) | (simp only [Int.ofNat_eq_natCast]; exact (show (j' : Int) < n by omega))⟩, ?_⟩
        simp only [Int.toNat_natCast, Int.ofNat_eq_natCast, Ops.get_eq, Ops.nadd_eq, Ops.nat_eq, Nat.zero_add, hg2]
        (cbv; repeat' (refine mt (fun _ => ?_) (fun _ => ?_) <;> cbv))
        refine ⟨by simp only [Ops.inb_eq]; exact decide_eq_true ⟨by first | exact (Int.natCast_nonneg j) | (simp only [Int.ofNat_eq_natCast]; exact (Int.natCast_nonneg j)), by first | exact (show (j : Int) < n by omega) | (simp only [Int.ofNat_eq_natCast]; exact (show (j : Int) < n by omega))⟩, ?_⟩
        simp only [Int.toNat_natCast, Int.ofNat_eq_natCast, Ops.get_eq, Ops.nadd_eq, Ops.nat_eq, Nat.zero_add, hg1]
        (cbv; repeat' (refine mt (fun _ => ?_) (fun _ => ?_) <;> cbv))
        refine ⟨by simp only [Ops.inb_eq]; exact decide_eq_true ⟨by first | exact (Int.natCast_nonneg j) | (simp only [Int.ofNat_eq_natCast]; exact (Int.natCast_nonneg j)), by first | exact (show (j : Int) < n by omega) | (simp only [Int.ofNat_eq_natCast]; exact (show (j : Int) < n by omega))⟩, ?_⟩
        simp only [Int.toNat_natCast, Int.ofNat_eq_natCast, Ops.get_eq, Ops.nadd_eq, Ops.nat_eq, Nat.zero_add, hg1]
        (cbv; repeat' (refine mt (fun _ => ?_) (fun _ => ?_) <;> cbv))
        simp only [o.ar_eq, Int.ofNat_eq_natCast, hs1]
        refine ⟨by simp only [Ops.inb_eq]; exact decide_eq_true ⟨by first | exact (Int.natCast_nonneg j') | (simp only [Int.ofNat_eq_natCast]; exact (Int.natCast_nonneg j')), by first | exact (show (j' : Int) < n by omega) | (simp only [Int.ofNat_eq_natCast]; exact (show (j' : Int) < n by omega))⟩, ?_⟩
        have hgs : ∀ row, o.get (o.set x2 j row) j' = some w.cs := fun row => by simp only [o.get_eq, o.set_eq, List.getElem?_set_ne hjj, hg2]
        simp only [Int.toNat_natCast, Int.ofNat_eq_natCast, Ops.nadd_eq, Ops.nat_eq, Nat.zero_add, hgs]
        (cbv; repeat' (refine mt (fun _ => ?_) (fun _ => ?_) <;> cbv))
        have hB2 : bub a j' (swp l2 j') = B := by rw [← hst, hBj]
        have hl3 : (swp l2 j').length = n := by rw [swp_len, hl2]
        have hp3 := Told.plain (swp l2 j')
        rw [hsmj] at hp3
        clear hQ hst hsm hg hg1 hg2 hBj hRi hR hRs hBs hx2 hgs
        refine ⟨j', by omega, o.reI (Re.ren [0] _ _ rfl rfl ?_ ?_ fun r => ⟨j', swp l2 j', r, by omega, by omega, hl3, hB2, rfl, rfl, rfl⟩)⟩
        · clear hB2 hl3 hp3 hsmj; simp_all [Cap.rn, fitB, mixOk, rnB, lget, rnL, rn, rho, llen, Plain, assoc, mix, envOf, o.ar_eq]
        · rw [hsmj]
          refine ⟨.inr ?_, trivial⟩
          simp only [o.set_eq]
          show some (VB.arr 18 ((x2.set j w.cs).set j' u.cs) tot) = _
          simp only [rnB, hp3 _, Cap.rn]
      · rename_i hD
        have hD2 : ¬ D < 0 := by simpa [o.cmp_eq, icmp] using hD
        rw [if_neg hD2] at hst
        obtain rfl : l2 = B := by rw [← hst, hBj]
        clear hQ hst hsm hsmj hg hg1 hg2 hBj
        refine ⟨b - (i + 1), by omega, o.reI (Re.ren [0] _ _ rfl rfl ?_ ?_ fun r => ⟨i + 1, l2, r, by omega, .inl (by omega), hl2, by rw [hk']; exact hRi, rfl, rfl, rfl⟩)⟩
        · clear hRi hR hRs hBs hx2; simp_all [Cap.rn, fitB, mixOk, rnB, lget, rnL, rn, rho, llen, Plain, assoc, mix, envOf, o.ar_eq, add1 (i := i) (by omega)]
        · rw [hx2]; clear hRi hR hRs hBs hx2; simp_all [Cap.rn, fitB, mixOk, rnB, lget, rnL, rn, rho, llen, Plain, assoc, mix, envOf]
    · have hend : bub a j l2 = l2 := bub_end haj2
      obtain rfl : l2 = B := by rw [← hend, hBj]
      (cbv; repeat' (refine mt (fun _ => ?_) (fun _ => ?_) <;> first | (exfalso; rename_i hc; simp [o.cmp_eq, icmp, o.not_eq, o.beq_eq] at hc; first | done | omega) | cbv))
      clear hQ hsm hg hBj hend
      refine ⟨b - (i + 1), by omega, o.reI (Re.ren [0] _ _ rfl rfl ?_ ?_ fun r => ⟨i + 1, l2, r, by omega, .inl (by omega), hl2, by rw [hk']; exact hRi, rfl, rfl, rfl⟩)⟩
      · clear hRi hR hRs hBs hx2; simp_all [Cap.rn, fitB, mixOk, rnB, lget, rnL, rn, rho, llen, Plain, assoc, mix, envOf, o.ar_eq, add1 (i := i) (by omega)]
      · rw [hx2]; clear hRi hR hRs hBs hx2; simp_all [Cap.rn, fitB, mixOk, rnB, lget, rnL, rn, rho, llen, Plain, assoc, mix, envOf]
  · rename_i h1
    have h2 : b ≤ i := by
      have : (b : Int) ≤ i := by simpa [o.cmp_eq, icmp] using h1
      omega
    rw [show b - i = 0 by omega, isrt] at hRi
    subst hRi
    rw [hxs'] at hRs
    subst hRs
    exact hQ _ _ (ReV.ren [0] (.tup []) [.arr 18 xs' tot] rfl rfl rfl (by clear hQ hg hR; simp_all [Cap.rn, fitB, mixOk, rnB, lget, rnL, rn, rho, llen, Plain, assoc, mix, envOf]) ⟨rfl, rfl⟩)
end Go.Proofs.Ythoodnlihbaimaa
