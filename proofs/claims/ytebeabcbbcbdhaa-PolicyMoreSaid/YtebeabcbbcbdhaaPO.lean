/- policy: what its functions compute. -/
import Derived.Test.YtebeabcbbcbdhaaIRa
import Derived.Test.YtebeabcbbcbdhaaSLp
namespace Go.Proofs.Ytebeabcbbcbdhaa
set_option linter.unusedVariables false
set_option linter.unusedSimpArgs false
open Go Go.SL
set_option maxRecDepth 100000
structure Seen where
  state : Int
  cls : Int
  used : Int
  stamp : Int
  live : Int
  op : Bool
def Seen.cs (s : Seen) : List VV := [.int .i64 s.state, .int .i64 s.cls, .int .i64 s.used, .int .i64 s.stamp, .int .i64 s.live, .bool s.op]
structure Cfg where
  threads : Int
  slots : Int
  chunks : Int
  words : Int
  gens : Int
  sparse : Int
  tries : Int
theorem Seen.plain (l : List Seen) : Plain (l.map Seen.cs) := Plain.of (fun _ _ => by simp [Seen.cs, rnL, rn]) l
def Cfg.cs (c : Cfg) : List VV := [.int .i64 c.threads, .int .i64 c.slots, .int .i64 c.chunks, .int .i64 c.words, .int .i64 c.gens, .int .i64 c.sparse, .int .i64 c.tries]
def may (c : Cfg) (s : Seen) : Bool :=
  s.state == 1 && !s.op && decide (s.used > 0) && (decide (s.live ≤ 0) || decide (IntKind.i64.wrap (1000 * s.live) < IntKind.i64.wrap (c.sparse * s.used)))
theorem May_ev {W0 : World} (c : Cfg) (s : Seen) :
   Ev Try.prog W0 14 [.agg c.cs, .agg s.cs] [] (fun v V' => v = .bool (may c s) ∧ V' = []) := by
  refine Ev.out fun Q' hQ => ev14 rfl fun o => ?_
  generalize hR : may c s = R at hQ
  obtain ⟨c1, c2, c3, c4, c5, c6, c7⟩ := c
  obtain ⟨s1, s2, s3, s4, s5, s6⟩ := s
  (cbv; repeat' (refine mt (fun _ => ?_) (fun _ => ?_) <;> cbv))
  all_goals (refine hQ _ _ (ReV.none rfl ⟨?_, rfl⟩); subst hR; simp_all [may, o.cmp_eq, o.not_eq, o.ar_eq, icmp, arith] <;> omega)

def lmay (sparse : Int) (s : Seen) : Bool :=
  if s.state != 1 || s.op || decide (s.used < 1) then false
  else decide (s.live ≤ 0) || decide (IntKind.i64.wrap (s.live * 1000) < IntKind.i64.wrap (s.used * sparse))
theorem lmay_ev {W0 : World} (n : Int) (s : Seen) :
   Ev Try.prog W0 15 [.int .i64 n, .agg s.cs] [] (fun v V' => v = .bool (lmay n s) ∧ V' = []) := by
  refine Ev.out fun Q' hQ => ev15 rfl fun o => ?_
  generalize hR : lmay n s = R at hQ
  obtain ⟨s1, s2, s3, s4, s5, s6⟩ := s
  (cbv; repeat' (refine mt (fun _ => ?_) (fun _ => ?_) <;> cbv))
  all_goals (refine hQ _ _ (ReV.none rfl ⟨?_, rfl⟩); subst hR; simp_all [lmay, o.cmp_eq, o.ar_eq, icmp, arith] <;> first | omega | grind)

def few (s : Seen) : Seen := { s with used := arith .and .i64 s.used 511, live := s.live.tmod 600 }
theorem Seen_ev {W0 : World} (s : Seen) :
   Ev Try.prog W0 12 [.agg s.cs] [] (fun v V' => v = .agg (few s).cs ∧ V' = []) := by
  refine Ev.out fun Q' hQ => ev12 rfl fun o => ?_
  generalize hR : few s = R at hQ
  obtain ⟨s1, s2, s3, s4, s5, s6⟩ := s
  (cbv; repeat' (refine mt (fun _ => ?_) (fun _ => ?_) <;> cbv))
  refine ⟨by simp [o.need_eq, needs], hQ _ _ (ReV.none rfl ⟨?_, rfl⟩)⟩
  subst hR
  simp [few, Seen.cs, o.ar_eq, arith]

def at' (l : List Seen) (i : Int) : Seen := l.getD i.toNat ⟨0, 0, 0, 0, 0, false⟩
def better (l : List Seen) (a b : Int) : Int := if a ≥ 0 ∧ (at' l a).live ≤ (at' l b).live then a else b
theorem at'_get (l : List Seen) : ∀ i : Int, 0 ≤ i → i < l.length → (l.map Seen.cs)[i.toNat]? = some (at' l i).cs := by
  intro i h0 h1
  have : i.toNat < l.length := by omega
  simp [at', List.getElem?_eq_getElem this, List.getD_eq_getElem?_getD]
theorem at'_getN (l : List Seen) (i : Nat) (h : i < l.length) : (l.map Seen.cs)[i]? = some (at' l i).cs := at'_get l i (Int.natCast_nonneg i) (by omega)
theorem better_ev {W0 : World} (l : List Seen) (a b : Int) (cap tot : Nat) (ha : a < l.length) (hb : 0 ≤ b) (hb' : b < l.length) :
   Ev Try.prog W0 23 [.sl 0 6 0 l.length cap, .int .i64 a, .int .i64 b] [.arr 6 (l.map Seen.cs) tot] (fun v V' => v = .int .i64 (better l a b) ∧ V' = [.arr 6 (l.map Seen.cs) tot]) := by
  refine Ev.out fun Q' hQ => ev23 rfl fun o => ?_
  generalize hR : better l a b = R at hQ
  have hg := at'_get l
  have hpl := Seen.plain l
  generalize hxs : l.map Seen.cs = xs at *
  generalize hn : l.length = n at *
  have hr : R = better l a b := hR.symm
  unfold better at hr
  (cbv; repeat' (refine mt (fun _ => ?_) (fun _ => ?_) <;> cbv))
  · rename_i h
    have h0 : 0 ≤ a := by simpa [o.cmp_eq, icmp] using h
    refine ⟨by simp only [Ops.inb_eq]; exact decide_eq_true ⟨by first | exact h0 | (simp only [Int.ofNat_eq_natCast]; exact h0), by first | exact ha | (simp only [Int.ofNat_eq_natCast]; exact ha)⟩, ?_⟩
    simp only [Int.toNat_natCast, Int.ofNat_eq_natCast, Ops.get_eq, Ops.nadd_eq, Ops.nat_eq, Nat.zero_add, (hg a h0 ha)]
    generalize hsa : at' l a = sa at *
    obtain ⟨s1, s2, s3, s4, s5, s6⟩ := sa
    (cbv; repeat' (refine mt (fun _ => ?_) (fun _ => ?_) <;> cbv))
    refine ⟨by simp only [Ops.inb_eq]; exact decide_eq_true ⟨by first | exact hb | (simp only [Int.ofNat_eq_natCast]; exact hb), by first | exact hb' | (simp only [Int.ofNat_eq_natCast]; exact hb')⟩, ?_⟩
    simp only [Int.toNat_natCast, Int.ofNat_eq_natCast, Ops.get_eq, Ops.nadd_eq, Ops.nat_eq, Nat.zero_add, (hg b hb hb')]
    generalize hsb : at' l b = sb at *
    obtain ⟨t1, t2, t3, t4, t5, t6⟩ := sb
    (cbv; repeat' (refine mt (fun _ => ?_) (fun _ => ?_) <;> cbv))
    all_goals refine hQ _ _ (ReV.ren [0] (.int .i64 R) [.arr 6 xs tot] rfl rfl ?_ (by simp_all [fitB, mixOk, rnB, lget, rnL, rn, rho, llen, Plain, assoc, mix, envOf]) ⟨rfl, rfl⟩)
    all_goals (simp_all [rn, o.cmp_eq, icmp] <;> omega)
  · rename_i h
    refine hQ _ _ (ReV.ren [0] (.int .i64 R) [.arr 6 xs tot] rfl rfl ?_ (by simp_all [fitB, mixOk, rnB, lget, rnL, rn, rho, llen, Plain, assoc, mix, envOf]) ⟨rfl, rfl⟩)
    have h0 : a < 0 := by simpa [o.cmp_eq, icmp] using h
    have : R = b := by rw [hr, if_neg (by omega)]
    simp [rn, this]

def blocked (c : Cfg) (l : List Seen) (i : Nat) : Bool := (List.range i).any fun k => may c (at' l k) && decide ((at' l k).live ≤ (at' l i).live)
def step (c : Cfg) (l : List Seen) (best : Int) (i : Nat) : Int := if !may c (at' l i) || blocked c l i then best else better l best i
def chooseTo (c : Cfg) (l : List Seen) (n : Nat) : Int := (List.range n).foldl (step c l) (-1)
theorem chooseTo_lt (c : Cfg) (l : List Seen) (k : Nat) : chooseTo c l k < k := by
  induction k with
  | zero => simp [chooseTo]
  | succ k ih =>
    simp only [chooseTo, List.range_succ, List.foldl_append, List.foldl_cons, List.foldl_nil] at ih ⊢
    generalize (List.range k).foldl (step c l) (-1) = b at ih
    simp only [step, better]
    split
    · omega
    · split <;> omega
theorem Choose_ev {W0 : World} (c : Cfg) (l : List Seen) (cap tot : Nat) (hlen : l.length ≤ 1000000) :
   Ev Try.prog W0 16 [.agg c.cs, .sl 0 6 0 l.length cap] [.arr 6 (l.map Seen.cs) tot] (fun v V' => v = .int .i64 (chooseTo c l l.length) ∧ V' = [.arr 6 (l.map Seen.cs) tot]) := by
  refine Ev.out fun Q' hQ => ev16 rfl fun o => ?_
  have hg := at'_getN l
  have hpl := Seen.plain l
  generalize hR : chooseTo c l l.length = R at hQ
  generalize hxs : l.map Seen.cs = xs at *
  generalize hn : l.length = n at *
  (cbv; repeat' (refine mt (fun _ => ?_) (fun _ => ?_) <;> cbv))
  refine ⟨fun m env V => ∃ (i : Nat) (r : Nat → Value), i ≤ n ∧ m = n - i ∧
    env = mix [(1, .sl 0 6 0 n cap), (2, .ptr 1 0), (5, .int .i64 (chooseTo c l i)), (9, .sl 0 6 0 n cap), (10, .int .i64 n), (11, .int .i64 i)] r ∧
    V = [.arr 6 xs tot, .cells c.cs], ⟨n, o.reI (Re.ren [0, 1] _ _ rfl rfl ?_ ?_ fun r => ⟨0, r, Nat.zero_le _, rfl, rfl, rfl⟩)⟩, ?_⟩
  · simp_all [fitB, mixOk, rnB, lget, rnL, rn, rho, llen, Plain, assoc, mix, envOf, chooseTo]
  · simp_all [fitB, mixOk, rnB, lget, rnL, rn, rho, llen, Plain, assoc, mix, envOf, Cfg.cs]
  rintro m env V ⟨i, r, hi, rfl, rfl, rfl⟩
  generalize hb : chooseTo c l i = best
  (cbv; repeat' (refine mt (fun _ => ?_) (fun _ => ?_) <;> cbv))
  · rename_i h
    have h1 : (i : Int) < n := by simpa [o.cmp_eq, icmp] using h
    refine ⟨by simp only [Ops.inb_eq]; exact decide_eq_true ⟨by first | exact (Int.natCast_nonneg i) | (simp only [Int.ofNat_eq_natCast]; exact (Int.natCast_nonneg i)), by first | exact h1 | (simp only [Int.ofNat_eq_natCast]; exact h1)⟩, ?_⟩
    have h2 : i < n := by omega
    simp only [Int.toNat_natCast, Int.ofNat_eq_natCast, Ops.get_eq, Ops.nadd_eq, Ops.nat_eq, Nat.zero_add, (hg i h2)]
    generalize hs : at' l i = s
    (cbv; repeat' (refine mt (fun _ => ?_) (fun _ => ?_) <;> cbv))
    refine o.call0 (May_ev c s) rfl ?_
    rintro v V' ⟨rfl, rfl⟩
    generalize hm : may c s = ms
    (cbv; repeat' (refine mt (fun _ => ?_) (fun _ => ?_) <;> cbv))
    · rename_i h3
      have h4 : ms = false := by simpa [o.not_eq] using h3
      refine ⟨n - (i + 1), by omega, o.reI (Re.ren [0, 1] _ _ rfl rfl ?_ ?_ fun r => ⟨i + 1, r, by omega, rfl, rfl, rfl⟩)⟩
      · have : chooseTo c l (i + 1) = best := by simp [chooseTo, List.range_succ] at hb ⊢; rw [hb]; simp [step, hs, hm, h4]
        simp_all [fitB, mixOk, rnB, lget, rnL, rn, rho, llen, Plain, assoc, mix, envOf, o.ar_eq, add1 (i := i) (by omega)]
      · simp_all [fitB, mixOk, rnB, lget, rnL, rn, rho, llen, Plain, assoc, mix, envOf, Cfg.cs]
    · rename_i h3
      have h4 : ms = true := by simpa [o.not_eq] using h3
      refine ⟨fun m env V => ∃ (k : Nat) (r : Nat → Value), k ≤ i ∧ m = i - k ∧ (∀ j, j < k → (may c (at' l j) && decide ((at' l j).live ≤ (at' l i).live)) = false) ∧
        env = mix [(1, .sl 0 6 0 n cap), (2, .ptr 1 0), (5, .int .i64 best), (6, .int .i64 i), (7, .ptr 2 0), (9, .sl 0 6 0 n cap), (10, .int .i64 n), (11, .int .i64 i), (20, .int .i64 i), (21, .int .i64 k)] r ∧
        V = [.arr 6 xs tot, .cells c.cs, .cells s.cs], ⟨i, o.reI (Re.ren [0, 1, 2] _ _ rfl rfl ?_ ?_ fun r => ⟨0, r, Nat.zero_le _, rfl, ?_, rfl, rfl⟩)⟩, ?_⟩
      · simp_all [fitB, mixOk, rnB, lget, rnL, rn, rho, llen, Plain, assoc, mix, envOf]
      · simp_all [fitB, mixOk, rnB, lget, rnL, rn, rho, llen, Plain, assoc, mix, envOf, Cfg.cs, Seen.cs]
      · intro j hj; omega
      rintro m env V ⟨k, r, hk, rfl, hno, rfl, rfl⟩
      (cbv; repeat' (refine mt (fun _ => ?_) (fun _ => ?_) <;> cbv))
      · rename_i h5
        have h6 : k < i := by
          have : (k : Int) < i := by simpa [o.cmp_eq, icmp] using h5
          omega
        have h7 : k < n := by omega
        refine ⟨by simp only [Ops.inb_eq]; exact decide_eq_true ⟨by first | exact (Int.natCast_nonneg k) | (simp only [Int.ofNat_eq_natCast]; exact (Int.natCast_nonneg k)), by first | exact (show (k : Int) < n by omega) | (simp only [Int.ofNat_eq_natCast]; exact (show (k : Int) < n by omega))⟩, ?_⟩
        simp only [Int.toNat_natCast, Int.ofNat_eq_natCast, Ops.get_eq, Ops.nadd_eq, Ops.nat_eq, Nat.zero_add, (hg k h7)]
        generalize hu : at' l k = u
        (cbv; repeat' (refine mt (fun _ => ?_) (fun _ => ?_) <;> cbv))
        refine o.call0 (May_ev c u) rfl ?_
        rintro v V' ⟨rfl, rfl⟩
        generalize hmu : may c u = mu
        have inc : may c u = true → s.live < u.live → ∀ j, j < k + 1 → (may c (at' l j) && decide ((at' l j).live ≤ (at' l i).live)) = false := by
          intro _ hlt j hj
          rcases Nat.lt_succ_iff_lt_or_eq.1 hj with hj | rfl
          · exact hno j hj
          · rw [hu, hs, decide_eq_false (by omega)]; simp
        have inc0 : may c u = false → ∀ j, j < k + 1 → (may c (at' l j) && decide ((at' l j).live ≤ (at' l i).live)) = false := by
          intro hf j hj
          rcases Nat.lt_succ_iff_lt_or_eq.1 hj with hj | rfl
          · exact hno j hj
          · rw [hu, hf]; simp
        (cbv; repeat' (refine mt (fun _ => ?_) (fun _ => ?_) <;> cbv))
        · rename_i h8
          refine ⟨by simp only [Ops.inb_eq]; exact decide_eq_true ⟨by first | exact (Int.natCast_nonneg k) | (simp only [Int.ofNat_eq_natCast]; exact (Int.natCast_nonneg k)), by first | exact (show (k : Int) < n by omega) | (simp only [Int.ofNat_eq_natCast]; exact (show (k : Int) < n by omega))⟩, ?_⟩
          simp only [Int.toNat_natCast, Int.ofNat_eq_natCast, Ops.get_eq, Ops.nadd_eq, Ops.nat_eq, Nat.zero_add, (hg k h7)]
          rw [hu]
          (cbv; repeat' (refine mt (fun _ => ?_) (fun _ => ?_) <;> cbv))
          · rename_i h9
            have h10 : u.live ≤ s.live := by simpa [o.cmp_eq, icmp] using h9
            refine ⟨n - (i + 1), by omega, o.reI (Re.ren [0, 1] _ _ rfl rfl ?_ ?_ fun r => ⟨i + 1, r, by omega, rfl, rfl, rfl⟩)⟩
            · have : chooseTo c l (i + 1) = best := by
                simp only [chooseTo, List.range_succ, List.foldl_append, List.foldl_cons, List.foldl_nil] at hb ⊢
                rw [hb]
                have : blocked c l i = true := by
                  simp only [blocked, List.any_eq_true, List.mem_range]
                  refine ⟨k, by omega, ?_⟩
                  rw [hu, hs, hmu, h8]; simp [h10]
                simp [step, this]
              simp_all [fitB, mixOk, rnB, lget, rnL, rn, rho, llen, Plain, assoc, mix, envOf, o.ar_eq, add1 (i := i) (by omega)]
            · simp_all [fitB, mixOk, rnB, lget, rnL, rn, rho, llen, Plain, assoc, mix, envOf, Cfg.cs]
          · rename_i h9
            have h10 : s.live < u.live := by simpa [o.cmp_eq, icmp] using h9
            refine ⟨i - (k + 1), by omega, o.reI (Re.ren [0, 1, 2] _ _ rfl rfl ?_ ?_ fun r => ⟨k + 1, r, by omega, rfl, inc (by rw [hmu, h8]) h10, rfl, rfl⟩)⟩
            · clear inc inc0
              simp_all [fitB, mixOk, rnB, lget, rnL, rn, rho, llen, Plain, assoc, mix, envOf, o.ar_eq, add1 (i := k) (by omega)]
            · simp_all [fitB, mixOk, rnB, lget, rnL, rn, rho, llen, Plain, assoc, mix, envOf, Cfg.cs, Seen.cs]
        · rename_i h8
          refine ⟨i - (k + 1), by omega, o.reI (Re.ren [0, 1, 2] _ _ rfl rfl ?_ ?_ fun r => ⟨k + 1, r, by omega, rfl, inc0 (by rw [hmu, h8]), rfl, rfl⟩)⟩
          · clear inc inc0
            simp_all [fitB, mixOk, rnB, lget, rnL, rn, rho, llen, Plain, assoc, mix, envOf, o.ar_eq, add1 (i := k) (by omega)]
          · simp_all [fitB, mixOk, rnB, lget, rnL, rn, rho, llen, Plain, assoc, mix, envOf, Cfg.cs, Seen.cs]
      · rename_i h5
        have h6 : k = i := by
          have : (i : Int) ≤ k := by simpa [o.cmp_eq, icmp] using h5
          omega
        subst h6
        have hbd : best < k := by rw [← hb]; exact chooseTo_lt c l k
        refine o.call [0] (better_ev l best k cap tot (by omega) (Int.natCast_nonneg _) (by omega)) (by rw [hn]; rfl) rfl rfl (by rw [hxs]; clear hb hno hg hs hm; simp_all [fitB, mixOk, rnB, lget, rnL, rn, rho, llen, Plain, assoc, mix, envOf]) ?_
        rintro v V' ⟨rfl, rfl⟩
        rw [hxs]
        simp only [layB, lset, lapp, rnB, rn, hpl _, List.map_nil]
        generalize hbt : better l best k = b2
        (cbv; repeat' (refine mt (fun _ => ?_) (fun _ => ?_) <;> cbv))
        refine ⟨n - (k + 1), by omega, o.reI (Re.ren [0, 1] _ _ rfl rfl ?_ ?_ fun r => ⟨k + 1, r, by omega, rfl, rfl, rfl⟩)⟩
        · have : chooseTo c l (k + 1) = b2 := by
            simp only [chooseTo, List.range_succ, List.foldl_append, List.foldl_cons, List.foldl_nil] at hb ⊢
            rw [hb]
            have h9 : blocked c l k = false := by
              simp only [blocked, List.any_eq_false, List.mem_range]
              intro j hj
              rw [hno j hj]; decide
            simp [step, h9, hs, hm, h4, hbt]
          clear hno hb hg hR hQ
          simp_all [fitB, mixOk, rnB, lget, rnL, rn, rho, llen, Plain, assoc, mix, envOf, o.ar_eq, add1 (i := k) (by omega)]
        · clear hno hb hg hR hQ
          simp_all [fitB, mixOk, rnB, lget, rnL, rn, rho, llen, Plain, assoc, mix, envOf, Cfg.cs]
  · rename_i h5
    have h6 : i = n := by
      have : (n : Int) ≤ i := by simpa [o.cmp_eq, icmp] using h5
      omega
    subst h6
    rw [hR] at hb
    subst hb
    exact hQ _ _ (ReV.ren [0] (.int .i64 R) [.arr 6 xs tot] rfl rfl rfl (by clear hQ hg; simp_all [fitB, mixOk, rnB, lget, rnL, rn, rho, llen, Plain, assoc, mix, envOf]) ⟨rfl, rfl⟩)
end Go.Proofs.Ytebeabcbbcbdhaa
