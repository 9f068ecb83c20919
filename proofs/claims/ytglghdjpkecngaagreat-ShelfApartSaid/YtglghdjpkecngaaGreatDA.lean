/- list: what stands in a node; a list is sorted, and has just these keys. -/
import Derived.Test.YtglghdjpkecngaaGreatBC
import Derived.Test.YtglghdjpkecngaaGreatXd
import Derived.Test.YtglghdjpkecngaaGreatIRF
namespace Go.Proofs.YtglghdjpkecngaaGreat
set_option linter.unusedVariables false
set_option linter.unusedSimpArgs false
open Go Go.SL Go.FL
set_option maxRecDepth 100000
theorem PeekB_ev {W0 : World} (m : MemS) (a : Int) : Ev Tryz.prog W0 34 [.ptr 0 0, .int .i64 a] [bx W0 (memU m)] (fun v V' => v = .int .u64 (m.peek a) ∧ V' = [bx W0 (memU m)]) := Ev.boxM (Peek_ev m a) rfl
theorem node_ev {W0 : World} (m : MemS) (e : EnvS) (h : Nat) (a : Int) : Ev Tryz.prog W0 67 [e.v 0, .int .u64 h, .int .i64 a] [bx W0 (memU m)] (fun v V' => v = .agg [.int .u64 (linkNext (nodeV m e.c h a)), .bool (linkGone (nodeV m e.c h a))] ∧ V' = [bx W0 (memU m)]) := by
  refine Ev.out fun Q' hQ => ev67 rfl fun o => ?_
  generalize hR : nodeV m e.c h a = R at hQ
  unfold nodeV at hR
  have hH := Handle_ev (W0 := W0) h
  generalize hq : handleOf h = q at *
  obtain ⟨⟨qs, qg⟩, qb⟩ := q
  generalize hM : bx W0 (memU m) = M at *
  (cbv; repeat' (first | (refine ⟨by simp only [Ops.need_eq, needs]; first | rfl | decide, ?_⟩; try cbv) | (refine mt (fun h => ?_) (fun h => ?_) <;> first | (exfalso; simp [Ops.cmp_eq, Ops.not_eq, icmp] at h; done) | (exfalso; simp [Ops.cmp_eq, icmp] at h; omega) | (try cbv))))
  refine Ops.call0 _ (hH) rfl ?_; rintro v V' ⟨rfl, rfl⟩; simp only [lapp, List.map_nil, rn, rnL]
  (cbv; repeat' (first | (refine ⟨by simp only [Ops.need_eq, needs]; first | rfl | decide, ?_⟩; try cbv) | (refine mt (fun h => ?_) (fun h => ?_) <;> first | (exfalso; simp [Ops.cmp_eq, Ops.not_eq, icmp] at h; done) | (exfalso; simp [Ops.cmp_eq, icmp] at h; omega) | (try cbv))))
  refine Ops.call0 _ (lSlot_ev e.c qs) rfl ?_; rintro v V' ⟨rfl, rfl⟩; simp only [lapp, List.map_nil, rn, rnL]
  generalize hs : slotA e.c qs = sl at *
  (refine ⟨by first | (cbv; done) | exact trivial | (cbv; trivial), ?_⟩); (cbv; repeat' (first | (refine ⟨by simp only [Ops.need_eq, needs]; first | rfl | decide, ?_⟩; try cbv) | (refine mt (fun h => ?_) (fun h => ?_) <;> first | (exfalso; simp [Ops.cmp_eq, Ops.not_eq, icmp] at h; done) | (exfalso; simp [Ops.cmp_eq, icmp] at h; omega) | (try cbv))))
  refine Ops.call _ [0] (PeekB_ev m sl) rfl rfl rfl ⟨.inr (by rw [← hM]; rfl), trivial⟩ ?_; rintro v V' ⟨rfl, rfl⟩; simp only [layB, lset, lapp, List.map_nil, List.map_cons, rnB_bx, rn, rnL]; rw [hM]
  have hS := Slot_ev (W0 := W0) (m.peek sl)
  generalize hp : m.peek sl = w1 at *
  (refine ⟨by first | (cbv; done) | exact trivial | (cbv; trivial), ?_⟩); (cbv; repeat' (first | (refine ⟨by simp only [Ops.need_eq, needs]; first | rfl | decide, ?_⟩; try cbv) | (refine mt (fun h => ?_) (fun h => ?_) <;> first | (exfalso; simp [Ops.cmp_eq, Ops.not_eq, icmp] at h; done) | (exfalso; simp [Ops.cmp_eq, icmp] at h; omega) | (try cbv))))
  refine Ops.call0 _ (hS) rfl ?_; rintro v V' ⟨rfl, rfl⟩; simp only [lapp, List.map_nil, rn, rnL]
  generalize hss : slotOf w1 = s1 at *
  obtain ⟨s1a, s1b, s1c, s1d⟩ := s1
  (refine ⟨by first | (cbv; done) | exact trivial | (cbv; trivial), ?_⟩); (cbv; repeat' (first | (refine ⟨by simp only [Ops.need_eq, needs]; first | rfl | decide, ?_⟩; try cbv) | (refine mt (fun h => ?_) (fun h => ?_) <;> first | (exfalso; simp [Ops.cmp_eq, Ops.not_eq, icmp] at h; done) | (exfalso; simp [Ops.cmp_eq, icmp] at h; omega) | (try cbv))))
  simp only [o.ar_eq, arith]
  generalize hz : IntKind.i64.wrap (s1b + a) = z at *
  refine Ops.call _ [0] (PeekB_ev m z) rfl rfl rfl ⟨.inr (by rw [← hM]; rfl), trivial⟩ ?_; rintro v V' ⟨rfl, rfl⟩; simp only [layB, lset, lapp, List.map_nil, List.map_cons, rnB_bx, rn, rnL]; rw [hM]
  have hC := Cell_ev (W0 := W0) (m.peek z)
  generalize hp2 : m.peek z = w2 at *
  (cbv; repeat' (first | (refine ⟨by simp only [Ops.need_eq, needs]; first | rfl | decide, ?_⟩; try cbv) | (refine mt (fun h => ?_) (fun h => ?_) <;> first | (exfalso; simp [Ops.cmp_eq, Ops.not_eq, icmp] at h; done) | (exfalso; simp [Ops.cmp_eq, icmp] at h; omega) | (try cbv))))
  refine Ops.call0 _ (hC) rfl ?_; rintro v V' ⟨rfl, rfl⟩; simp only [lapp, List.map_nil, rn, rnL]
  generalize hcc : cellOf w2 = s2 at *
  obtain ⟨s2a, s2b, s2c⟩ := s2
  have hRR : s2a = R := by
    rw [← hR, hq]
    show s2a = (cellOf (m.peek (IntKind.i64.wrap ((slotOf (m.peek (slotA e.c qs))).addr + a)))).value
    rw [hs, hp, hss]
    show _ = (cellOf (m.peek (IntKind.i64.wrap (s1b + a)))).value
    rw [hz, hp2, hcc]
  subst hRR
  have hL := Link_ev (W0 := W0) s2a
  generalize linkNext s2a = ln at *
  generalize linkGone s2a = lg at *
  (cbv; repeat' (first | (refine ⟨by simp only [Ops.need_eq, needs]; first | rfl | decide, ?_⟩; try cbv) | (refine mt (fun h => ?_) (fun h => ?_) <;> first | (exfalso; simp [Ops.cmp_eq, Ops.not_eq, icmp] at h; done) | (exfalso; simp [Ops.cmp_eq, icmp] at h; omega) | (try cbv))))
  refine Ops.call0 _ (hL) rfl ?_; rintro v V' ⟨rfl, rfl⟩; simp only [lapp, List.map_nil, rn, rnL]
  (cbv; repeat' (first | (refine ⟨by simp only [Ops.need_eq, needs]; first | rfl | decide, ?_⟩; try cbv) | (refine mt (fun h => ?_) (fun h => ?_) <;> first | (exfalso; simp [Ops.cmp_eq, Ops.not_eq, icmp] at h; done) | (exfalso; simp [Ops.cmp_eq, icmp] at h; omega) | (try cbv))))
  exact hQ _ _ (ReV.ren [0] (.agg [.int .u64 ln, .bool lg]) [M] rfl rfl rfl ⟨.inr (by rw [← hM]; rfl), trivial⟩ ⟨rfl, rfl⟩)
def bcell (b : Bool) : List VV := [.bool b]
theorem bcell_plain (l : List Bool) : Plain (l.map bcell) := Plain.of (fun _ _ => rfl) l
theorem bget (l : List Bool) (i : Nat) (h : i < l.length) : (l.map bcell)[i]? = some [.bool (l[i]?.getD false)] := by
  simp [bcell, List.getElem?_eq_getElem h]
set_option maxHeartbeats 4000000 in
theorem sorted_ev {W0 : World} (m : MemS) (e : EnvS) (hd : Nat) (inn : List Bool) (ks : List (Nat × Int)) (tot : Nat) (hK : inn.length ≤ 64) (hlen : ks.length < 60) (h0 : nodeV m e.c hd 2 = (firstOr ks 0 : Nat)) (h00 : firstOr ks 0 < 4294967296)
    (hn : ∀ pre x post, ks = pre ++ x :: post → nodeV m e.c x.1 2 = (firstOr post 0 : Nat) ∧ nodeV m e.c x.1 1 = x.2 ∧ 65536 ≤ x.1 ∧ x.1 < 4294967296 ∧ firstOr post 0 < 4294967296) (so : (ks.map (·.2)).Pairwise (· < ·)) (K : Knows ks inn) :
    Ev Tryz.prog W0 28 [e.v 0, .int .u64 hd, .sl 1 1 0 inn.length inn.length] [bx W0 (memU m), .arr 1 (inn.map bcell) tot] (fun v V' => v = .bool true ∧ V' = [bx W0 (memU m), .arr 1 (inn.map bcell) tot]) := by
  refine Ev.out fun Q' hQ => ev28 rfl fun o => ?_
  have hg := bget inn
  have hpl := bcell_plain inn
  have hN := node_ev (W0 := W0) m e hd 2
  rw [h0, linkNext_nat h00, linkGone_nat h00] at hN
  have gap : ∀ pre post : List (Nat × Int), ks = pre ++ post → ∀ k t : Nat, (∀ x ∈ pre, x.2 < k) → (∀ x ∈ post, (k : Int) ≤ x.2) → k ≤ t → (∀ x post', post = x :: post' → (t : Int) < x.2) → t < inn.length → inn[t]?.getD false = false := by
    intro pre post hpp k t h1 h2 h3 h4 h5
    cases hb : inn[t]?.getD false with
    | false => rfl
    | true =>
      exfalso
      have hm := (K (t : Int)).2 ⟨by omega, by omega, by rw [Int.toNat_natCast]; exact hb⟩
      rw [keysOf, hpp, List.map_append, List.mem_append] at hm
      rcases hm with hm | hm
      · obtain ⟨x, hx, (ex : x.2 = (t : Int))⟩ := List.mem_map.1 hm
        have := h1 x hx; omega
      · cases post with
        | nil => simp at hm
        | cons x post' =>
          have h6 := h4 x post' rfl
          rw [hpp, List.map_append, List.pairwise_append] at so
          have h7 := so.2.1
          simp only [List.map_cons, List.pairwise_cons] at h7
          rcases List.mem_cons.1 hm with (ex : (t : Int) = x.2) | hm
          · omega
          · have := h7.1 _ hm; omega
  have kin : ∀ pre x post, ks = pre ++ x :: post → 0 ≤ x.2 ∧ x.2 < (inn.length : Int) ∧ inn[x.2.toNat]?.getD false = true := fun pre x post h => (K x.2).1 (by rw [keysOf, h]; simp)
  have kup : ∀ pre x post, ks = pre ++ x :: post → ∀ y ∈ post, x.2 < y.2 := fun pre x post h y hy => by
    rw [h, List.map_append, List.pairwise_append] at so
    have h7 := so.2.1
    simp only [List.map_cons, List.pairwise_cons] at h7
    exact h7.1 _ (List.mem_map_of_mem hy)
  have hND := fun h : Nat => node_ev (W0 := W0) m e h 2
  generalize hnK : inn.length = nK at *
  generalize hxs : inn.map bcell = xs at *
  generalize hf0 : firstOr ks 0 = a0 at *
  generalize hM : bx W0 (memU m) = M at *
  have hMr : ∀ ρ, rnB ρ M = M := fun ρ => by rw [← hM]; rfl
  have hXr : ∀ ρ, rnB ρ (.arr 1 xs tot) = .arr 1 xs tot := fun ρ => by simp only [rnB, hpl _, Cap.rn]
  (cbv; repeat' (first | (refine ⟨by simp only [Ops.need_eq, needs]; first | rfl | decide, ?_⟩; try cbv) | (refine mt (fun h => ?_) (fun h => ?_) <;> first | (exfalso; simp [Ops.cmp_eq, Ops.not_eq, icmp] at h; done) | (exfalso; simp [Ops.cmp_eq, icmp] at h; omega) | (try cbv))))
  refine Ops.call _ [0] hN rfl rfl rfl ⟨.inr (by rw [hMr]; rfl), trivial⟩ ?_
  rintro v V' ⟨rfl, rfl⟩
  simp only [layB, lset, lapp, List.map_nil, List.map_cons, hMr, rn, rnL]
  (cbv; repeat' (first | (refine ⟨by simp only [Ops.need_eq, needs]; first | rfl | decide, ?_⟩; try cbv) | (refine mt (fun h => ?_) (fun h => ?_) <;> first | (exfalso; simp [Ops.cmp_eq, Ops.not_eq, icmp] at h; done) | (exfalso; simp [Ops.cmp_eq, icmp] at h; omega) | (try cbv))))
  refine ⟨fun mm env V => ∃ (pre post : List (Nat × Int)) (k : Nat) (r : Nat → Value), ks = pre ++ post ∧ (∀ x ∈ pre, x.2 < k) ∧ (∀ x ∈ post, (k : Int) ≤ x.2) ∧ k ≤ nK ∧ firstOr post 0 < 4294967296 ∧ mm = post.length ∧
    env = mix [(2, .sl 1 1 0 nK nK), (3, .ptr 2 0), (7, .int .u64 (firstOr post 0 : Nat)), (8, .int .i64 k), (9, .int .i64 pre.length)] r ∧ V = [M, .arr 1 xs tot, envC e 0],
    ⟨ks.length, o.reI (Re.ren [0, 1, 2] _ _ rfl rfl ?_ ?_ fun r => ⟨[], ks, 0, r, rfl, by simp, fun x hx => ?_, Nat.zero_le _, by rw [hf0]; exact h00, rfl, rfl, rfl⟩)⟩, ?_⟩
  · rw [hf0]; exact ⟨rfl, rfl, rfl, rfl, rfl, trivial⟩
  · exact ⟨.inr (by rw [hMr]; rfl), .inr (by rw [hXr]; rfl), .inr rfl, trivial⟩
  · have := (K x.2).1 (List.mem_map_of_mem hx); omega
  rintro mm env V ⟨pre, post, k, r, hpp, hlo, hhi, hkn, hfp, rfl, rfl, rfl⟩
  have hpl2 : pre.length + post.length < 60 := by rw [hpp, List.length_append] at hlen; exact hlen
  cases post with
  | nil =>
    have hgap := gap pre [] hpp
    clear hND hN gap kin kup hn h0
    generalize pre.length = n at *
    (cbv; repeat' (first | (refine ⟨by simp only [Ops.need_eq, needs]; first | rfl | decide, ?_⟩; try cbv) | (refine mt (fun h => ?_) (fun h => ?_) <;> first | (exfalso; simp [Ops.cmp_eq, Ops.not_eq, icmp] at h; done) | (exfalso; simp [Ops.cmp_eq, icmp] at h; omega) | (try cbv))))
    all_goals
      refine ⟨fun mm env V => ∃ (t : Nat) (r : Nat → Value), k ≤ t ∧ t ≤ nK ∧ mm = nK - t ∧ env = mix [(2, .sl 1 1 0 nK nK), (7, .int .u64 (0 : Nat)), (8, .int .i64 t)] r ∧ V = [M, .arr 1 xs tot],
        ⟨nK - k, o.reI (Re.ren [0, 1] _ _ rfl rfl ?_ ?_ fun r => ⟨k, r, Nat.le_refl _, hkn, rfl, rfl, rfl⟩)⟩, ?_⟩
      · exact ⟨rfl, rfl, rfl, trivial⟩
      · exact ⟨.inr (by rw [hMr]; rfl), .inr (by rw [hXr]; rfl), trivial⟩
      rintro mm env V ⟨t, r, hkt, htn, rfl, rfl, rfl⟩
      by_cases htl : t < nK
      · have hf := hgap k t hlo hhi hkt (fun x post' h => (List.cons_ne_nil _ _ h.symm).elim) htl
        have hgt := hg t htl
        rw [hf] at hgt
        (cbv; repeat' (first | (refine ⟨by simp only [Ops.need_eq, needs]; first | rfl | decide, ?_⟩; try cbv) | (refine mt (fun h => ?_) (fun h => ?_) <;> first | (exfalso; simp [Ops.cmp_eq, Ops.not_eq, icmp] at h; done) | (exfalso; simp [Ops.cmp_eq, icmp] at h; omega) | (try cbv))))
        refine ⟨by simp only [Ops.inb_eq]; exact decide_eq_true ⟨by first | exact (Int.natCast_nonneg t) | (simp only [Int.ofNat_eq_natCast]; exact (Int.natCast_nonneg t)), by first | exact (show (t : Int) < nK by omega) | (simp only [Int.ofNat_eq_natCast]; exact (show (t : Int) < nK by omega))⟩, ?_⟩
        simp only [Int.toNat_natCast, Int.ofNat_eq_natCast, Ops.get_eq, Ops.nadd_eq, Ops.nat_eq, Nat.zero_add, (hgt)]
        (cbv; repeat' (first | (refine ⟨by simp only [Ops.need_eq, needs]; first | rfl | decide, ?_⟩; try cbv) | (refine mt (fun h => ?_) (fun h => ?_) <;> first | (exfalso; simp [Ops.cmp_eq, Ops.not_eq, icmp] at h; done) | (exfalso; simp [Ops.cmp_eq, icmp] at h; omega) | (try cbv))))
        refine ⟨nK - (t + 1), by omega, o.reI (Re.ren [0, 1] _ _ rfl rfl ?_ ?_ fun r => ⟨t + 1, r, by omega, by omega, rfl, rfl, rfl⟩)⟩
        · refine ⟨rfl, rfl, ?_, trivial⟩
          exact congrArg (VV.int .i64) (by simp only [Ops.ar_eq]; exact add1 (i := t) (by omega))
        · exact ⟨.inr (by rw [hMr]; rfl), .inr (by rw [hXr]; rfl), trivial⟩
      · (cbv; repeat' (first | (refine ⟨by simp only [Ops.need_eq, needs]; first | rfl | decide, ?_⟩; try cbv) | (refine mt (fun h => ?_) (fun h => ?_) <;> first | (exfalso; simp [Ops.cmp_eq, Ops.not_eq, icmp] at h; done) | (exfalso; simp [Ops.cmp_eq, icmp] at h; omega) | (try cbv))))
        simp only [Ops.cmp_eq, icmp]
        exact hQ _ _ (ReV.ren [0, 1] (.bool true) [M, .arr 1 xs tot] rfl rfl rfl ⟨.inr (by rw [hMr]; rfl), .inr (by rw [hXr]; rfl), trivial⟩ ⟨rfl, rfl⟩)
  | cons x post =>
    obtain ⟨xh, xk⟩ := x
    obtain ⟨hn1, hn2, hx0, hx1, hfn⟩ := hn pre (xh, xk) post hpp
    obtain ⟨kk0, kk1, kk2⟩ := kin pre (xh, xk) post hpp
    have hup := kup pre (xh, xk) post hpp
    have hND1 := hND xh
    have hxk := hhi (xh, xk) (by simp)
    have hgap := gap pre ((xh, xk) :: post) hpp
    simp only at hn1 hn2 hx0 hx1 kk0 kk1 kk2 hup hxk
    rw [hn1, linkNext_nat hfn, linkGone_nat hfn] at hND1
    obtain ⟨kp, rfl⟩ : ∃ kp : Nat, xk = kp := ⟨xk.toNat, by omega⟩
    rw [Int.toNat_natCast] at kk2
    have hkg : ∀ t, k ≤ t → t < kp → inn[t]?.getD false = false := fun t h1 h2 => hgap k t hlo hhi h1 (fun x post' h => by cases h; exact Int.ofNat_lt.2 h2) (Nat.lt_trans h2 (Int.ofNat_lt.1 kk1))
    have hnext : ks = (pre ++ [(xh, (kp : Int))]) ++ post := by rw [hpp]; simp
    have hlo' : ∀ x ∈ pre ++ [(xh, (kp : Int))], x.2 < ((kp + 1 : Nat) : Int) := fun x hx => by
      rcases List.mem_append.1 hx with h | h
      · have := hlo x h; omega
      · rw [List.mem_singleton.1 h]; simp only; omega
    have hhi' : ∀ x ∈ post, ((kp + 1 : Nat) : Int) ≤ x.2 := fun x hx => by have := hup x hx; omega
    have hlen' : (pre ++ [(xh, (kp : Int))]).length = pre.length + 1 := by simp
    simp only [List.length_cons] at hpl2
    clear hND hN gap kin kup hn h0 hgap hup
    generalize hpl3 : pre.length = n at *
    generalize hfo : firstOr post 0 = nx at *
    have hH := Handle_ev (W0 := W0) xh
    unfold nodeV at hn2
    generalize hq : handleOf xh = q at *
    obtain ⟨⟨qs, qg⟩, qb⟩ := q
    (cbv; repeat' (first | (refine ⟨by simp only [Ops.need_eq, needs]; first | rfl | decide, ?_⟩; try cbv) | (refine mt (fun h => ?_) (fun h => ?_) <;> first | (exfalso; simp [Ops.cmp_eq, Ops.not_eq, icmp] at h; done) | (exfalso; simp [Ops.cmp_eq, icmp] at h; omega) | (try cbv))))
    refine Ops.call _ [0] hND1 rfl rfl rfl ⟨.inr (by rw [hMr]; rfl), trivial⟩ ?_
    rintro v V' ⟨rfl, rfl⟩
    simp only [layB, lset, lapp, List.map_nil, List.map_cons, hMr, rn, rnL]
    (cbv; repeat' (first | (refine ⟨by simp only [Ops.need_eq, needs]; first | rfl | decide, ?_⟩; try cbv) | (refine mt (fun h => ?_) (fun h => ?_) <;> first | (exfalso; simp [Ops.cmp_eq, Ops.not_eq, icmp] at h; done) | (exfalso; simp [Ops.cmp_eq, icmp] at h; omega) | (try cbv))))
    refine Ops.call0 _ (hH) rfl ?_; rintro v V' ⟨rfl, rfl⟩; simp only [lapp, List.map_nil, rn, rnL]
    (cbv; repeat' (first | (refine ⟨by simp only [Ops.need_eq, needs]; first | rfl | decide, ?_⟩; try cbv) | (refine mt (fun h => ?_) (fun h => ?_) <;> first | (exfalso; simp [Ops.cmp_eq, Ops.not_eq, icmp] at h; done) | (exfalso; simp [Ops.cmp_eq, icmp] at h; omega) | (try cbv))))
    refine Ops.call0 _ (lSlot_ev e.c qs) rfl ?_; rintro v V' ⟨rfl, rfl⟩; simp only [lapp, List.map_nil, rn, rnL]
    generalize hs : slotA e.c qs = sl at *
    (refine ⟨by first | (cbv; done) | exact trivial | (cbv; trivial), ?_⟩); (cbv; repeat' (first | (refine ⟨by simp only [Ops.need_eq, needs]; first | rfl | decide, ?_⟩; try cbv) | (refine mt (fun h => ?_) (fun h => ?_) <;> first | (exfalso; simp [Ops.cmp_eq, Ops.not_eq, icmp] at h; done) | (exfalso; simp [Ops.cmp_eq, icmp] at h; omega) | (try cbv))))
    refine Ops.call _ [0] (PeekB_ev m sl) rfl rfl rfl ⟨.inr (by rw [← hM]; rfl), trivial⟩ ?_; rintro v V' ⟨rfl, rfl⟩; simp only [layB, lset, lapp, List.map_nil, List.map_cons, rnB_bx, rn, rnL]; rw [hM]
    have hS := Slot_ev (W0 := W0) (m.peek sl)
    generalize hp : m.peek sl = w1 at *
    (refine ⟨by first | (cbv; done) | exact trivial | (cbv; trivial), ?_⟩); (cbv; repeat' (first | (refine ⟨by simp only [Ops.need_eq, needs]; first | rfl | decide, ?_⟩; try cbv) | (refine mt (fun h => ?_) (fun h => ?_) <;> first | (exfalso; simp [Ops.cmp_eq, Ops.not_eq, icmp] at h; done) | (exfalso; simp [Ops.cmp_eq, icmp] at h; omega) | (try cbv))))
    refine Ops.call0 _ (hS) rfl ?_; rintro v V' ⟨rfl, rfl⟩; simp only [lapp, List.map_nil, rn, rnL]
    generalize hss : slotOf w1 = s1 at *
    obtain ⟨s1a, s1b, s1c, s1d⟩ := s1
    (refine ⟨by first | (cbv; done) | exact trivial | (cbv; trivial), ?_⟩); (cbv; repeat' (first | (refine ⟨by simp only [Ops.need_eq, needs]; first | rfl | decide, ?_⟩; try cbv) | (refine mt (fun h => ?_) (fun h => ?_) <;> first | (exfalso; simp [Ops.cmp_eq, Ops.not_eq, icmp] at h; done) | (exfalso; simp [Ops.cmp_eq, icmp] at h; omega) | (try cbv))))
    simp only [o.ar_eq, arith]
    generalize hz : IntKind.i64.wrap (s1b + 1) = z at *
    refine Ops.call _ [0] (PeekB_ev m z) rfl rfl rfl ⟨.inr (by rw [← hM]; rfl), trivial⟩ ?_; rintro v V' ⟨rfl, rfl⟩; simp only [layB, lset, lapp, List.map_nil, List.map_cons, rnB_bx, rn, rnL]; rw [hM]
    have hC := Cell_ev (W0 := W0) (m.peek z)
    generalize hp2 : m.peek z = w2 at *
    (refine ⟨by first | (cbv; done) | exact trivial | (cbv; trivial), ?_⟩); (cbv; repeat' (first | (refine ⟨by simp only [Ops.need_eq, needs]; first | rfl | decide, ?_⟩; try cbv) | (refine mt (fun h => ?_) (fun h => ?_) <;> first | (exfalso; simp [Ops.cmp_eq, Ops.not_eq, icmp] at h; done) | (exfalso; simp [Ops.cmp_eq, icmp] at h; omega) | (try cbv))))
    refine Ops.call0 _ (hC) rfl ?_; rintro v V' ⟨rfl, rfl⟩; simp only [lapp, List.map_nil, rn, rnL]
    generalize hcc : cellOf w2 = s2 at *
    obtain ⟨s2a, s2b, s2c⟩ := s2
    (try simp only [cfix] at *); (try simp only [Int.ofNat_eq_natCast] at *)
    have hRR : s2a = kp := by
      rw [← hn2, hq]
      show s2a = (cellOf (m.peek (IntKind.i64.wrap ((slotOf (m.peek (slotA e.c qs))).addr + 1)))).value
      rw [hs, hp, hss]
      show _ = (cellOf (m.peek (IntKind.i64.wrap (s1b + 1)))).value
      rw [hz, hp2, hcc]
    subst hRR
    clear hn2
    (refine ⟨by first | (cbv; done) | exact trivial | (cbv; trivial), ?_⟩); (cbv; repeat' (first | (refine ⟨by simp only [Ops.need_eq, needs]; first | rfl | decide, ?_⟩; try cbv) | (refine mt (fun h => ?_) (fun h => ?_) <;> first | (exfalso; simp [Ops.cmp_eq, Ops.not_eq, icmp] at h; done) | (exfalso; simp [Ops.cmp_eq, icmp] at h; omega) | (try cbv))))
    refine ⟨fun mm env V => ∃ (t : Nat) (r : Nat → Value), k ≤ t ∧ t ≤ kp ∧ mm = kp - t ∧ env = mix [(2, .sl 1 1 0 nK nK), (3, .ptr 2 0), (7, .int .u64 nx), (8, .int .i64 t), (9, .int .i64 n), (13, .int .i64 kp)] r ∧ V = [M, .arr 1 xs tot, envC e 0],
      ⟨kp - k, o.reI (Re.ren [0, 1, 2] _ _ rfl rfl ?_ ?_ fun r => ⟨k, r, Nat.le_refl _, Int.ofNat_le.1 hxk, rfl, rfl, rfl⟩)⟩, ?_⟩
    · exact ⟨rfl, rfl, rfl, rfl, rfl, rfl, trivial⟩
    · exact ⟨.inr (by rw [hMr]; rfl), .inr (by rw [hXr]; rfl), .inr rfl, trivial⟩
    rintro mm env V ⟨t, r, hkt, htn, rfl, rfl, rfl⟩
    have hkn2 : kp < nK := Int.ofNat_lt.1 kk1
    have hgt := hg t (by omega)
    by_cases htl : t < kp
    · rw [hkg t hkt htl] at hgt
      (cbv; repeat' (first | (refine ⟨by simp only [Ops.need_eq, needs]; first | rfl | decide, ?_⟩; try cbv) | (refine mt (fun h => ?_) (fun h => ?_) <;> first | (exfalso; simp [Ops.cmp_eq, Ops.not_eq, icmp] at h; done) | (exfalso; simp [Ops.cmp_eq, icmp] at h; omega) | (try cbv))))
      refine ⟨by simp only [Ops.inb_eq]; exact decide_eq_true ⟨by first | exact (Int.natCast_nonneg t) | (simp only [Int.ofNat_eq_natCast]; exact (Int.natCast_nonneg t)), by first | exact (show (t : Int) < nK by omega) | (simp only [Int.ofNat_eq_natCast]; exact (show (t : Int) < nK by omega))⟩, ?_⟩
      simp only [Int.toNat_natCast, Int.ofNat_eq_natCast, Ops.get_eq, Ops.nadd_eq, Ops.nat_eq, Nat.zero_add, (hgt)]
      (cbv; repeat' (first | (refine ⟨by simp only [Ops.need_eq, needs]; first | rfl | decide, ?_⟩; try cbv) | (refine mt (fun h => ?_) (fun h => ?_) <;> first | (exfalso; simp [Ops.cmp_eq, Ops.not_eq, icmp] at h; done) | (exfalso; simp [Ops.cmp_eq, icmp] at h; omega) | (try cbv))))
      refine ⟨kp - (t + 1), by omega, o.reI (Re.ren [0, 1, 2] _ _ rfl rfl ?_ ?_ fun r => ⟨t + 1, r, by omega, by omega, rfl, rfl, rfl⟩)⟩
      · refine ⟨rfl, rfl, rfl, ?_, rfl, rfl, trivial⟩
        exact congrArg (VV.int .i64) (by simp only [Ops.ar_eq]; exact add1 (i := t) (by omega))
      · exact ⟨.inr (by rw [hMr]; rfl), .inr (by rw [hXr]; rfl), .inr rfl, trivial⟩
    · obtain rfl : t = kp := by omega
      rw [kk2] at hgt
      (cbv; repeat' (first | (refine ⟨by simp only [Ops.need_eq, needs]; first | rfl | decide, ?_⟩; try cbv) | (refine mt (fun h => ?_) (fun h => ?_) <;> first | (exfalso; simp [Ops.cmp_eq, Ops.not_eq, icmp] at h; done) | (exfalso; simp [Ops.cmp_eq, icmp] at h; omega) | (try cbv))))
      refine ⟨by simp only [Ops.inb_eq]; exact decide_eq_true ⟨by first | exact (Int.natCast_nonneg t) | (simp only [Int.ofNat_eq_natCast]; exact (Int.natCast_nonneg t)), by first | exact (show (t : Int) < nK by omega) | (simp only [Int.ofNat_eq_natCast]; exact (show (t : Int) < nK by omega))⟩, ?_⟩
      simp only [Int.toNat_natCast, Int.ofNat_eq_natCast, Ops.get_eq, Ops.nadd_eq, Ops.nat_eq, Nat.zero_add, (hgt)]
      (cbv; repeat' (first | (refine ⟨by simp only [Ops.need_eq, needs]; first | rfl | decide, ?_⟩; try cbv) | (refine mt (fun h => ?_) (fun h => ?_) <;> first | (exfalso; simp [Ops.cmp_eq, Ops.not_eq, icmp] at h; done) | (exfalso; simp [Ops.cmp_eq, icmp] at h; omega) | (try cbv))))
      refine ⟨post.length, by simp, o.reI (Re.ren [0, 1, 2] _ _ rfl rfl ?_ ?_ fun r => ⟨_, post, t + 1, r, hnext, hlo', hhi', by omega, by rw [hfo]; exact hfn, rfl, by rw [hlen', hfo], rfl⟩)⟩
      · refine ⟨rfl, rfl, rfl, ?_, ?_, trivial⟩
        · exact congrArg (VV.int .i64) (by simp only [Ops.ar_eq]; exact add1 (i := t) (by omega))
        · exact congrArg (VV.int .i64) (by simp only [Ops.ar_eq]; exact add1 (i := n) (by omega))
      · exact ⟨.inr (by rw [hMr]; rfl), .inr (by rw [hXr]; rfl), .inr rfl, trivial⟩
end Go.Proofs.YtglghdjpkecngaaGreat
