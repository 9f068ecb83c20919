/- list: no slot left for a node. -/
import Derived.Test.YtglghdjpkecngaaGreatDA
import Derived.Test.YtglghdjpkecngaaGreatXd
import Derived.Test.YtglghdjpkecngaaGreatIRG
namespace Go.Proofs.YtglghdjpkecngaaGreat
set_option linter.unusedVariables false
set_option linter.unusedSimpArgs false
open Go Go.SL Go.FL
set_option maxRecDepth 100000
def icell (x : Int) : List VV := [.int .i64 x]
theorem icell_plain (l : List Int) : Plain (l.map icell) := Plain.of (fun _ _ => rfl) l
theorem iget (l : List Int) (i : Nat) (h : i < l.length) : ∃ k : Int, (l.map icell)[i]? = some [.int .i64 k] := ⟨l[i], by simp [List.getElem?_eq_getElem h, icell]⟩
theorem bset (l : List Bool) (i : Nat) (b : Bool) : (l.map bcell).set i [.bool b] = (l.set i b).map bcell := by simp [bcell]
theorem bset_get (l : List Bool) (i j : Nat) (b : Bool) (h : j < l.length) : (l.set i b)[j]?.getD false = if i = j then b else l[j]?.getD false := by
  by_cases hij : i = j
  · subst hij; rw [List.getElem?_set_self h, if_pos rfl]; rfl
  · rw [List.getElem?_set_ne hij, if_neg hij]
set_option maxHeartbeats 8000000 in
theorem ListFull_ev {W0 : World} (slots : Int) (l : List Int) (oid : Option Nat) (cap : Nat) (ho : oid = some 0 ∨ (oid = none ∧ l = [])) : Ev Tryz.prog W0 9 [.int .i64 slots, .osl oid 1 0 l.length cap] [.ro 1 (l.map icell)] (fun v V' => v = .bool true) := by
  refine Ev.out fun Q' hQ => ev9 rfl fun o => ?_
  obtain ⟨s7, hs7, hs8⟩ : ∃ n : Nat, arith .and .i64 slots 7 = n ∧ n < 8 := by
    have := andIo (n := slots) (m := 7) (by omega)
    refine ⟨u64i slots &&& 7, this, ?_⟩
    have := Nat.and_le_right (n := u64i slots) (m := 7)
    omega
  have hs9 : arith .add .i64 1 (s7 : Int) = ((s7 + 1 : Nat) : Int) := by
    have : arith .add .i64 1 (s7 : Int) = 1 + (s7 : Int) := w64_id (by omega) (by omega)
    rw [this]; omega
  obtain ⟨⟨d1, d2, d3, d4⟩, m0, kz, hb, rfl, hLA⟩ := begun_ok (s7 + 1) (by omega) (by omega)
  obtain ⟨A0, hw⟩ := hLA 16
  have hc : CfgOk (arena 4 (s7 + 1 : Nat) 12 40).c := by constructor <;> simp only [arena] <;> omega
  have hg := iget l
  have hpl := icell_plain l
  have hE : ∀ i, (arena 4 (s7 + 1 : Nat) 12 40).v i = .agg [.int .i64 4, .int .i64 (s7 + 1 : Nat), .int .i64 12, .int .i64 40, .int .i64 100, .int .i64 600, .int .i64 3, .ptr i 0, .int .i64 0] := fun _ => rfl
  have hbe := begun_ev (W0 := W0) (s7 + 1 : Nat) (by omega) (by omega) hb
  have hAsk := fun kind key m (d : DoneS) m' h => Ask_ev (W0 := W0) (arena 4 (s7 + 1 : Nat) 12 40) d2 kind key m (d := d) (m' := m') h
  have hsub : arith .sub .i64 ((s7 + 1 : Nat) : Int) 1 = (s7 : Int) := by
    have : arith .sub .i64 ((s7 + 1 : Nat) : Int) 1 = ((s7 + 1 : Nat) : Int) - 1 := w64_id (by omega) (by omega)
    rw [this]; omega
  have hAdd : ∀ (m : MemS) (inn : List Bool) (cnt i key : Nat) (b : Int), LX (arena 4 (s7 + 1 : Nat) 12 40).c 6 (d2, kz) m inn cnt i b → inn.length = 16 → i < 100 → key < 16 →
      ∃ x h v s m', FL.ask (arena 4 (s7 + 1 : Nat) 12 40) d2 2 key m = some (⟨x, h, v, s⟩, m') ∧
      ((inn[key]?.getD false = true ∧ x = 0 ∧ v = 0 ∧ LX (arena 4 (s7 + 1 : Nat) 12 40).c 6 (d2, kz) m' inn cnt (i + 1) b) ∨
       (inn[key]?.getD false = false ∧ cnt = s7 ∧ x = 7 ∧ v = 0 ∧ LX (arena 4 (s7 + 1 : Nat) 12 40).c 6 (d2, kz) m' inn cnt (i + 1) b) ∨
       (inn[key]?.getD false = false ∧ cnt < s7 ∧ x = 0 ∧ v = 1 ∧ LX (arena 4 (s7 + 1 : Nat) 12 40).c 6 (d2, kz) m' (inn.set key true) (cnt + 1) (i + 1) b)) := fun m inn cnt i key b A h16 hi hk => by
    obtain ⟨x, h, v, s, m', g1, g2⟩ := A.add hc hw rfl (key := key) (by omega) (by omega) (by simp only [arena]; omega)
    refine ⟨x, h, v, s, m', g1, ?_⟩
    rcases g2 with g | ⟨a1, a2, a3⟩ | ⟨a1, a2, a3⟩
    · exact .inl g
    · exact .inr (.inl ⟨a1, by simp only [arena] at a2; omega, a3⟩)
    · exact .inr (.inr ⟨a1, by simp only [arena] at a2; omega, a3⟩)
  have hHas : ∀ (m : MemS) (inn : List Bool) (cnt i key : Nat) (b : Int), LX (arena 4 (s7 + 1 : Nat) 12 40).c 6 (d2, kz) m inn cnt i b → inn.length = 16 → key < 16 → inn[key]?.getD false = false →
      ∃ h s m', FL.ask (arena 4 (s7 + 1 : Nat) 12 40) d2 1 key m = some (⟨0, h, 0, s⟩, m') ∧ LX (arena 4 (s7 + 1 : Nat) 12 40).c 6 (d2, kz) m' inn cnt i b := fun m inn cnt i key b A h16 hk hf => by
    obtain ⟨h, s, m', g1, g2⟩ := A.has hc hw (key := key) (by omega) (by omega)
    rw [hf] at g1
    exact ⟨h, s, m', g1, g2⟩
  have hRem : ∀ (m : MemS) (inn : List Bool) (cnt i key : Nat) (b : Int), LX (arena 4 (s7 + 1 : Nat) 12 40).c 6 (d2, kz) m inn cnt i b → inn.length = 16 → key < 16 → inn[key]?.getD false = true → b < 100 →
      ∃ cnt' h s m', cnt = cnt' + 1 ∧ FL.ask (arena 4 (s7 + 1 : Nat) 12 40) d2 3 key m = some (⟨0, h, 1, s⟩, m') ∧ LX (arena 4 (s7 + 1 : Nat) 12 40).c 6 (d2, kz) m' (inn.set key false) cnt' i (b + 1) := fun m inn cnt i key b A h16 hk hf hb => A.rem hc hw (key := key) (by omega) (by omega) hf (by simp only [arena]; omega)
  have hSt := fun (m : MemS) (inn : List Bool) (tot : Nat) (hK : inn.length ≤ 64) (ks : List (Nat × Int)) (hl : ks.length < 60) (S : Seen m (arena 4 (s7 + 1 : Nat) 12 40).c d2 ks inn) => sorted_ev (W0 := W0) m (arena 4 (s7 + 1 : Nat) 12 40) d2 inn ks tot hK hl S.h0 S.h00 S.hn S.so S.K
  have hSeen : ∀ m inn cnt a b, inn.length = 16 → LX (arena 4 (s7 + 1 : Nat) 12 40).c 6 (d2, kz) m inn cnt a b → ∃ ks, ks.length < 60 ∧ Seen m (arena 4 (s7 + 1 : Nat) 12 40).c d2 ks inn := fun m inn cnt a b h16 A => by
    obtain ⟨ks, hk, S⟩ := A.seen hc (by simp only [arena]; omega)
    have := A.le
    exact ⟨ks, by omega, S⟩
  have A0 := A0.lx (fun k => by rw [List.getElem?_replicate]; split <;> rfl)
  simp only [hE] at hbe hAsk hSt
  clear hb hw hc
  generalize arena 4 (s7 + 1 : Nat) 12 40 = E at *
  generalize hnx : l.length = nx at *
  generalize hxs : l.map icell = xs at *
  generalize hns : ((s7 + 1 : Nat) : Int) = ns at *
  have hXr : ∀ ρ, rnB ρ (.ro 1 xs) = .ro 1 xs := fun ρ => by simp only [rnB, hpl _]
  (cbv; repeat' (first | (refine ⟨by simp only [Ops.need_eq, needs]; first | rfl | decide, ?_⟩; try cbv) | (refine mt (fun h => ?_) (fun h => ?_) <;> first | (exfalso; simp [Ops.cmp_eq, Ops.not_eq, icmp] at h; done) | (exfalso; simp [Ops.cmp_eq, icmp] at h; omega) | (try cbv))))
  simp only [o.ar_eq]
  rw [hs7, hs9]
  refine Ops.call _ [] hbe rfl rfl rfl trivial ?_
  rintro v V' ⟨rfl, rfl⟩
  simp only [layB, lapp, List.map_cons, List.map_nil, rnB_bx, rn, rnL]
  generalize hM : bx W0 (memU m0) = M
  (cbv; repeat' (first | (refine ⟨by simp only [Ops.need_eq, needs]; first | rfl | decide, ?_⟩; try cbv) | (refine mt (fun h => ?_) (fun h => ?_) <;> first | (exfalso; simp [Ops.cmp_eq, Ops.not_eq, icmp] at h; done) | (exfalso; simp [Ops.cmp_eq, icmp] at h; omega) | (try cbv))))
  refine Ops.call0 _ (awake16_ev) rfl ?_; rintro v V' ⟨rfl, rfl⟩; simp only [lapp, List.map_nil, rn, rnL]
  (cbv; repeat' (first | (refine ⟨by simp only [Ops.need_eq, needs]; first | rfl | decide, ?_⟩; try cbv) | (refine mt (fun h => ?_) (fun h => ?_) <;> first | (exfalso; simp [Ops.cmp_eq, Ops.not_eq, icmp] at h; done) | (exfalso; simp [Ops.cmp_eq, icmp] at h; omega) | (try cbv))))
  refine ⟨by simp [o.inb_eq], ?_⟩
  have hrep : o.rep (o.nat 16) [VV.bool false] = (List.replicate 16 false).map bcell := by simp only [o.rep_eq, o.nat_eq]; rfl
  have hn16 : o.nat 16 = 16 := by simp only [o.nat_eq]; rfl
  have hm16 : o.nmul 16 1 = 16 := by simp only [o.nmul_eq]
  simp only [hn16] at hrep
  simp only [hn16, hm16, hrep]
  subst hM
  refine ⟨fun mm env V => ∃ (i : Nat) (m : MemS) (inn : List Bool) (cnt : Nat) (r : Nat → Value), i ≤ nx ∧ i ≤ 40 ∧ inn.length = 16 ∧ LX E.c 6 (d2, kz) m inn cnt (2 * i + 1) (i + 1) ∧ mm = 40 - i ∧
    env = mix [(1, .osl oid 1 0 nx cap), (5, .int .i64 ns), (6, .ptr 2 0), (7, .int .u64 d2), (9, .sl 3 1 0 16 16), (10, .int .i64 cnt), (11, .int .i64 i)] r ∧ V = [.ro 1 xs, bx W0 (memU m), .cells [.int .i64 4, .int .i64 ns, .int .i64 12, .int .i64 40, .int .i64 100, .int .i64 600, .int .i64 3, .ptr 1 0, .int .i64 0], .arr 1 (inn.map bcell) 16],
    ⟨40, o.reI (Re.ren [0, 1, 2, 3] _ _ rfl rfl ?_ ?_ fun r => ⟨0, m0, List.replicate 16 false, 0, r, Nat.zero_le _, Nat.zero_le _, by simp, A0.weak (Nat.le_refl _) (by decide), rfl, rfl, rfl⟩)⟩, ?_⟩
  · refine ⟨?_, rfl, rfl, rfl, rfl, rfl, rfl, trivial⟩
    rcases ho with rfl | ⟨rfl, _⟩ <;> rfl
  · exact ⟨.inr (by rw [hXr]; rfl), .inr rfl, .inr rfl, .inr rfl, trivial⟩
  rintro mm env V ⟨i, m, inn, cnt, r, hi, hi2, h16, A, rfl, rfl, rfl⟩
  have hbp := bcell_plain inn
  have hbg := bget inn
  have hbs := bset inn
  have hcle := A.le
  generalize hbx : inn.map bcell = bxs at *
  by_cases hlt : i < nx ∧ i < 40
  · obtain ⟨w3, hw⟩ := hg i hlt.1
    obtain rfl : oid = some 0 := by
      rcases ho with h | ⟨_, h⟩
      · exact h
      · subst h; simp at hnx; omega
    obtain ⟨ky, hky, hky2⟩ := key15 w3
    obtain ⟨x1, x2, x3, x4, m', hask, hres⟩ := hAdd m inn cnt (2 * i + 1) ky (i + 1) A h16 (by omega) hky2
    have hAk := hAsk 2 ky m _ m' hask
    have hgk := hbg ky (by rw [h16]; exact hky2)
    generalize hM : bx W0 (memU m) = M at *
    generalize hbk : inn[ky]?.getD false = bk at *
    (cbv; repeat' (first | (refine ⟨by simp only [Ops.need_eq, needs]; first | rfl | decide, ?_⟩; try cbv) | (refine mt (fun h => ?_) (fun h => ?_) <;> first | (exfalso; simp [Ops.cmp_eq, Ops.not_eq, icmp] at h; done) | (exfalso; simp [Ops.cmp_eq, icmp] at h; omega) | (try cbv))))
    refine ⟨by simp only [Ops.inb_eq]; exact decide_eq_true ⟨by first | exact (Int.natCast_nonneg i) | (simp only [Int.ofNat_eq_natCast]; exact (Int.natCast_nonneg i)), by first | exact (show (i : Int) < nx by omega) | (simp only [Int.ofNat_eq_natCast]; exact (show (i : Int) < nx by omega))⟩, ?_⟩
    simp only [Int.toNat_natCast, Int.ofNat_eq_natCast, Ops.get_eq, Ops.nadd_eq, Ops.nat_eq, Nat.zero_add, (hw)]
    (cbv; repeat' (first | (refine ⟨by simp only [Ops.need_eq, needs]; first | rfl | decide, ?_⟩; try cbv) | (refine mt (fun h => ?_) (fun h => ?_) <;> first | (exfalso; simp [Ops.cmp_eq, Ops.not_eq, icmp] at h; done) | (exfalso; simp [Ops.cmp_eq, icmp] at h; omega) | (try cbv))))
    simp only [o.ar_eq]
    rw [hky]
    clear hky hw
    refine Ops.call _ [1] hAk rfl rfl rfl ⟨.inr (by rw [← hM]; rfl), trivial⟩ ?_
    rintro v V' ⟨rfl, rfl⟩
    simp only [layB, lset, lapp, List.map_nil, List.map_cons, rnB_bx, doneV, rn, rnL]
    clear hM hAk hask
    generalize hM : bx W0 (memU m') = M'
    rcases hres with ⟨rfl, rfl, rfl, A'⟩ | ⟨rfl, rfl, rfl, rfl, A'⟩ | ⟨rfl, hcnt, rfl, rfl, A'⟩
    · (cbv; repeat' (first | (refine ⟨by simp only [Ops.need_eq, needs]; first | rfl | decide, ?_⟩; try cbv) | (refine mt (fun h => ?_) (fun h => ?_) <;> first | (exfalso; simp [Ops.cmp_eq, Ops.not_eq, Ops.beq_eq, icmp] at h; done) | (exfalso; simp [Ops.cmp_eq, Ops.not_eq, Ops.beq_eq, icmp] at h; omega) | (try cbv))))
      refine ⟨by simp only [Ops.inb_eq]; exact decide_eq_true ⟨by first | exact (Int.natCast_nonneg ky) | (simp only [Int.ofNat_eq_natCast]; exact (Int.natCast_nonneg ky)), by first | exact (show (ky : Int) < 16 by omega) | (simp only [Int.ofNat_eq_natCast]; exact (show (ky : Int) < 16 by omega))⟩, ?_⟩
      simp only [Int.toNat_natCast, Int.ofNat_eq_natCast, Ops.get_eq, Ops.nadd_eq, Ops.nat_eq, Nat.zero_add, (hgk)]
      (cbv; repeat' (first | (refine ⟨by simp only [Ops.need_eq, needs]; first | rfl | decide, ?_⟩; try cbv) | (refine mt (fun h => ?_) (fun h => ?_) <;> first | (exfalso; simp [Ops.cmp_eq, Ops.not_eq, Ops.beq_eq, icmp] at h; done) | (exfalso; simp [Ops.cmp_eq, Ops.not_eq, Ops.beq_eq, icmp] at h; omega) | (try cbv))))
      refine ⟨40 - (i + 1), by omega, o.reI (Re.ren [0, 1, 2, 3] _ _ rfl rfl ?_ ?_ fun r => ⟨i + 1, m', inn, cnt, r, by omega, by omega, h16, A'.weak (by omega) (by (try simp only [cfix]); (try simp only [Int.ofNat_eq_natCast]); omega), rfl, rfl, rfl⟩)⟩
      · refine ⟨rfl, rfl, rfl, rfl, rfl, rfl, ?_, trivial⟩
        exact congrArg (VV.int .i64) (by simp only [Ops.ar_eq]; exact add1 (i := i) (by omega))
      · exact ⟨.inr (by rw [hXr]; rfl), .inr (by rw [← hM]; rfl), .inr rfl, .inr (by rw [hbx]; simp only [rnB, hbp _, Cap.rn]; rfl), trivial⟩
    · obtain ⟨h2, st2, m2, hask2, A2⟩ := hHas m' inn cnt (2 * i + 1 + 1) ky (i + 1) A' h16 hky2 hbk
      have hAk2 := hAsk 1 ky m' _ m2 hask2
      rw [hM] at hAk2
      have fin : cnt = 0 ∨ ∃ (j : Nat) (h3 : Nat) (st3 : Int) (m3 : MemS) (h4 : Nat) (st4 : Int) (m4 : MemS), j < 16 ∧ inn[j]?.getD false = true ∧ (∀ t, t < j → inn[t]?.getD false = false) ∧ FL.ask E d2 3 j m2 = some (⟨0, h3, 1, st3⟩, m3) ∧ FL.ask E d2 2 ky m3 = some (⟨0, h4, 1, st4⟩, m4) ∧
          LX E.c 6 (d2, kz) m4 ((inn.set j false).set ky true) cnt (2 * i + 1 + 1 + 1) (i + 1 + 1) ∧ 0 < cnt := by
        by_cases h0 : cnt = 0
        · exact .inl h0
        · right
          obtain ⟨j, j1, j2, j3⟩ := A2.first (by omega)
          obtain ⟨cnt', h3, st3, m3, hcn, hask3, A3⟩ := hRem m2 inn cnt (2 * i + 1 + 1) j (i + 1) A2 h16 (by omega) j2 (by (try simp only [cfix]); (try simp only [Int.ofNat_eq_natCast]); omega)
          have hkf : (inn.set j false)[ky]?.getD false = false := by
            rw [bset_get _ _ _ _ (by omega)]; split
            · rfl
            · exact hbk
          obtain ⟨x5, h4, x6, st4, m4, hask4, hr4⟩ := hAdd m3 (inn.set j false) cnt' (2 * i + 1 + 1) ky (i + 1 + 1) A3 (by simp [h16]) (by omega) hky2
          rcases hr4 with ⟨e1, _⟩ | ⟨_, e1, _⟩ | ⟨_, _, rfl, rfl, A4⟩
          · rw [hkf] at e1; cases e1
          · omega
          · exact ⟨j, h3, st3, m3, h4, st4, m4, by omega, j2, j3, hask3, hask4, by rw [hcn]; exact A4, by omega⟩
      (cbv; repeat' (first | (refine ⟨by simp only [Ops.need_eq, needs]; first | rfl | decide, ?_⟩; try cbv) | (refine mt (fun h => ?_) (fun h => ?_) <;> first | (exfalso; simp [Ops.cmp_eq, Ops.not_eq, Ops.beq_eq, icmp, o.ar_eq, hsub] at h; done) | (exfalso; simp [Ops.cmp_eq, Ops.not_eq, Ops.beq_eq, icmp, o.ar_eq, hsub] at h; omega) | (try cbv))))
      refine ⟨by simp only [Ops.inb_eq]; exact decide_eq_true ⟨by first | exact (Int.natCast_nonneg ky) | (simp only [Int.ofNat_eq_natCast]; exact (Int.natCast_nonneg ky)), by first | exact (show (ky : Int) < 16 by omega) | (simp only [Int.ofNat_eq_natCast]; exact (show (ky : Int) < 16 by omega))⟩, ?_⟩
      simp only [Int.toNat_natCast, Int.ofNat_eq_natCast, Ops.get_eq, Ops.nadd_eq, Ops.nat_eq, Nat.zero_add, (hgk)]
      (cbv; repeat' (first | (refine ⟨by simp only [Ops.need_eq, needs]; first | rfl | decide, ?_⟩; try cbv) | (refine mt (fun h => ?_) (fun h => ?_) <;> first | (exfalso; simp [Ops.cmp_eq, Ops.not_eq, Ops.beq_eq, icmp, o.ar_eq, hsub] at h; done) | (exfalso; simp [Ops.cmp_eq, Ops.not_eq, Ops.beq_eq, icmp, o.ar_eq, hsub] at h; omega) | (try cbv))))
      refine Ops.call _ [1] hAk2 rfl rfl rfl ⟨.inr (by rw [← hM]; rfl), trivial⟩ ?_
      rintro v V' ⟨rfl, rfl⟩
      simp only [layB, lset, lapp, List.map_nil, List.map_cons, rnB_bx, doneV, rn, rnL]
      clear hM hAk2 hask2
      generalize hM : bx W0 (memU m2) = M2
      rcases fin with h0 | ⟨j, h3, st3, m3, h4, st4, m4, hj, hj1, hj2, hask3, hask4, A4, hc0⟩
      · (cbv; repeat' (first | (refine ⟨by simp only [Ops.need_eq, needs]; first | rfl | decide, ?_⟩; try cbv) | (refine mt (fun h => ?_) (fun h => ?_) <;> first | (exfalso; simp [Ops.cmp_eq, Ops.not_eq, Ops.beq_eq, icmp, o.ar_eq, hsub] at h; done) | (exfalso; simp [Ops.cmp_eq, Ops.not_eq, Ops.beq_eq, icmp, o.ar_eq, hsub] at h; omega) | (try cbv))))
        refine ⟨40 - (i + 1), by omega, o.reI (Re.ren [0, 1, 2, 3] _ _ rfl rfl ?_ ?_ fun r => ⟨i + 1, m2, inn, cnt, r, by omega, by omega, by simp [h16], A2.weak (by omega) (by (try simp only [cfix]); (try simp only [Int.ofNat_eq_natCast]); omega), rfl, rfl, rfl⟩)⟩
        · refine ⟨rfl, rfl, rfl, rfl, rfl, rfl, ?_, trivial⟩
          exact congrArg (VV.int .i64) (by simp only [Ops.ar_eq]; exact add1 (i := i) (by omega))
        · refine ⟨.inr (by rw [hXr]; rfl), .inr (by rw [← hM]; rfl), .inr rfl, .inr ?_, trivial⟩
          have hp2 := bcell_plain (inn)
          show some (VB.arr 1 _ 16) = _
          simp only [rnB, hp2 _, Cap.rn]
          rw [hbx]; rfl
      · (cbv; repeat' (first | (refine ⟨by simp only [Ops.need_eq, needs]; first | rfl | decide, ?_⟩; try cbv) | (refine mt (fun h => ?_) (fun h => ?_) <;> first | (exfalso; simp [Ops.cmp_eq, Ops.not_eq, Ops.beq_eq, icmp, o.ar_eq, hsub] at h; done) | (exfalso; simp [Ops.cmp_eq, Ops.not_eq, Ops.beq_eq, icmp, o.ar_eq, hsub] at h; omega) | (try cbv))))
        have hAk3 := hAsk 3 j m2 _ m3 hask3
        have hAk4 := hAsk 2 ky m3 _ m4 hask4
        refine ⟨fun mm env V => ∃ (t : Nat) (r : Nat → Value), t ≤ j ∧ mm = j - t ∧ env = mix [(1, .osl (some 0) 1 0 nx cap), (5, .int .i64 ns), (6, .ptr 2 0), (7, .int .u64 d2), (9, .sl 3 1 0 16 16), (10, .int .i64 cnt), (11, .int .i64 i), (12, .int .i64 ky), (14, .int .i64 t)] r ∧
          V = [.ro 1 xs, M2, .cells [.int .i64 4, .int .i64 ns, .int .i64 12, .int .i64 40, .int .i64 100, .int .i64 600, .int .i64 3, .ptr 1 0, .int .i64 0], .arr 1 bxs 16],
          ⟨j, o.reI (Re.ren [0, 1, 2, 3] _ _ rfl rfl ?_ ?_ fun r => ⟨0, r, Nat.zero_le _, rfl, rfl, rfl⟩)⟩, ?_⟩
        · exact ⟨rfl, rfl, rfl, rfl, rfl, rfl, rfl, rfl, rfl, trivial⟩
        · exact ⟨.inr (by rw [hXr]; rfl), .inr (by rw [← hM]; rfl), .inr rfl, .inr (by simp only [rnB, hbp _, Cap.rn]; rfl), trivial⟩
        rintro mm env V ⟨t, r, htj, rfl, rfl, rfl⟩
        have hgt := hbg t (by omega)
        by_cases htl : t < j
        · rw [hj2 t htl] at hgt
          (cbv; repeat' (first | (refine ⟨by simp only [Ops.need_eq, needs]; first | rfl | decide, ?_⟩; try cbv) | (refine mt (fun h => ?_) (fun h => ?_) <;> first | (exfalso; simp [Ops.cmp_eq, Ops.not_eq, Ops.beq_eq, icmp, o.ar_eq, hsub] at h; done) | (exfalso; simp [Ops.cmp_eq, Ops.not_eq, Ops.beq_eq, icmp, o.ar_eq, hsub] at h; omega) | (try cbv))))
          refine ⟨by simp only [Ops.inb_eq]; exact decide_eq_true ⟨by first | exact (Int.natCast_nonneg t) | (simp only [Int.ofNat_eq_natCast]; exact (Int.natCast_nonneg t)), by first | exact (show (t : Int) < 16 by omega) | (simp only [Int.ofNat_eq_natCast]; exact (show (t : Int) < 16 by omega))⟩, ?_⟩
          simp only [Int.toNat_natCast, Int.ofNat_eq_natCast, Ops.get_eq, Ops.nadd_eq, Ops.nat_eq, Nat.zero_add, (hgt)]
          (cbv; repeat' (first | (refine ⟨by simp only [Ops.need_eq, needs]; first | rfl | decide, ?_⟩; try cbv) | (refine mt (fun h => ?_) (fun h => ?_) <;> first | (exfalso; simp [Ops.cmp_eq, Ops.not_eq, Ops.beq_eq, icmp, o.ar_eq, hsub] at h; done) | (exfalso; simp [Ops.cmp_eq, Ops.not_eq, Ops.beq_eq, icmp, o.ar_eq, hsub] at h; omega) | (try cbv))))
          refine ⟨j - (t + 1), by omega, o.reI (Re.ren [0, 1, 2, 3] _ _ rfl rfl ?_ ?_ fun r => ⟨t + 1, r, by omega, rfl, rfl, rfl⟩)⟩
          · refine ⟨rfl, rfl, rfl, rfl, rfl, rfl, rfl, rfl, ?_, trivial⟩
            exact congrArg (VV.int .i64) (by simp only [Ops.ar_eq]; exact add1 (i := t) (by omega))
          · exact ⟨.inr (by rw [hXr]; rfl), .inr (by rw [← hM]; rfl), .inr rfl, .inr (by simp only [rnB, hbp _, Cap.rn]; rfl), trivial⟩
        · obtain rfl : t = j := by omega
          rw [hj1] at hgt
          rw [hM] at hAk3
          (cbv; repeat' (first | (refine ⟨by simp only [Ops.need_eq, needs]; first | rfl | decide, ?_⟩; try cbv) | (refine mt (fun h => ?_) (fun h => ?_) <;> first | (exfalso; simp [Ops.cmp_eq, Ops.not_eq, Ops.beq_eq, icmp, o.ar_eq, hsub] at h; done) | (exfalso; simp [Ops.cmp_eq, Ops.not_eq, Ops.beq_eq, icmp, o.ar_eq, hsub] at h; omega) | (try cbv))))
          refine ⟨by simp only [Ops.inb_eq]; exact decide_eq_true ⟨by first | exact (Int.natCast_nonneg t) | (simp only [Int.ofNat_eq_natCast]; exact (Int.natCast_nonneg t)), by first | exact (show (t : Int) < 16 by omega) | (simp only [Int.ofNat_eq_natCast]; exact (show (t : Int) < 16 by omega))⟩, ?_⟩
          simp only [Int.toNat_natCast, Int.ofNat_eq_natCast, Ops.get_eq, Ops.nadd_eq, Ops.nat_eq, Nat.zero_add, (hgt)]
          (cbv; repeat' (first | (refine ⟨by simp only [Ops.need_eq, needs]; first | rfl | decide, ?_⟩; try cbv) | (refine mt (fun h => ?_) (fun h => ?_) <;> first | (exfalso; simp [Ops.cmp_eq, Ops.not_eq, Ops.beq_eq, icmp, o.ar_eq, hsub] at h; done) | (exfalso; simp [Ops.cmp_eq, Ops.not_eq, Ops.beq_eq, icmp, o.ar_eq, hsub] at h; omega) | (try cbv))))
          refine Ops.call _ [1] hAk3 rfl rfl rfl ⟨.inr (by rw [← hM]; rfl), trivial⟩ ?_
          rintro v V' ⟨rfl, rfl⟩
          simp only [layB, lset, lapp, List.map_nil, List.map_cons, rnB_bx, doneV, rn, rnL]
          clear hM hAk3 hask3
          generalize hM : bx W0 (memU m3) = M3
          rw [hM] at hAk4
          (cbv; repeat' (first | (refine ⟨by simp only [Ops.need_eq, needs]; first | rfl | decide, ?_⟩; try cbv) | (refine mt (fun h => ?_) (fun h => ?_) <;> first | (exfalso; simp [Ops.cmp_eq, Ops.not_eq, Ops.beq_eq, icmp, o.ar_eq, hsub] at h; done) | (exfalso; simp [Ops.cmp_eq, Ops.not_eq, Ops.beq_eq, icmp, o.ar_eq, hsub] at h; omega) | (try cbv))))
          refine Ops.call _ [1] hAk4 rfl rfl rfl ⟨.inr (by rw [← hM]; rfl), trivial⟩ ?_
          rintro v V' ⟨rfl, rfl⟩
          simp only [layB, lset, lapp, List.map_nil, List.map_cons, rnB_bx, doneV, rn, rnL]
          clear hM hAk4 hask4
          generalize hM : bx W0 (memU m4) = M4
          (cbv; repeat' (first | (refine ⟨by simp only [Ops.need_eq, needs]; first | rfl | decide, ?_⟩; try cbv) | (refine mt (fun h => ?_) (fun h => ?_) <;> first | (exfalso; simp [Ops.cmp_eq, Ops.not_eq, Ops.beq_eq, icmp, o.ar_eq, hsub] at h; done) | (exfalso; simp [Ops.cmp_eq, Ops.not_eq, Ops.beq_eq, icmp, o.ar_eq, hsub] at h; omega) | (try cbv))))
          have hgs : (bxs.set t [VV.bool false])[ky]? = some [VV.bool false] := by
            rw [hbs, bget _ _ (by simp [h16]; omega), bset_get _ _ _ _ (by omega)]
            split
            · rfl
            · rw [hbk]
          refine ⟨by simp only [Ops.inb_eq]; exact decide_eq_true ⟨by first | exact (Int.natCast_nonneg t) | (simp only [Int.ofNat_eq_natCast]; exact (Int.natCast_nonneg t)), by first | exact (show (t : Int) < 16 by omega) | (simp only [Int.ofNat_eq_natCast]; exact (show (t : Int) < 16 by omega))⟩, ?_⟩
          simp only [Int.toNat_natCast, Int.ofNat_eq_natCast, Ops.get_eq, Ops.nadd_eq, Ops.nat_eq, Nat.zero_add, (hgt)]
          (cbv; repeat' (first | (refine ⟨by simp only [Ops.need_eq, needs]; first | rfl | decide, ?_⟩; try cbv) | (refine mt (fun h => ?_) (fun h => ?_) <;> first | (exfalso; simp [Ops.cmp_eq, Ops.not_eq, Ops.beq_eq, icmp, o.ar_eq, hsub] at h; done) | (exfalso; simp [Ops.cmp_eq, Ops.not_eq, Ops.beq_eq, icmp, o.ar_eq, hsub] at h; omega) | (try cbv))))
          refine ⟨by simp only [Ops.inb_eq]; exact decide_eq_true ⟨by first | exact (Int.natCast_nonneg ky) | (simp only [Int.ofNat_eq_natCast]; exact (Int.natCast_nonneg ky)), by first | exact (show (ky : Int) < 16 by omega) | (simp only [Int.ofNat_eq_natCast]; exact (show (ky : Int) < 16 by omega))⟩, ?_⟩
          have hgs2 : o.get (o.set bxs t [VV.bool false]) ky = some [VV.bool false] := by simp only [o.get_eq, o.set_eq]; exact hgs
          simp only [Int.toNat_natCast, Int.ofNat_eq_natCast, Ops.nadd_eq, Ops.nat_eq, Nat.zero_add, hgs2]
          (cbv; repeat' (first | (refine ⟨by simp only [Ops.need_eq, needs]; first | rfl | decide, ?_⟩; try cbv) | (refine mt (fun h => ?_) (fun h => ?_) <;> first | (exfalso; simp [Ops.cmp_eq, Ops.not_eq, Ops.beq_eq, icmp, o.ar_eq, hsub] at h; done) | (exfalso; simp [Ops.cmp_eq, Ops.not_eq, Ops.beq_eq, icmp, o.ar_eq, hsub] at h; omega) | (try cbv))))
          refine ⟨40 - (i + 1), by omega, o.reI (Re.ren [0, 1, 2, 3] _ _ rfl rfl ?_ ?_ fun r => ⟨i + 1, m4, (inn.set t false).set ky true, cnt, r, by omega, by omega, by simp [h16], A4.weak (by omega) (by (try simp only [cfix]); (try simp only [Int.ofNat_eq_natCast]); omega), rfl, rfl, rfl⟩)⟩
          · refine ⟨rfl, rfl, rfl, rfl, rfl, rfl, ?_, trivial⟩
            exact congrArg (VV.int .i64) (by simp only [Ops.ar_eq]; exact add1 (i := i) (by omega))
          · refine ⟨.inr (by rw [hXr]; rfl), .inr (by rw [← hM]; rfl), .inr rfl, .inr ?_, trivial⟩
            have hp2 := bcell_plain ((inn.set t false).set ky true)
            show some (VB.arr 1 _ 16) = _
            simp only [rnB, hp2 _, Cap.rn]
            simp only [o.set_eq, hbs, bset]; rfl
    · (cbv; repeat' (first | (refine ⟨by simp only [Ops.need_eq, needs]; first | rfl | decide, ?_⟩; try cbv) | (refine mt (fun h => ?_) (fun h => ?_) <;> first | (exfalso; simp [Ops.cmp_eq, Ops.not_eq, Ops.beq_eq, icmp, o.ar_eq, hsub] at h; done) | (exfalso; simp [Ops.cmp_eq, Ops.not_eq, Ops.beq_eq, icmp, o.ar_eq, hsub] at h; omega) | (try cbv))))
      refine ⟨by simp only [Ops.inb_eq]; exact decide_eq_true ⟨by first | exact (Int.natCast_nonneg ky) | (simp only [Int.ofNat_eq_natCast]; exact (Int.natCast_nonneg ky)), by first | exact (show (ky : Int) < 16 by omega) | (simp only [Int.ofNat_eq_natCast]; exact (show (ky : Int) < 16 by omega))⟩, ?_⟩
      simp only [Int.toNat_natCast, Int.ofNat_eq_natCast, Ops.get_eq, Ops.nadd_eq, Ops.nat_eq, Nat.zero_add, (hgk)]
      (cbv; repeat' (first | (refine ⟨by simp only [Ops.need_eq, needs]; first | rfl | decide, ?_⟩; try cbv) | (refine mt (fun h => ?_) (fun h => ?_) <;> first | (exfalso; simp [Ops.cmp_eq, Ops.not_eq, Ops.beq_eq, icmp, o.ar_eq, hsub] at h; done) | (exfalso; simp [Ops.cmp_eq, Ops.not_eq, Ops.beq_eq, icmp, o.ar_eq, hsub] at h; omega) | (try cbv))))
      refine ⟨by simp only [Ops.inb_eq]; exact decide_eq_true ⟨by first | exact (Int.natCast_nonneg ky) | (simp only [Int.ofNat_eq_natCast]; exact (Int.natCast_nonneg ky)), by first | exact (show (ky : Int) < 16 by omega) | (simp only [Int.ofNat_eq_natCast]; exact (show (ky : Int) < 16 by omega))⟩, ?_⟩
      simp only [Int.toNat_natCast, Int.ofNat_eq_natCast, Ops.get_eq, Ops.nadd_eq, Ops.nat_eq, Nat.zero_add, (hgk)]
      (cbv; repeat' (first | (refine ⟨by simp only [Ops.need_eq, needs]; first | rfl | decide, ?_⟩; try cbv) | (refine mt (fun h => ?_) (fun h => ?_) <;> first | (exfalso; simp [Ops.cmp_eq, Ops.not_eq, Ops.beq_eq, icmp, o.ar_eq, hsub] at h; done) | (exfalso; simp [Ops.cmp_eq, Ops.not_eq, Ops.beq_eq, icmp, o.ar_eq, hsub] at h; omega) | (try cbv))))
      refine ⟨40 - (i + 1), by omega, o.reI (Re.ren [0, 1, 2, 3] _ _ rfl rfl ?_ ?_ fun r => ⟨i + 1, m', inn.set ky true, cnt + 1, r, by omega, by omega, by simp [h16], A'.weak (by omega) (by (try simp only [cfix]); (try simp only [Int.ofNat_eq_natCast]); omega), rfl, rfl, rfl⟩)⟩
      · refine ⟨rfl, rfl, rfl, rfl, rfl, ?_, ?_, trivial⟩
        · first | rfl | exact congrArg (VV.int .i64) (by simp only [Ops.ar_eq]; exact add1 (i := cnt) (by omega))
        · exact congrArg (VV.int .i64) (by simp only [Ops.ar_eq]; exact add1 (i := i) (by omega))
      · refine ⟨.inr (by rw [hXr]; rfl), .inr (by rw [← hM]; rfl), .inr rfl, .inr ?_, trivial⟩
        have hp2 := bcell_plain (inn.set ky true)
        show some (VB.arr 1 _ 16) = _
        simp only [rnB, hp2 _, Cap.rn]
        simp only [o.set_eq, hbs]; rfl
  · obtain ⟨ks, hks, S⟩ := hSeen m inn cnt _ _ h16 A
    have hS := hSt m inn 16 (by omega) ks hks S
    rw [h16, hbx] at hS
    generalize hM : bx W0 (memU m) = M at *
    have hend : nx ≤ i ∨ (i < nx ∧ 40 ≤ i) := by omega
    rcases hend with h1 | ⟨h1, h2⟩
    all_goals
      (cbv; repeat' (first | (refine ⟨by simp only [Ops.need_eq, needs]; first | rfl | decide, ?_⟩; try cbv) | (refine mt (fun h => ?_) (fun h => ?_) <;> first | (exfalso; simp [Ops.cmp_eq, Ops.not_eq, Ops.beq_eq, icmp] at h; done) | (exfalso; simp [Ops.cmp_eq, Ops.not_eq, Ops.beq_eq, icmp] at h; omega) | (try cbv))))
      refine Ops.call _ [1, 3] hS rfl rfl rfl ⟨.inr (by rw [← hM]; rfl), .inr (by simp only [rnB, hbp _, Cap.rn]; rfl), trivial⟩ ?_
      rintro v V' ⟨rfl, rfl⟩
      simp only [layB, lset, lapp, List.map_nil, List.map_cons, rn, rnL]
      (cbv; repeat' (first | (refine ⟨by simp only [Ops.need_eq, needs]; first | rfl | decide, ?_⟩; try cbv) | (refine mt (fun h => ?_) (fun h => ?_) <;> first | (exfalso; simp [Ops.cmp_eq, Ops.not_eq, Ops.beq_eq, icmp] at h; done) | (exfalso; simp [Ops.cmp_eq, Ops.not_eq, Ops.beq_eq, icmp] at h; omega) | (try cbv))))
      exact hQ _ _ (ReV.ren [0] (.bool true) [.ro 1 xs] rfl rfl rfl ⟨.inr (by rw [hXr]; rfl), trivial⟩ rfl)
end Go.Proofs.YtglghdjpkecngaaGreat
